/- Own texts of this claim, laid together: Fc6, Fc7, Al3, AlP, Al4, VcInv, VcSort, KyShelf, Al5, VcAlloc, Al6, Al7, Al8, AlL, Al9, Al10, Al11, Al12, Fc9, Al13, Al14, Al15. -/
import Derived.Test.YtkbjdkkpjjlbeaaMg3e852608
import Derived.Test.YtkbjdkkpjjlbeaaProg
import Derived.Shelf.SlSortCmp.NoneTotal
import Derived.Shelf.SlLaysF0
import Derived.Shelf.SlGeneric

/- The formulas of functions, printed by a program (VcTool.lean): each is what the generator's formula comes to, by the kernel's reckoning; whoever proves one has the function's contract. -/
set_option maxRecDepth 100000
set_option maxHeartbeats 1000000
set_option linter.unusedVariables false
namespace Vcc
open Go Go.Vc Go.RowKit
/-! (*manciple/alarm.Alarms).Set -/
def h22 : Hints := ⟨[4], [14, 24, 28, 31, 35, 40, 51], [11, 22], [(3, [0, 1, 2, 3, 4, 5, 6, 7, 8, 9, 10]), (7, [0, 1, 2, 3, 4, 5, 6, 7, 8, 9, 10, 11, 12, 13, 14, 15, 16, 17])], [], [], [], [], []⟩
def f22_vc (a : Option Addr) (k_0 : Int) (k_1 : Int) (k_2 : Int) (at' : Int) (w : World) (R : Ending → World → Prop) : Prop :=
 ∀ (n1 : Nat),
 w.heap.size ≤ n1 →
 ∀ (w2 : World),
 Bel w w2 →
 Under [n1] w2 →
 Calls Proofs.Try.prog 40 #[Value.pointer a] w2 fun (e3 : Ending) (w4 : World) =>
 ∃ (b5 : Bool),
 e3 = Ending.returned (Value.bool b5) ∧
 Keeps [n1] w2 w4 ∧
 ((!b5) = true → R (Ending.returned (Value.bool false)) w4) ∧
 ((!b5) = false →
 ∃ (ad6 : Addr),
 a = some ad6 ∧
 ∃ (r7 : Option Nat),
 Reads Proofs.Try.prog [] (Instr.loadAt 73 (Value.pointer (some (Addr.mk ad6.block (ad6.off + 1) none)))) w4 (Value.map r7) ∧
 ∃ (x8 : Int),
 ∃ (b9 : Bool),
 Reads Proofs.Try.prog [] (Instr.lookup 73 (Value.map r7) (Value.agg #[Value.int IntKind.i64 k_0, Value.int IntKind.i64 k_1, Value.int IntKind.i64 k_2]) true) w4
 (Value.tuple #[Value.int IntKind.i64 x8, Value.bool b9]) ∧
 ((!b9) = true →
 ∃ (ad10 : Addr),
 a = some ad10 ∧
 ∃ (x11 : Int),
 Reads Proofs.Try.prog [] (Instr.loadAt 2 (Value.pointer (some (Addr.mk ad10.block (ad10.off + 3) none)))) w4 (Value.int IntKind.i64 x11) ∧
 ∃ (ad12 : Addr),
 a = some ad12 ∧
 ∀ (w13 : World),
 Bel w4 w13 →
 Under [n1] w13 →
 OpW Proofs.Try.prog (skipS (Instr.storeAt 2 (Value.pointer (some (Addr.mk ad12.block (ad12.off + 3) none))) (Value.int IntKind.i64 (IntKind.i64.wrap (x11 + 1))))) w13
 fun (v14 : Value) (w15 : World) =>
 Keeps [n1] w13 w15 ∧
 ∃ (ad16 : Addr),
 a = some ad16 ∧
 ∃ (x17 : Int),
 Reads Proofs.Try.prog [] (Instr.loadAt 2 (Value.pointer (some (Addr.mk ad16.block (ad16.off + 3) none)))) w15 (Value.int IntKind.i64 x17) ∧
 ∃ (ad18 : Addr),
 a = some ad18 ∧
 ∃ (r19 : Option Nat),
 Reads Proofs.Try.prog [] (Instr.loadAt 73 (Value.pointer (some (Addr.mk ad18.block (ad18.off + 1) none)))) w15 (Value.map r19) ∧
 ∃ (ad20 : Addr),
 a = some ad20 ∧
 ∃ (r21 : Option Nat),
 Reads Proofs.Try.prog [] (Instr.loadAt 74 (Value.pointer (some (Addr.mk ad20.block (ad20.off + 2) none)))) w15 (Value.map r21) ∧
 ∀ (w22 : World),
 Bel w15 w22 →
 Under [n1] w22 →
 OpW Proofs.Try.prog
 (valueS (Instr.mapEntry 73 (Value.map r19) (Value.agg #[Value.int IntKind.i64 k_0, Value.int IntKind.i64 k_1, Value.int IntKind.i64 k_2]))) w22
 fun (v23 : Value) (w24 : World) =>
 ∃ (x25 : Int),
 ∃ (x26 : Int),
 v23 = Value.tuple #[Value.int IntKind.i64 x25, Value.int IntKind.i64 x26] ∧
 Keeps [n1] w22 w24 ∧
 OpW Proofs.Try.prog (skipS (Instr.entryStore 73 (Value.map r19) (Value.int IntKind.i64 x26) (Value.int IntKind.i64 x17))) w24
 fun (v27 : Value) (w28 : World) =>
 Keeps [n1] w24 w28 ∧
 OpW Proofs.Try.prog (valueS (Instr.mapEntry 74 (Value.map r21) (Value.int IntKind.i64 x17))) w28 fun (v29 : Value) (w30 : World) =>
 ∃ (x31 : Int),
 ∃ (x32 : Int),
 ∃ (x33 : Int),
 ∃ (x34 : Int),
 v29 =
 Value.tuple
 #[Value.agg #[Value.int IntKind.i64 x31, Value.int IntKind.i64 x32, Value.int IntKind.i64 x33],
 Value.int IntKind.i64 x34] ∧
 Keeps [n1] w28 w30 ∧
 OpW Proofs.Try.prog
 (skipS
 (Instr.entryStore 74 (Value.map r21) (Value.int IntKind.i64 x34)
 (Value.agg #[Value.int IntKind.i64 k_0, Value.int IntKind.i64 k_1, Value.int IntKind.i64 k_2])))
 w30 fun (v35 : Value) (w36 : World) =>
 Keeps [n1] w30 w36 ∧
 ∃ (ad37 : Addr),
 a = some ad37 ∧
 ∃ (a38 : Option Addr),
 Reads Proofs.Try.prog [] (Instr.loadAt 23 (Value.pointer (some ad37))) w36 (Value.pointer a38) ∧
 Calls Proofs.Try.prog 10 #[Value.pointer a38, Value.int IntKind.i64 x17, Value.int IntKind.i64 at'] w36
 fun (e39 : Ending) (w40 : World) =>
 ∃ (b41 : Bool),
 e39 = Ending.returned (Value.bool b41) ∧
 Keeps [n1] w36 w40 ∧ R (Ending.returned (Value.bool !b9)) w40) ∧
 ((!b9) = false →
 ∃ (ad42 : Addr),
 a = some ad42 ∧
 ∃ (a43 : Option Addr),
 Reads Proofs.Try.prog [] (Instr.loadAt 23 (Value.pointer (some ad42))) w4 (Value.pointer a43) ∧
 ∀ (w44 : World),
 Bel w4 w44 →
 Under [n1] w44 →
 Calls Proofs.Try.prog 10 #[Value.pointer a43, Value.int IntKind.i64 x8, Value.int IntKind.i64 at'] w44 fun (e45 : Ending) (w46 : World) =>
 ∃ (b47 : Bool), e45 = Ending.returned (Value.bool b47) ∧ Keeps [n1] w44 w46 ∧ R (Ending.returned (Value.bool !b9)) w46))
theorem f22_eq (a : Option Addr) (k_0 : Int) (k_1 : Int) (k_2 : Int) (at' : Int) (w : World) (R : Ending → World → Prop) : (fnF Go.Proofs.Try.prog h22 Go.Proofs.Try.f22 [Value.pointer a, Value.agg #[Value.int IntKind.i64 k_0, Value.int IntKind.i64 k_1, Value.int IntKind.i64 k_2], Value.int IntKind.i64 at'] w R).den = f22_vc a k_0 k_1 k_2 at' w R := by kernel_rfl
theorem f22_calls (a : Option Addr) (k_0 : Int) (k_1 : Int) (k_2 : Int) (at' : Int) (w : World) (R : Ending → World → Prop) (h : f22_vc a k_0 k_1 k_2 at' w R) : Calls Go.Proofs.Try.prog 22 (List.toArray [Value.pointer a, Value.agg #[Value.int IntKind.i64 k_0, Value.int IntKind.i64 k_1, Value.int IntKind.i64 k_2], Value.int IntKind.i64 at']) w R :=
 fn_sound (H := h22) (fn := Go.Proofs.Try.f22) (by kernel_rfl) (by kernel_rfl) (by kernel_rfl) ((f22_eq a k_0 k_1 k_2 at' w R).mpr h)


/-! manciple/mancipleref12.Ahead -/
def h57 : Hints := ⟨[2, 3], [], [15, 25, 36, 42], [], [], [], [], [], [(1, (.op 0 (.op 1 (.op 2 (.op 3 (.alt (.op 4 (.op 5 (.op 6 (.op 7 .nil)))) (.op 5 (.op 4 (.op 6 (.op 7 .nil))))))))))]⟩
def f57_vc (x_0 : Int) (x_1 : Int) (x_2 : Int) (x_3 : Int) (y_0 : Int) (y_1 : Int) (y_2 : Int) (y_3 : Int) (w : World) (R : Ending → World → Prop) : Prop :=
 ∀ (n1 : Nat),
 w.heap.size ≤ n1 →
 ∀ (n2 : Nat),
 w.heap.size ≤ n2 →
 (∀ (w3 : World),
 Bel w w3 →
 Under [n1, n2] w3 →
 OpW Proofs.Try.prog (valueS (Instr.alloc 66 true (Value.tuple #[]))) w3 fun (v4 : Value) (w5 : World) =>
 ∃ (ad6 : Addr),
 v4 = Value.pointer (some ad6) ∧
 Keeps [n1, n2] w3 w5 ∧
 OpW Proofs.Try.prog (valueS (Instr.alloc 66 true (Value.tuple #[]))) w5 fun (v7 : Value) (w8 : World) =>
 ∃ (ad9 : Addr),
 v7 = Value.pointer (some ad9) ∧
 Keeps [n1, n2] w5 w8 ∧
 OpW Proofs.Try.prog (skipS (Instr.storeAt 66 (Value.pointer (some ad6)) (Value.agg #[Value.int IntKind.i64 x_0, Value.int IntKind.i64 x_1, Value.int IntKind.i64 x_2]))) w8 fun (v10 : Value) (w11 : World) =>
 Keeps [n1, n2] w8 w11 ∧
 OpW Proofs.Try.prog (skipS (Instr.storeAt 66 (Value.pointer (some ad9)) (Value.agg #[Value.int IntKind.i64 y_0, Value.int IntKind.i64 y_1, Value.int IntKind.i64 y_2]))) w11
 fun (v12 : Value) (w13 : World) =>
 Keeps [n1, n2] w11 w13 ∧
 ((x_3 != y_3) = true → R (Ending.returned (Value.bool (decide (x_3 < y_3)))) w13) ∧
 ((x_3 != y_3) = false →
 ∃ (x14 : Int),
 Reads Proofs.Try.prog [] (Instr.loadAt 3 (Value.pointer (some ad6))) w13 (Value.int IntKind.i64 x14) ∧
 ∃ (x15 : Int),
 Reads Proofs.Try.prog [] (Instr.loadAt 3 (Value.pointer (some ad9))) w13 (Value.int IntKind.i64 x15) ∧
 ((x14 != x15) = true →
 ∃ (x16 : Int),
 Reads Proofs.Try.prog [] (Instr.loadAt 3 (Value.pointer (some ad6))) w13 (Value.int IntKind.i64 x16) ∧
 ∃ (x17 : Int), Reads Proofs.Try.prog [] (Instr.loadAt 3 (Value.pointer (some ad9))) w13 (Value.int IntKind.i64 x17) ∧ R (Ending.returned (Value.bool (decide (x16 < x17)))) w13) ∧
 ((x14 != x15) = false →
 ∃ (x18 : Int),
 Reads Proofs.Try.prog [] (Instr.loadAt 2 (Value.pointer (some (Addr.mk ad6.block (ad6.off + 1) none)))) w13 (Value.int IntKind.i64 x18) ∧
 ∃ (x19 : Int),
 Reads Proofs.Try.prog [] (Instr.loadAt 2 (Value.pointer (some (Addr.mk ad9.block (ad9.off + 1) none)))) w13 (Value.int IntKind.i64 x19) ∧
 (decide (x18 < x19) = true → R (Ending.returned (Value.bool true)) w13) ∧
 (decide (x18 < x19) = false →
 ∃ (x20 : Int),
 Reads Proofs.Try.prog [] (Instr.loadAt 2 (Value.pointer (some (Addr.mk ad6.block (ad6.off + 1) none)))) w13 (Value.int IntKind.i64 x20) ∧
 ∃ (x21 : Int),
 Reads Proofs.Try.prog [] (Instr.loadAt 2 (Value.pointer (some (Addr.mk ad9.block (ad9.off + 1) none)))) w13 (Value.int IntKind.i64 x21) ∧
 ((x20 == x21) = true →
 ∃ (x22 : Int),
 Reads Proofs.Try.prog [] (Instr.loadAt 2 (Value.pointer (some (Addr.mk ad6.block (ad6.off + 2) none)))) w13 (Value.int IntKind.i64 x22) ∧
 ∃ (x23 : Int),
 Reads Proofs.Try.prog [] (Instr.loadAt 2 (Value.pointer (some (Addr.mk ad9.block (ad9.off + 2) none)))) w13 (Value.int IntKind.i64 x23) ∧
 R (Ending.returned (Value.bool (decide (x22 < x23)))) w13) ∧
 ((x20 == x21) = false → R (Ending.returned (Value.bool false)) w13))))) ∧
 ∀ (w24 : World),
 Bel w w24 →
 Under [n1, n2] w24 →
 OpW Proofs.Try.prog (valueS (Instr.alloc 66 true (Value.tuple #[]))) w24 fun (v25 : Value) (w26 : World) =>
 ∃ (ad27 : Addr),
 v25 = Value.pointer (some ad27) ∧
 Keeps [n1, n2] w24 w26 ∧
 OpW Proofs.Try.prog (valueS (Instr.alloc 66 true (Value.tuple #[]))) w26 fun (v28 : Value) (w29 : World) =>
 ∃ (ad30 : Addr),
 v28 = Value.pointer (some ad30) ∧
 Keeps [n1, n2] w26 w29 ∧
 OpW Proofs.Try.prog (skipS (Instr.storeAt 66 (Value.pointer (some ad30)) (Value.agg #[Value.int IntKind.i64 x_0, Value.int IntKind.i64 x_1, Value.int IntKind.i64 x_2]))) w29 fun (v31 : Value) (w32 : World) =>
 Keeps [n1, n2] w29 w32 ∧
 OpW Proofs.Try.prog (skipS (Instr.storeAt 66 (Value.pointer (some ad27)) (Value.agg #[Value.int IntKind.i64 y_0, Value.int IntKind.i64 y_1, Value.int IntKind.i64 y_2]))) w32
 fun (v33 : Value) (w34 : World) =>
 Keeps [n1, n2] w32 w34 ∧
 ((x_3 != y_3) = true → R (Ending.returned (Value.bool (decide (x_3 < y_3)))) w34) ∧
 ((x_3 != y_3) = false →
 ∃ (x35 : Int),
 Reads Proofs.Try.prog [] (Instr.loadAt 3 (Value.pointer (some ad30))) w34 (Value.int IntKind.i64 x35) ∧
 ∃ (x36 : Int),
 Reads Proofs.Try.prog [] (Instr.loadAt 3 (Value.pointer (some ad27))) w34 (Value.int IntKind.i64 x36) ∧
 ((x35 != x36) = true →
 ∃ (x37 : Int),
 Reads Proofs.Try.prog [] (Instr.loadAt 3 (Value.pointer (some ad30))) w34 (Value.int IntKind.i64 x37) ∧
 ∃ (x38 : Int), Reads Proofs.Try.prog [] (Instr.loadAt 3 (Value.pointer (some ad27))) w34 (Value.int IntKind.i64 x38) ∧ R (Ending.returned (Value.bool (decide (x37 < x38)))) w34) ∧
 ((x35 != x36) = false →
 ∃ (x39 : Int),
 Reads Proofs.Try.prog [] (Instr.loadAt 2 (Value.pointer (some (Addr.mk ad30.block (ad30.off + 1) none)))) w34 (Value.int IntKind.i64 x39) ∧
 ∃ (x40 : Int),
 Reads Proofs.Try.prog [] (Instr.loadAt 2 (Value.pointer (some (Addr.mk ad27.block (ad27.off + 1) none)))) w34 (Value.int IntKind.i64 x40) ∧
 (decide (x39 < x40) = true → R (Ending.returned (Value.bool true)) w34) ∧
 (decide (x39 < x40) = false →
 ∃ (x41 : Int),
 Reads Proofs.Try.prog [] (Instr.loadAt 2 (Value.pointer (some (Addr.mk ad30.block (ad30.off + 1) none)))) w34 (Value.int IntKind.i64 x41) ∧
 ∃ (x42 : Int),
 Reads Proofs.Try.prog [] (Instr.loadAt 2 (Value.pointer (some (Addr.mk ad27.block (ad27.off + 1) none)))) w34 (Value.int IntKind.i64 x42) ∧
 ((x41 == x42) = true →
 ∃ (x43 : Int),
 Reads Proofs.Try.prog [] (Instr.loadAt 2 (Value.pointer (some (Addr.mk ad30.block (ad30.off + 2) none)))) w34 (Value.int IntKind.i64 x43) ∧
 ∃ (x44 : Int),
 Reads Proofs.Try.prog [] (Instr.loadAt 2 (Value.pointer (some (Addr.mk ad27.block (ad27.off + 2) none)))) w34 (Value.int IntKind.i64 x44) ∧
 R (Ending.returned (Value.bool (decide (x43 < x44)))) w34) ∧
 ((x41 == x42) = false → R (Ending.returned (Value.bool false)) w34))))
theorem f57_eq (x_0 : Int) (x_1 : Int) (x_2 : Int) (x_3 : Int) (y_0 : Int) (y_1 : Int) (y_2 : Int) (y_3 : Int) (w : World) (R : Ending → World → Prop) : (fnF Go.Proofs.Try.prog h57 Go.Proofs.Try.f57 [Value.agg #[Value.int IntKind.i64 x_0, Value.int IntKind.i64 x_1, Value.int IntKind.i64 x_2, Value.int IntKind.i64 x_3],
 Value.agg #[Value.int IntKind.i64 y_0, Value.int IntKind.i64 y_1, Value.int IntKind.i64 y_2, Value.int IntKind.i64 y_3]] w R).den = f57_vc x_0 x_1 x_2 x_3 y_0 y_1 y_2 y_3 w R := by kernel_rfl
theorem f57_calls (x_0 : Int) (x_1 : Int) (x_2 : Int) (x_3 : Int) (y_0 : Int) (y_1 : Int) (y_2 : Int) (y_3 : Int) (w : World) (R : Ending → World → Prop) (h : f57_vc x_0 x_1 x_2 x_3 y_0 y_1 y_2 y_3 w R) : Calls Go.Proofs.Try.prog 57 (List.toArray [Value.agg #[Value.int IntKind.i64 x_0, Value.int IntKind.i64 x_1, Value.int IntKind.i64 x_2, Value.int IntKind.i64 x_3],
 Value.agg #[Value.int IntKind.i64 y_0, Value.int IntKind.i64 y_1, Value.int IntKind.i64 y_2, Value.int IntKind.i64 y_3]]) w R :=
 fn_sound (H := h57) (fn := Go.Proofs.Try.f57) (by kernel_rfl) (by kernel_rfl) (by kernel_rfl) ((f57_eq x_0 x_1 x_2 x_3 y_0 y_1 y_2 y_3 w R).mpr h)

end Vcc

/- The formulas of functions, printed by a program (VcTool.lean): each is what the generator's formula comes to, by the kernel's reckoning; whoever proves one has the function's contract. -/
set_option maxRecDepth 100000
set_option maxHeartbeats 1000000
set_option linter.unusedVariables false
namespace Vcc
open Go Go.Vc Go.RowKit
/-! (*manciple/alarm.Alarms).All -/
def h23 : Hints := ⟨[], [9], [7], [], [], [(5, ⟨[(3, .sl)], []⟩)], [], [(13, .cons (.agg (.cons (.int .i64) (.cons (.int .i64) (.cons (.int .i64) (.nil))))) (.cons (.int .i64) (.nil)))], []⟩
def f23_vc (a : Option Addr) (w : World) (R : Ending → World → Prop) : Prop :=
 OpW Proofs.Try.prog (valueS (Instr.box 50 (Value.pointer a))) w fun (v1 : Value) (w2 : World) =>
 ∃ (ad3 : Addr),
 v1 = Value.pointer (some ad3) ∧
 ∃ (a4 : Option Addr),
 Reads Proofs.Try.prog [] (Instr.loadAt 50 (Value.pointer (some ad3))) w2 (Value.pointer a4) ∧
 Calls Proofs.Try.prog 40 #[Value.pointer a4] w2 fun (e5 : Ending) (w6 : World) =>
 ∃ (b7 : Bool),
 e5 = Ending.returned (Value.bool b7) ∧
 ((!b7) = true → R (Ending.returned (Value.slice none 0 0)) w6) ∧
 ((!b7) = false →
 ∃ (a8 : Option Addr),
 Reads Proofs.Try.prog [] (Instr.loadAt 50 (Value.pointer (some ad3))) w6 (Value.pointer a8) ∧
 ∃ (ad9 : Addr),
 a8 = some ad9 ∧
 ∃ (r10 : Option Nat),
 Reads Proofs.Try.prog [] (Instr.loadAt 73 (Value.pointer (some (Addr.mk ad9.block (ad9.off + 1) none)))) w6 (Value.map r10) ∧
 OpW Proofs.Try.prog (valueS (Instr.range 73 (Value.map r10))) w6 fun (v11 : Value) (w12 : World) =>
 ∃ (ad13 : Addr),
 v11 = Value.pointer (some ad13) ∧
 ∃ (J14 : (Option Addr × Nat × Nat) × Unit → World → Prop),
 ∃ (J15 : (Option Addr × Nat × Nat) × Unit → World → Nat),
 J14 ((none, 0, 0), ()) w12 ∧
 ∀ (a16 : Option Addr) (n17 n18 : Nat) (w19 : World),
 J14 ((a16, n17, n18), ()) w19 →
 OpW Proofs.Try.prog (valueS (Instr.next (Value.pointer (some ad13)) false 0)) w19 fun (v20 : Value) (w21 : World) =>
 (v20 = Value.tuple #[Value.bool false] ∨
 ∃ (x :
 (nextShape
 (Hints.mk [] [9] [7] [] [] [(5, LH.mk [(3, Sh.sl)] [])] []
 [(13, ((Sh.int IntKind.i64).cons ((Sh.int IntKind.i64).cons ((Sh.int IntKind.i64).cons Sh.nil))).agg.cons ((Sh.int IntKind.i64).cons Sh.nil))] [])
 #[Oper.mk (some 13) (Op.next (Operand.tmp 12) false) 0 "alarm.go:125" #[] none,
 Oper.mk (some 14) (Op.extract (Operand.tmp 13) 0) 4 "alarm.go:125" #[Edge.mk 0 Ground.data] none][0]).T),
 v20 =
 Value.tuple
 #[Value.bool true, Value.agg #[Value.int IntKind.i64 x.fst.fst, Value.int IntKind.i64 x.fst.snd.fst, Value.int IntKind.i64 x.fst.snd.snd.fst], Value.int IntKind.i64 x.snd.fst]) ∧
 (v20 = Value.tuple #[Value.bool false] →
 Calls Proofs.Try.prog 41 #[Value.slice a16 n17 n18, Value.func (Fn.func 42) #[] #[Value.pointer (some ad3)]] w21 fun (e22 : Ending) (w23 : World) =>
 e22 = Ending.returned (Value.tuple #[]) ∧ R (Ending.returned (Value.slice a16 n17 n18)) w23) ∧
 ∀ (x24 x25 x26 x27 : Int),
 v20 = Value.tuple #[Value.bool true, Value.agg #[Value.int IntKind.i64 x24, Value.int IntKind.i64 x25, Value.int IntKind.i64 x26], Value.int IntKind.i64 x27] →
 OpW Proofs.Try.prog ((Instr.entry (Value.pointer (some ad13))).bind fun (__do_lift : Value) => pure (Next.value __do_lift)) w21 fun (v28 : Value) (w29 : World) =>
 ∃ (v30 : Value),
 ∃ (v31 : Value),
 v28 = Value.tuple #[v30, v31] ∧
 OpW Proofs.Try.prog (valueS (Instr.alloc 54 true (Value.tuple #[]))) w29 fun (v32 : Value) (w33 : World) =>
 ∃ (ad34 : Addr),
 v32 = Value.pointer (some ad34) ∧
 OpW Proofs.Try.prog (skipS (Instr.storeAt 54 (Value.pointer (some ad34)) v30)) w33 fun (v35 : Value) (w36 : World) =>
 ∃ (x37 : Int),
 ∃ (x38 : Int),
 ∃ (x39 : Int),
 Reads Proofs.Try.prog [] (Instr.loadAt 54 (Value.pointer (some ad34))) w36
 (Value.agg #[Value.int IntKind.i64 x37, Value.int IntKind.i64 x38, Value.int IntKind.i64 x39]) ∧
 OpW Proofs.Try.prog (valueS (Instr.buildSlice 49 1 #[(0, Value.agg #[Value.int IntKind.i64 x37, Value.int IntKind.i64 x38, Value.int IntKind.i64 x39])])) w36
 fun (v40 : Value) (w41 : World) =>
 ∃ (a42 : Option Addr),
 ∃ (n43 : Nat),
 ∃ (n44 : Nat),
 v40 = Value.slice a42 n43 n44 ∧
 OpW Proofs.Try.prog (builtin Builtin.append #[49, 49] 49 #[false, false] #[Value.slice a16 n17 n18, Value.slice a42 n43 n44]) w41
 fun (v45 : Value) (w46 : World) =>
 ∃ (a47 : Option Addr),
 ∃ (n48 : Nat),
 ∃ (n49 : Nat), v45 = Value.slice a47 n48 n49 ∧ J14 ((a47, n48, n49), ()) w46 ∧ J15 ((a47, n48, n49), ()) w46 < J15 ((a16, n17, n18), ()) w19)
theorem f23_eq (a : Option Addr) (w : World) (R : Ending → World → Prop) : (fnF Go.Proofs.Try.prog h23 Go.Proofs.Try.f23 [Value.pointer a] w R).den = f23_vc a w R := by kernel_rfl
theorem f23_calls (a : Option Addr) (w : World) (R : Ending → World → Prop) (h : f23_vc a w R) : Calls Go.Proofs.Try.prog 23 (List.toArray [Value.pointer a]) w R :=
 fn_sound (H := h23) (fn := Go.Proofs.Try.f23) (by kernel_rfl) (by kernel_rfl) (by kernel_rfl) ((f23_eq a w R).mpr h)


/-! (*manciple/alarm.Alarms).Forget -/
def h31 : Hints := ⟨[9, 11], [16, 40], [14, 31, 39], [], [], [(5, ⟨[(7, .sl)], []⟩), (11, ⟨[(38, .int .i64)], []⟩)], [], [(20, .cons (.agg (.cons (.int .i64) (.cons (.int .i64) (.cons (.int .i64) (.nil))))) (.cons (.int .i64) (.nil)))], []⟩
def f31_vc (a : Option Addr) (what : Int) (first : Int) (w : World) (R : Ending → World → Prop) : Prop :=
 Calls Proofs.Try.prog 40 #[Value.pointer a] w fun (e1 : Ending) (w2 : World) =>
 ∃ (b3 : Bool),
 e1 = Ending.returned (Value.bool b3) ∧
 ((!b3) = true → R (Ending.returned (Value.int IntKind.i64 0)) w2) ∧
 ((!b3) = false →
 ∃ (ad4 : Addr),
 a = some ad4 ∧
 ∃ (r5 : Option Nat),
 Reads Proofs.Try.prog [] (Instr.loadAt 73 (Value.pointer (some (Addr.mk ad4.block (ad4.off + 1) none)))) w2 (Value.map r5) ∧
 OpW Proofs.Try.prog (valueS (Instr.range 73 (Value.map r5))) w2 fun (v6 : Value) (w7 : World) =>
 ∃ (ad8 : Addr),
 v6 = Value.pointer (some ad8) ∧
 ∃ (J9 : (Option Addr × Nat × Nat) × Unit → World → Prop),
 ∃ (J10 : (Option Addr × Nat × Nat) × Unit → World → Nat),
 J9 ((none, 0, 0), ()) w7 ∧
 ∀ (a11 : Option Addr) (n12 n13 : Nat) (w14 : World),
 J9 ((a11, n12, n13), ()) w14 →
 OpW Proofs.Try.prog (valueS (Instr.next (Value.pointer (some ad8)) false 0)) w14 fun (v15 : Value) (w16 : World) =>
 (v15 = Value.tuple #[Value.bool false] ∨
 ∃ (x :
 (nextShape
 (Hints.mk [9, 11] [16, 40] [14, 31, 39] [] [] [(5, LH.mk [(7, Sh.sl)] []), (11, LH.mk [(38, Sh.int IntKind.i64)] [])] []
 [(20, ((Sh.int IntKind.i64).cons ((Sh.int IntKind.i64).cons ((Sh.int IntKind.i64).cons Sh.nil))).agg.cons ((Sh.int IntKind.i64).cons Sh.nil))] [])
 #[Oper.mk (some 20) (Op.next (Operand.tmp 19) false) 0 "alarm.go:73" #[] none, Oper.mk (some 21) (Op.extract (Operand.tmp 20) 0) 4 "alarm.go:73" #[Edge.mk 0 Ground.data] none][0]).T),
 v15 = Value.tuple #[Value.bool true, Value.agg #[Value.int IntKind.i64 x.fst.fst, Value.int IntKind.i64 x.fst.snd.fst, Value.int IntKind.i64 x.fst.snd.snd.fst], Value.int IntKind.i64 x.snd.fst]) ∧
 (v15 = Value.tuple #[Value.bool false] →
 ∃ (J17 : Int × Unit → World → Prop),
 ∃ (J18 : Int × Unit → World → Nat),
 J17 (0, ()) w16 ∧
 ∀ (x19 : Int) (w20 : World),
 J17 (x19, ()) w20 →
 (decide (x19 < (↑n12 : Int)) = true →
 ∃ (ad21 : Addr),
 Gives Proofs.Try.prog (Instr.indexAt 49 (Value.slice a11 n12 n13) (Value.int IntKind.i64 x19)) (Value.pointer (some ad21)) ∧
 ∃ (x22 : Int),
 ∃ (x23 : Int),
 ∃ (x24 : Int),
 Reads Proofs.Try.prog [] (Instr.loadAt 54 (Value.pointer (some ad21))) w20 (Value.agg #[Value.int IntKind.i64 x22, Value.int IntKind.i64 x23, Value.int IntKind.i64 x24]) ∧
 ∀ (n25 : Nat),
 w20.heap.size ≤ n25 →
 ∀ (w26 : World),
 Evo [n25] w20 w26 →
 Under [n25] w26 →
 Calls Proofs.Try.prog 43 #[Value.pointer a, Value.agg #[Value.int IntKind.i64 x22, Value.int IntKind.i64 x23, Value.int IntKind.i64 x24]] w26
 fun (e27 : Ending) (w28 : World) =>
 ∃ (b29 : Bool),
 e27 = Ending.returned (Value.bool b29) ∧
 Keeps [n25] w26 w28 ∧ J17 (IntKind.i64.wrap (x19 + 1), ()) w28 ∧ J18 (IntKind.i64.wrap (x19 + 1), ()) w28 < J18 (x19, ()) w20) ∧
 (decide (x19 < (↑n12 : Int)) = false → R (Ending.returned (Value.int IntKind.i64 (↑n12 : Int))) w20)) ∧
 ∀ (x30 x31 x32 x33 : Int),
 v15 = Value.tuple #[Value.bool true, Value.agg #[Value.int IntKind.i64 x30, Value.int IntKind.i64 x31, Value.int IntKind.i64 x32], Value.int IntKind.i64 x33] →
 OpW Proofs.Try.prog ((Instr.entry (Value.pointer (some ad8))).bind fun (__do_lift : Value) => pure (Next.value __do_lift)) w16 fun (v34 : Value) (w35 : World) =>
 ∃ (v36 : Value),
 ∃ (v37 : Value),
 v34 = Value.tuple #[v36, v37] ∧
 OpW Proofs.Try.prog (valueS (Instr.alloc 54 true (Value.tuple #[]))) w35 fun (v38 : Value) (w39 : World) =>
 ∃ (ad40 : Addr),
 v38 = Value.pointer (some ad40) ∧
 OpW Proofs.Try.prog (skipS (Instr.storeAt 54 (Value.pointer (some ad40)) v36)) w39 fun (v41 : Value) (w42 : World) =>
 ∃ (x43 : Int),
 Reads Proofs.Try.prog [] (Instr.loadAt 2 (Value.pointer (some (Addr.mk ad40.block (ad40.off + 2) none)))) w42 (Value.int IntKind.i64 x43) ∧
 ∀ (n44 : Nat),
 w42.heap.size ≤ n44 →
 ∃ (x45 : Int),
 ∃ (x46 : Int),
 ∃ (x47 : Int),
 Reads Proofs.Try.prog [n44] (Instr.loadAt 54 (Value.pointer (some ad40))) w42
 (Value.agg #[Value.int IntKind.i64 x45, Value.int IntKind.i64 x46, Value.int IntKind.i64 x47]) ∧
 ((x45 == what && (x46 == first && (x47 == x43 && true))) = true →
 ∃ (x48 : Int),
 ∃ (x49 : Int),
 ∃ (x50 : Int),
 Reads Proofs.Try.prog [n44] (Instr.loadAt 54 (Value.pointer (some ad40))) w42
 (Value.agg #[Value.int IntKind.i64 x48, Value.int IntKind.i64 x49, Value.int IntKind.i64 x50]) ∧
 ∀ (w51 : World),
 Evo [n44] w42 w51 →
 Under [n44] w51 →
 OpW Proofs.Try.prog
 (valueS (Instr.buildSlice 49 1 #[(0, Value.agg #[Value.int IntKind.i64 x48, Value.int IntKind.i64 x49, Value.int IntKind.i64 x50])])) w51
 fun (v52 : Value) (w53 : World) =>
 ∃ (a54 : Option Addr),
 ∃ (n55 : Nat),
 ∃ (n56 : Nat),
 v52 = Value.slice a54 n55 n56 ∧
 Keeps [n44] w51 w53 ∧
 OpW Proofs.Try.prog (builtin Builtin.append #[49, 49] 49 #[false, false] #[Value.slice a11 n12 n13, Value.slice a54 n55 n56]) w53
 fun (v57 : Value) (w58 : World) =>
 ∃ (a59 : Option Addr),
 ∃ (n60 : Nat),
 ∃ (n61 : Nat),
 v57 = Value.slice a59 n60 n61 ∧
 Keeps [n44] w53 w58 ∧ J9 ((a59, n60, n61), ()) w58 ∧ J10 ((a59, n60, n61), ()) w58 < J10 ((a11, n12, n13), ()) w14) ∧
 ((x45 == what && (x46 == first && (x47 == x43 && true))) = false →
 ∀ (w62 : World), Evo [n44] w42 w62 → Under [n44] w62 → J9 ((a11, n12, n13), ()) w62 ∧ J10 ((a11, n12, n13), ()) w62 < J10 ((a11, n12, n13), ()) w14))
theorem f31_eq (a : Option Addr) (what : Int) (first : Int) (w : World) (R : Ending → World → Prop) : (fnF Go.Proofs.Try.prog h31 Go.Proofs.Try.f31 [Value.pointer a, Value.int IntKind.i64 what, Value.int IntKind.i64 first] w R).den = f31_vc a what first w R := by kernel_rfl
theorem f31_calls (a : Option Addr) (what : Int) (first : Int) (w : World) (R : Ending → World → Prop) (h : f31_vc a what first w R) : Calls Go.Proofs.Try.prog 31 (List.toArray [Value.pointer a, Value.int IntKind.i64 what, Value.int IntKind.i64 first]) w R :=
 fn_sound (H := h31) (fn := Go.Proofs.Try.f31) (by kernel_rfl) (by kernel_rfl) (by kernel_rfl) ((f31_eq a what first w R).mpr h)

end Vcc

/- Alarms in memory: the struct, the heap, the two maps; made, At, loose, Drop, Set. -/
set_option maxRecDepth 20000
namespace Go.Vc.A
open Go Go.Vc Go.RowKit Go.Proofs Go.Vc.H Vcc

abbrev Ky := Int × Int × Int
abbrev kyE (k : Ky) : List Value := [.int .i64 k.1, .int .i64 k.2.1, .int .i64 k.2.2]
abbrev kyV (k : Ky) : Value := .agg #[.int .i64 k.1, .int .i64 k.2.1, .int .i64 k.2.2]
abbrev alV (g : Nat) : Value := .pointer (some ⟨g, 0, none⟩)
abbrev alC (hg r1 r2 : Nat) (last : Int) : List Value := [.pointer (some ⟨hg, 0, none⟩), .map (some r1), .map (some r2), .int .i64 last]

theorem keyOk_ky : KeyOk Try.prog 54 kyV where
  eq := fun k k' => by
    have h : eqB Try.prog 30 54 (kyV k) (kyV k') = some (k.1 == k'.1 && (k.2.1 == k'.2.1 && (k.2.2 == k'.2.2 && true))) := by kernel_rfl
    rw [h, Option.some.injEq, Bool.eq_iff_iff]
    obtain ⟨a, b, c⟩ := k
    obtain ⟨a', b', c'⟩ := k'
    simp
  now := fun d hd k k' b hb => by
    rw [Try.underlying54] at hd
    cases hd
    simp [Instr.sameNow] at hb
  chk := fun e k W => by
    have h : pureRun Try.prog (Instr.checkKey e 10000 54 (kyV k)) = some () := by kernel_rfl
    exact pureRun_run h W
  bits := fun k => by
    unfold Instr.sameBits
    simp [Instr.sameBits]
  und := ⟨_, Try.underlying54⟩

/-- What the heap's list, the two maps, the last number say together: each key's time. -/
structure AlOk (s : List It) (im : List (Ky × Int)) (km : List (Int × Ky)) (last : Int) (T : Ky → Option Int) : Prop where
  fwd : ∀ k id, mget k im = some id → mget id km = some k ∧ 1 ≤ id ∧ id ≤ last ∧ ∃ t, (id, t) ∈ s ∧ T k = some t
  bwd : ∀ id k, mget id km = some k → mget k im = some id
  all : ∀ x ∈ s, ∃ k, mget x.1 km = some k
  no : ∀ k, mget k im = none → T k = none
  ndi : (im.map (·.1)).Nodup
  ndk : (km.map (·.1)).Nodup
  lo : 0 ≤ last
  len : s.length = im.length

structure AlS (w : World) (M : Nat → Prop) (W : World) (g hg r1 r2 : Nat) (F : Nat → Prop) (s : List It) (st : Int) (im : List (Ky × Int)) (km : List (Int × Ky)) (last : Int) : Prop where
  blk : W.heap[g]? = some (.cells (alC hg r1 r2 last).toArray 76 (0, 0))
  mine : w.heap.size ≤ g ∨ M g
  hp : HpF w M W hg s st F
  ids : OwnM w M [] W r1 kyV (Value.int .i64) im
  kys : OwnM w M [] W r2 (Value.int .i64) kyV km
  ne : r1 ≠ r2
  ng : ¬ F g
  n1 : ¬ F r1
  n2 : ¬ F r2

/-- All blocks of alarms. -/
def fpA (g r1 r2 : Nat) (F : Nat → Prop) : Nat → Prop := fun b => b = g ∨ b = r1 ∨ b = r2 ∨ F b

section
variable {w W W' : World} {M N F : Nat → Prop} {gs : List Nat} {g hg r1 r2 : Nat} {s : List It} {st last : Int} {im : List (Ky × Int)} {km : List (Int × Ky)} {T : Ky → Option Int}

theorem AlS.gr1 (h : AlS w M W g hg r1 r2 F s st im km last) : g ≠ r1 := by
  obtain ⟨es, cl, hr, _⟩ := h.ids.obj
  exact cells_map h.blk hr
theorem AlS.gr2 (h : AlS w M W g hg r1 r2 F s st im km last) : g ≠ r2 := by
  obtain ⟨es, cl, hr, _⟩ := h.kys.obj
  exact cells_map h.blk hr
theorem AlS.lt (h : AlS w M W g hg r1 r2 F s st im km last) : ∀ b, fpA g r1 r2 F b → b < W.heap.size := by
  rintro b (rfl | rfl | rfl | hb)
  · exact (Array.getElem?_eq_some_iff.1 h.blk).1
  · exact h.ids.lt
  · exact h.kys.lt
  · exact h.hp.lt b hb
theorem AlS.fp (h : AlS w M W g hg r1 r2 F s st im km last) : ∀ b, fpA g r1 r2 F b → w.heap.size ≤ b ∨ M b := by
  rintro b (rfl | rfl | rfl | hb)
  · exact h.mine
  · exact h.ids.mine
  · exact h.kys.mine
  · exact h.hp.mine b hb
theorem AlS.base {w' : World} {M' : Nat → Prop} (h : AlS w M W g hg r1 r2 F s st im km last) (hm : ∀ b, fpA g r1 r2 F b → w'.heap.size ≤ b ∨ M' b) : AlS w' M' W g hg r1 r2 F s st im km last :=
  ⟨h.blk, hm g (.inl rfl), h.hp.base fun b hb => hm b (.inr (.inr (.inr hb))), ⟨hm r1 (.inr (.inl rfl)), h.ids.apart, h.ids.obj⟩, ⟨hm r2 (.inr (.inr (.inl rfl))), h.kys.apart, h.kys.obj⟩, h.ne, h.ng, h.n1, h.n2⟩
theorem AlS.entry (h : AlS w M W g hg r1 r2 F s st im km last) : AlS W (fpA g r1 r2 F) W g hg r1 r2 F s st im km last := h.base fun _ hb => .inr hb
theorem OwnM_keep {κ α : Type} {kf : κ → Value} {vf : α → Value} {r : Nat} {m : List (κ × α)} (h : OwnM w M gs W r kf vf m) (hc : W'.heap[r]? = W.heap[r]?) : OwnM w M gs W' r kf vf m := by
  obtain ⟨es, cl, hr, rest⟩ := h.obj
  exact ⟨h.mine, h.apart, es, cl, by rw [hc]; exact hr, rest⟩
theorem AlS.keep (h : AlS w M W g hg r1 r2 F s st im km last) (hc : ∀ b, fpA g r1 r2 F b → W'.heap[b]? = W.heap[b]?) : AlS w M W' g hg r1 r2 F s st im km last :=
  ⟨by rw [hc g (.inl rfl)]; exact h.blk, h.mine, h.hp.keep fun b hb => hc b (.inr (.inr (.inr hb))), OwnM_keep h.ids (hc r1 (.inr (.inl rfl))), OwnM_keep h.kys (hc r2 (.inr (.inr (.inl rfl)))), h.ne, h.ng, h.n1, h.n2⟩
theorem AlS.chg (h : AlS w M W g hg r1 r2 F s st im km last) (hc : Chg N W W') (hn : ∀ b, fpA g r1 r2 F b → ¬ N b) : AlS w M W' g hg r1 r2 F s st im km last := h.keep fun b hb => hc.block b (h.lt b hb) (hn b hb)
theorem AlS.call (h : AlS w M W g hg r1 r2 F s st im km last) (hb : Bel W W') : AlS w M W' g hg r1 r2 F s st im km last := h.keep fun b hf => hb.block (h.lt b hf)

theorem c40 {x y : Value} {r : Int} (hg : W.heap[g]? = some (.cells #[.pointer (some ⟨hg, 0, none⟩), x, y, .int .i64 r] 76 (0, 0))) : Ret Try.prog 40 #[alV g] W (.bool true) := by
  intro R h
  refine f40_calls _ W R ?_
  unfold f40_vc
  exact ⟨true, (fun W => rfl), brB (fun _ => ⟨_, rfl, _, rd_f0 hg (by kernel_rfl) (by simp), true, (fun W => rfl), leaf h (At.refl W) rfl⟩) (fun e => by cases e)⟩

theorem AlS.rd0 (h : AlS w M W g hg r1 r2 F s st im km last) : Reads Try.prog [] (Instr.loadAt 23 (Value.pointer (some ⟨g, 0, none⟩))) W (.pointer (some ⟨hg, 0, none⟩)) := rd_f0 h.blk (by kernel_rfl) (by simp)
theorem AlS.rd1 (h : AlS w M W g hg r1 r2 F s st im km last) : Reads Try.prog [] (Instr.loadAt 73 (Value.pointer (some (Addr.mk g (0 + 1) none)))) W (.map (some r1)) := rd_f 0 h.blk rfl (by kernel_rfl) (by simp)
theorem AlS.rd2 (h : AlS w M W g hg r1 r2 F s st im km last) : Reads Try.prog [] (Instr.loadAt 74 (Value.pointer (some (Addr.mk g (0 + 2) none)))) W (.map (some r2)) := rd_f 1 h.blk rfl (by kernel_rfl) (by simp)
theorem AlS.rd3 (h : AlS w M W g hg r1 r2 F s st im km last) : Reads Try.prog [] (Instr.loadAt 2 (Value.pointer (some (Addr.mk g (0 + 3) none)))) W (.int .i64 last) := rd_f 2 h.blk rfl (by kernel_rfl) (by simp)

/-- A key's number, and whether it is there. -/
def idV : Option Int → Value
  | some v => .tuple #[.int .i64 v, .bool true]
  | none => .tuple #[.int .i64 0, .bool false]
theorem AlS.look (h : AlS w M W g hg r1 r2 F s st im km last) (k : Ky) : Reads Try.prog [] (Instr.lookup 73 (.map (some r1)) (kyV k) true) W (match mget k im with
    | some v => .tuple #[.int .i64 v, .bool true]
    | none => .tuple #[.int .i64 0, .bool false]) := by
  intro W' hb
  have h' := run_lookup_m (P := Try.prog) (t := 73) (et := 2) (z := .int .i64 0) keyOk_ky (by kernel_rfl) (by kernel_rfl) (h.ids.call hb) k true
  rw [h']
  cases mget k im <;> rfl
theorem AlS.lookK (h : AlS w M W g hg r1 r2 F s st im km last) (id : Int) : Reads Try.prog [] (Instr.lookup 74 (.map (some r2)) (.int .i64 id) false) W (kyV ((mget id km).getD (0, 0, 0))) := by
  intro W' hb
  have h' := run_lookup_m (P := Try.prog) (kt := 2) (t := 74) (et := 54) (z := kyV (0, 0, 0)) (keyOk_int (q := .i64) (by kernel_rfl)) (by kernel_rfl) (by kernel_rfl) (h.kys.call hb) id false
  rw [h']
  cases mget id km <;> rfl

theorem atS_of {id t : Int} (hn : Nk s) (hm : (id, t) ∈ s) : atS id s = .tuple #[.int .i64 t, .bool true] := by
  unfold atS
  rcases plc_cases id s with ⟨e, hno⟩ | ⟨i, t2, e, hi⟩
  · exact absurd rfl (hno _ hm)
  · rw [e, if_neg (by omega)]
    have h2 : (id, t2) = (id, t) := nk_uniq hn (List.mem_of_getElem? hi) hm rfl
    cases h2
    simp [hi]
where
  nk_uniq {s : List It} (hn : Nk s) {x y : It} (hx : x ∈ s) (hy : y ∈ s) (e : x.1 = y.1) : x = y := by
    induction s with
    | nil => cases hx
    | cons z t ih =>
      unfold Nk at hn
      rw [List.map_cons, List.nodup_cons] at hn
      rcases List.mem_cons.1 hx with rfl | hx'
      · rcases List.mem_cons.1 hy with rfl | hy'
        · rfl
        · exact absurd (List.mem_map.2 ⟨y, hy', e.symm⟩) hn.1
      · rcases List.mem_cons.1 hy with rfl | hy'
        · exact absurd (List.mem_map.2 ⟨x, hx', e⟩) hn.1
        · exact ih hn.2 hx' hy'

/-- What At tells. -/
def atT : Option Int → Value
  | some t => .tuple #[.int .i64 t, .bool true]
  | none => .tuple #[.int .i64 0, .bool false]
theorem c27 (h : AlS w M W g hg r1 r2 F s st im km last) (ho : AlOk s im km last T) (k : Ky) : Ret Try.prog 27 #[alV g, kyV k] W (atT (T k)) := by
  intro R hR
  refine f27_calls _ k.1 k.2.1 k.2.2 W R ?_
  unfold f27_vc
  intro n1 _
  refine go_below_too (At.refl W) fun w2 hA hb2 => ?_
  have h := h.call hb2
  refine at_callb hA (c40 h.blk) fun w4 hA hk hb4 => ⟨_, rfl, hk, brB (fun e => by cases e) (fun _ => ?_)⟩
  have h := h.call hb4
  have hl := h.look k
  cases hm : mget k im with
  | none =>
    rw [hm] at hl
    refine ⟨_, rfl, _, h.rd1, _, _, hl, brB (fun _ => go_below hA fun w10 hA => leaf hR hA ?_) (fun e => by cases e)⟩
    rw [ho.no k hm]; rfl
  | some id =>
    rw [hm] at hl
    obtain ⟨_, _, _, t, ht, hT⟩ := ho.fwd k id hm
    refine ⟨_, rfl, _, h.rd1, _, _, hl, brB (fun e => by cases e) (fun _ => ⟨_, rfl, _, h.rd0, go_below_too hA fun w13 hA hb13 => ?_⟩)⟩
    have h := h.call hb13
    have e := atS_of h.hp.nk ht
    refine at_callb hA (h.hp.at_ id) fun w15 hA hk hb15 => ⟨t, true, by rw [e], hk, leaf hR hA ?_⟩
    rw [hT]; rfl
end
end Go.Vc.A

/- What alarms' parts say together: kept by dropping and setting. -/
set_option maxRecDepth 20000
namespace Go.Vc.A
open Go Go.Vc Go.RowKit Go.Proofs Go.Vc.H Vcc

theorem mdel_none' {κ α : Type} [DecidableEq κ] {k : κ} : ∀ {m : List (κ × α)}, mget k m = none → mdel k m = m
  | [], _ => rfl
  | x :: r, h => by
    unfold mget at h
    split at h
    · cases h
    · rename_i hne
      unfold mdel
      rw [if_neg hne, mdel_none' h]

variable {s : List It} {last : Int} {im : List (Ky × Int)} {km : List (Int × Ky)} {T : Ky → Option Int} {k : Ky} {id t : Int}

theorem AlOk.drop (ho : AlOk s im km last T) (hm : mget k im = some id) (hn : Nk s) : AlOk (dropR id s) (mdel k im) (mdel id km) last (fun j => if j = k then none else T j) := by
  obtain ⟨hk, h1, h2, t, ht, hT⟩ := ho.fwd k id hm
  refine ⟨fun j i hj => ?_, fun i j hj => ?_, fun x hx => ?_, fun j hj => ?_, mdel_nodup ho.ndi, mdel_nodup ho.ndk, ho.lo, ?_⟩
  · have hjk : j ≠ k := fun e => by rw [e, mget_mdel_self ho.ndi] at hj; cases hj
    rw [mget_mdel_ne hjk] at hj
    obtain ⟨a, b, c, t', d, e⟩ := ho.fwd j i hj
    have hii : i ≠ id := fun e => by subst e; rw [hk] at a; cases a; exact hjk rfl
    exact ⟨by rw [mget_mdel_ne hii]; exact a, b, c, t', (mem_dropR _).2 ⟨d, hii⟩, by rw [if_neg hjk]; exact e⟩
  · have hii : i ≠ id := fun e => by rw [e, mget_mdel_self ho.ndk] at hj; cases hj
    rw [mget_mdel_ne hii] at hj
    have hb := ho.bwd i j hj
    have hjk : j ≠ k := fun e => by subst e; rw [hm] at hb; cases hb; exact hii rfl
    rw [mget_mdel_ne hjk]; exact hb
  · obtain ⟨hx, hne⟩ := (mem_dropR x).1 hx
    rw [mget_mdel_ne hne]
    exact ho.all x hx
  · by_cases hjk : j = k
    · exact if_pos hjk
    · rw [mget_mdel_ne hjk] at hj
      rw [if_neg hjk]; exact ho.no j hj
  · rw [len_drop hn, if_pos ⟨_, ht, rfl⟩, mdel_length, hm, ho.len]; rfl

theorem AlOk.setOld (ho : AlOk s im km last T) (hm : mget k im = some id) (hn : Nk s) : AlOk (putR (id, t) s) im km last (fun j => if j = k then some t else T j) := by
  obtain ⟨hk, h1, h2, t0, ht, hT⟩ := ho.fwd k id hm
  refine ⟨fun j i hj => ?_, ho.bwd, fun x hx => ?_, fun j hj => ?_, ho.ndi, ho.ndk, ho.lo, ?_⟩
  · obtain ⟨a, b, c, t', d, e⟩ := ho.fwd j i hj
    by_cases hjk : j = k
    · subst hjk
      rw [hm] at hj
      cases hj
      exact ⟨a, b, c, t, mem_ins.2 (.inl rfl), if_pos rfl⟩
    · have hii : i ≠ id := fun e => by subst e; rw [hk] at a; cases a; exact hjk rfl
      exact ⟨a, b, c, t', mem_ins.2 (.inr ((mem_dropR _).2 ⟨d, hii⟩)), by rw [if_neg hjk]; exact e⟩
  · rcases mem_ins.1 hx with e | hx
    · exact ⟨k, by rw [e]; exact hk⟩
    · exact ho.all x ((mem_dropR x).1 hx).1
  · have hjk : j ≠ k := fun e => by rw [e, hm] at hj; cases hj
    rw [if_neg hjk]; exact ho.no j hj
  · have hp : 0 < s.length := List.length_pos_of_mem ht
    rw [putR, len_ins, len_drop hn, if_pos ⟨_, ht, rfl⟩, ← ho.len]
    omega

theorem AlOk.setNew (ho : AlOk s im km last T) (hm : mget k im = none) (hn : Nk s) : AlOk (putR (last + 1, t) s) (mset k (last + 1) im) (mset (last + 1) k km) (last + 1) (fun j => if j = k then some t else T j) := by
  have hl := ho.lo
  have hnk : mget (last + 1) km = none := by
    cases hg : mget (last + 1) km with
    | none => rfl
    | some k' =>
      have := (ho.fwd k' _ (ho.bwd _ _ hg)).2.2.1
      omega
  have hns : ∀ x ∈ s, x.1 ≠ last + 1 := fun x hx e => by
    obtain ⟨k', hk'⟩ := ho.all x hx
    rw [e, hnk] at hk'
    cases hk'
  refine ⟨fun j i hj => ?_, fun i j hj => ?_, fun x hx => ?_, fun j hj => ?_, mset_nodup ho.ndi, mset_nodup ho.ndk, by omega, ?_⟩
  · by_cases hjk : j = k
    · subst hjk
      rw [mget_mset_self] at hj
      cases hj
      exact ⟨mget_mset_self _ _ _, by omega, by omega, t, mem_ins.2 (.inl rfl), if_pos rfl⟩
    · rw [mget_mset_ne _ hjk] at hj
      obtain ⟨a, b, c, t', d, e⟩ := ho.fwd j i hj
      have hii : i ≠ last + 1 := by omega
      exact ⟨by rw [mget_mset_ne _ hii]; exact a, b, by omega, t', mem_ins.2 (.inr ((mem_dropR _).2 ⟨d, hii⟩)), by rw [if_neg hjk]; exact e⟩
  · by_cases hii : i = last + 1
    · subst hii
      rw [mget_mset_self] at hj
      cases hj
      exact mget_mset_self _ _ _
    · rw [mget_mset_ne _ hii] at hj
      have hb := ho.bwd i j hj
      have hjk : j ≠ k := fun e => by subst e; rw [hm] at hb; cases hb
      rw [mget_mset_ne _ hjk]; exact hb
  · rcases mem_ins.1 hx with e | hx
    · exact ⟨k, by rw [e]; exact mget_mset_self _ _ _⟩
    · have hx := (mem_dropR x).1 hx
      obtain ⟨k', hk'⟩ := ho.all x hx.1
      exact ⟨k', by rw [mget_mset_ne _ hx.2]; exact hk'⟩
  · have hjk : j ≠ k := fun e => by rw [e, mget_mset_self] at hj; cases hj
    rw [mget_mset_ne _ hjk] at hj
    rw [if_neg hjk]; exact ho.no j hj
  · have : ¬ ∃ y ∈ s, y.1 = last + 1 := fun ⟨y, hy, e⟩ => hns y hy e
    rw [putR, len_ins, len_drop hn, if_neg this, mset_length, hm, ho.len]; rfl
theorem AlOk.nil : AlOk [] [] [] 0 (fun _ => none) := ⟨(fun k id h => by cases h), (fun id k h => by cases h), (fun x hx => by cases hx), (fun _ _ => rfl), List.Pairwise.nil, List.Pairwise.nil, by omega, rfl⟩
end Go.Vc.A

/- Alarms: what writes. -/
set_option maxRecDepth 20000
set_option maxHeartbeats 1000000
namespace Go.Vc.A
open Go Go.Vc Go.RowKit Go.Proofs Go.Vc.H Vcc

variable {w W W' : World} {M N F : Nat → Prop} {gs : List Nat} {g hg r1 r2 : Nat} {s : List It} {st last : Int} {im : List (Ky × Int)} {km : List (Int × Ky)} {T : Ky → Option Int}

theorem OwnM_gs {κ α : Type} {kf : κ → Value} {vf : α → Value} {r : Nat} {m : List (κ × α)} (h : OwnM w M [] W r kf vf m) (hr : r ∉ gs) : OwnM w M gs W r kf vf m := ⟨h.mine, hr, h.obj⟩
theorem OwnM_nogs {κ α : Type} {kf : κ → Value} {vf : α → Value} {r : Nat} {m : List (κ × α)} (h : OwnM w M gs W r kf vf m) : OwnM w M [] W r kf vf m := ⟨h.mine, by simp, h.obj⟩

theorem AlS.setIds {im' : List (Ky × Int)} (h : AlS w M W g hg r1 r2 F s st im km last) (hc : Chg (fun b => b = r1) W W') (ho : OwnM w M gs W' r1 kyV (Value.int .i64) im') : AlS w M W' g hg r1 r2 F s st im' km last :=
  ⟨by rw [hc.block g (h.lt g (.inl rfl)) h.gr1]; exact h.blk, h.mine, h.hp.chg hc fun b hb e => h.n1 (e ▸ hb), OwnM_nogs ho, OwnM_keep h.kys (hc.block r2 (h.lt r2 (.inr (.inr (.inl rfl)))) (Ne.symm h.ne)), h.ne, h.ng, h.n1, h.n2⟩
theorem AlS.setKys {km' : List (Int × Ky)} (h : AlS w M W g hg r1 r2 F s st im km last) (hc : Chg (fun b => b = r2) W W') (ho : OwnM w M gs W' r2 (Value.int .i64) kyV km') : AlS w M W' g hg r1 r2 F s st im km' last :=
  ⟨by rw [hc.block g (h.lt g (.inl rfl)) h.gr2]; exact h.blk, h.mine, h.hp.chg hc fun b hb e => h.n2 (e ▸ hb), OwnM_keep h.ids (hc.block r1 (h.lt r1 (.inr (.inl rfl))) h.ne), OwnM_nogs ho, h.ne, h.ng, h.n1, h.n2⟩
theorem AlS.setLast {last' : Int} (h : AlS w M W g hg r1 r2 F s st im km last) (hc : Chg (fun b => b = g) W W') (hb : W'.heap[g]? = some (.cells (alC hg r1 r2 last').toArray 76 (0, 0))) : AlS w M W' g hg r1 r2 F s st im km last' :=
  ⟨hb, h.mine, h.hp.chg hc fun _ hb e => h.ng (e ▸ hb), OwnM_keep h.ids (hc.block r1 (h.lt r1 (.inr (.inl rfl))) (Ne.symm h.gr1)), OwnM_keep h.kys (hc.block r2 (h.lt r2 (.inr (.inr (.inl rfl)))) (Ne.symm h.gr2)), h.ne, h.ng, h.n1, h.n2⟩
theorem AlS.setHp {F' : Nat → Prop} {s' : List It} {st' : Int} (h : AlS w M W g hg r1 r2 F s st im km last) (hc : Chg F W W') (hp : HpF w M W' hg s' st' F') (hf : ∀ b, F' b → F b ∨ W.heap.size ≤ b) : AlS w M W' g hg r1 r2 F' s' st' im km last :=
  have hn : ∀ b, b < W.heap.size → ¬ F b → ¬ F' b := fun b hb hnf hf' => (hf b hf').elim hnf (fun e => by omega)
  ⟨by rw [hc.block g (h.lt g (.inl rfl)) h.ng]; exact h.blk, h.mine, hp, OwnM_keep h.ids (hc.block r1 (h.lt r1 (.inr (.inl rfl))) h.n1), OwnM_keep h.kys (hc.block r2 (h.lt r2 (.inr (.inr (.inl rfl)))) h.n2), h.ne, hn g (h.lt g (.inl rfl)) h.ng, hn r1 (h.lt r1 (.inr (.inl rfl))) h.n1, hn r2 (h.lt r2 (.inr (.inr (.inl rfl)))) h.n2⟩

/-- A contract of alarms' methods. -/
def AlQ (W : World) (g hg r1 r2 : Nat) (F : Nat → Prop) (Φ : Value → List It → Int → List (Ky × Int) → List (Int × Ky) → Int → World → Prop) : Value → World → Prop := fun v W' =>
  ∃ F' s' st' im' km' last', Φ v s' st' im' km' last' W' ∧ AlS W (fpA g r1 r2 F) W' g hg r1 r2 F' s' st' im' km' last'
theorem at_al {f : FuncId} {args : Array Value} {Φ : Value → List It → Int → List (Ky × Int) → List (Int × Ky) → Int → World → Prop} {K : Ending → World → Prop} (hA : AtF w M gs W) (h : AlS w M W g hg r1 r2 F s st im km last) (hgs : ∀ x ∈ gs, ¬ fpA g r1 r2 F x)
    (hc : RetF Try.prog f args W (fpA g r1 r2 F) (AlQ W g hg r1 r2 F Φ))
    (hK : ∀ v F' s' st' im' km' last' W', AtF w M gs W' → Keeps gs W W' → Chg (fpA g r1 r2 F) W W' → Φ v s' st' im' km' last' W' → AlS w M W' g hg r1 r2 F' s' st' im' km' last' → (∀ b, fpA g r1 r2 F' b → fpA g r1 r2 F b ∨ W.heap.size ≤ b) → K (.returned v) W') : Calls Try.prog f args W K := by
  refine at_callF hA hc (fun b _ hb => h.fp b hb) hgs fun v W' hA' hk hch ⟨F', s', st', im', km', last', hΦ, h'⟩ => ?_
  have hfp : ∀ b, fpA g r1 r2 F' b → fpA g r1 r2 F b ∨ W.heap.size ≤ b := fun b hb => (h'.fp b hb).symm
  refine hK v F' s' st' im' km' last' W' hA' hk hch hΦ (h'.base fun b hb => ?_) hfp
  rcases hfp b hb with h1 | h1
  · exact h.fp b h1
  · exact .inl (Nat.le_trans hA.size h1)

/-- loose -/
theorem c56 (id : Int) (h : AlS w M W g hg r1 r2 F s st im km last) : RetF Try.prog 56 #[alV g, .int .i64 id] W (fpA g r1 r2 F) (AlQ W g hg r1 r2 F fun v s' st' im' km' last' _ => v = .tuple #[] ∧ s' = s ∧ st' = st ∧ im' = mdel ((mget id km).getD (0, 0, 0)) im ∧ km' = mdel id km ∧ last' = last) := by
  intro R hR
  refine f56_calls _ _ W R ?_
  unfold f56_vc
  have hA := AtF.refl W (fpA g r1 r2 F)
  have h := h.entry
  refine ⟨_, rfl, _, h.rd1, _, rfl, _, h.rd2, _, _, _, h.lookK id, go_below0_too hA fun w8 hA hb8 => ?_⟩
  have h := h.call hb8
  refine opw_delete (k := (mget id km).getD (0, 0, 0)) (kt := 54) (et := 2) keyOk_ky (by kernel_rfl) hA h.ids fun w10 hA _ hc ho => ⟨rfl, ?_⟩
  have h := h.setIds hc ho
  refine ⟨h.rd2, _, rfl, _, h.rd2, ?_⟩
  refine opw_delete (k := id) (kt := 2) (et := 54) (keyOk_int (q := .i64) (by kernel_rfl)) (by kernel_rfl) hA h.kys fun w14 hA _ hc ho => ⟨rfl, ?_⟩
  exact hR _ _ hA.chg ⟨F, _, _, _, _, _, ⟨rfl, rfl, rfl, rfl, rfl, rfl⟩, h.setKys hc ho⟩
/-- Drop -/
theorem c43 (k : Ky) (h : AlS w M W g hg r1 r2 F s st im km last) (ho : AlOk s im km last T) (hs : s.length ≤ 900) (hst : 0 ≤ st ∧ st < 1152921504606846976) :
    RetF Try.prog 43 #[alV g, kyV k] W (fpA g r1 r2 F) (AlQ W g hg r1 r2 F fun v s' st' im' km' last' _ => v = .bool (T k).isSome ∧ AlOk s' im' km' last' (fun j => if j = k then none else T j) ∧ st ≤ st' ∧ st' ≤ st + 2000 ∧ im' = mdel k im ∧ (s' = s ∨ ∃ id, mget k im = some id ∧ s' = dropR id s) ∧ last' = last) := by
  intro R hR
  refine f43_calls _ k.1 k.2.1 k.2.2 W R ?_
  unfold f43_vc
  intro n1 hn1
  have h := h.entry
  have hnk0 := h.hp.nk
  refine go_below_too (AtF.refl W (fpA g r1 r2 F)) fun w2 hA hb2 => ?_
  have hng : ∀ x ∈ [n1], ¬ fpA g r1 r2 F x := fun x hx hf => by
    simp at hx
    subst hx
    have := h.lt x hf
    omega
  have h := h.call hb2
  refine at_callb hA (c40 h.blk) fun w4 hA hk hb4 => ⟨_, rfl, hk, brB (fun e => by cases e) (fun _ => ?_)⟩
  have h := h.call hb4
  have hl := h.look k
  cases hm : mget k im with
  | none =>
    rw [hm] at hl
    refine ⟨_, rfl, _, h.rd1, _, _, hl, brB (fun e => by cases e) (fun _ => go_below_too hA fun w18 hA hb => ?_)⟩
    have hT := ho.no k hm
    have e : (fun j => if j = k then none else T j) = T := by
      funext j
      by_cases hj : j = k
      · rw [if_pos hj, hj, hT]
      · rw [if_neg hj]
    refine hR _ _ hA.chg ⟨F, _, _, _, _, _, ⟨by rw [hT]; rfl, by rw [e]; exact ho, by omega, by omega, (mdel_none' hm).symm, .inl rfl, rfl⟩, h.call hb⟩
  | some id =>
    rw [hm] at hl
    obtain ⟨hk1, hid1, hid2, t, ht, hT⟩ := ho.fwd k id hm
    refine ⟨_, rfl, _, h.rd1, _, _, hl, brB (fun _ => ⟨_, rfl, _, h.rd0, go_below_too hA fun w12 hA hb => ?_⟩) (fun e => by cases e)⟩
    have h := h.call hb
    refine at_dropF id hA h.hp (fun x hx hf => hng x hx (.inr (.inr (.inr hf)))) hs hst fun st' F' w14 hA hk hch hp hF q1 q2 => ⟨_, rfl, hk, ?_⟩
    have hnk := h.hp.nk
    have h := h.setHp hch hp hF
    have hng' : ∀ x ∈ [n1], ¬ fpA g r1 r2 F' x := fun x hx hf => by
      rcases hf with e | e | e | e
      · exact hng x hx (.inl e)
      · exact hng x hx (.inr (.inl e))
      · exact hng x hx (.inr (.inr (.inl e)))
      · rcases hF x e with e | e
        · exact hng x hx (.inr (.inr (.inr e)))
        · have := hA.under x hx
          have h0 := ‹AtF W (fpA g r1 r2 F) [n1] w12›.under x hx
          omega
    refine at_al hA h hng' (c56 id h) fun v F2 s2 st2 im2 km2 last2 w17 hA hk hch2 ⟨e1, e2, e3, e4, e5, e6⟩ h2 hfp => ?_
    subst e1 e2 e3 e4 e5 e6
    refine ⟨rfl, hk, hR _ _ hA.chg ⟨F2, _, _, _, _, _, ⟨by rw [hT]; rfl, ?_, q1, q2, ?_, .inr ⟨id, hm, rfl⟩, rfl⟩, h2⟩⟩
    · rw [hk1]
      exact ho.drop hm hnk
    · rw [hk1]; rfl
/-- Set -/
theorem c22 (k : Ky) (at' : Int) (h : AlS w M W g hg r1 r2 F s st im km last) (ho : AlOk s im km last T) (hs : s.length ≤ 900) (hst : 0 ≤ st ∧ st < 1152921504606846976) (hla : last < 4611686018427387904) :
    RetF Try.prog 22 #[alV g, kyV k, .int .i64 at'] W (fpA g r1 r2 F) (AlQ W g hg r1 r2 F fun v s' st' im' km' last' _ => v = .bool (T k).isNone ∧ AlOk s' im' km' last' (fun j => if j = k then some at' else T j) ∧ st ≤ st' ∧ st' ≤ st + 2000 ∧ last ≤ last' ∧ last' ≤ last + 1 ∧ s'.length ≤ s.length + 1) := by
  intro R hR
  refine f22_calls _ k.1 k.2.1 k.2.2 at' W R ?_
  unfold f22_vc
  intro n1 hn1
  have h := h.entry
  have hnk0 := h.hp.nk
  refine go_below_too (AtF.refl W (fpA g r1 r2 F)) fun w2 hA hb2 => ?_
  have hng : ∀ x ∈ [n1], ¬ fpA g r1 r2 F x := fun x hx hf => by
    simp at hx
    subst hx
    have := h.lt x hf
    omega
  have h := h.call hb2
  refine at_callb hA (c40 h.blk) fun w4 hA hk hb4 => ⟨_, rfl, hk, brB (fun e => by cases e) (fun _ => ?_)⟩
  have h := h.call hb4
  have hl := h.look k
  have hlen : ∀ id : Int, (putR (id, at') s).length ≤ s.length + 1 := fun id => by
    rw [putR, len_ins]
    have := dropR_len id s
    simp only
    omega
  cases hm : mget k im with
  | none =>
    rw [hm] at hl
    have hT := ho.no k hm
    have hlo := ho.lo
    refine ⟨_, rfl, _, h.rd1, _, _, hl, brB (fun _ => ?_) (fun e => by cases e)⟩
    refine ⟨_, rfl, _, h.rd3, _, rfl, go_below_too hA fun w13 hA hb => ?_⟩
    have h := h.call hb
    have e1 : IntKind.i64.wrap (last + 1) = last + 1 := wrap_i64 (by omega) (by omega)
    rw [e1]
    refine opw_storeF hA h.blk h.mine (fun hx => hng g hx (.inl rfl)) (cells' := alC hg r1 r2 (last + 1)) (by kernel_rfl) fun w15 hA hk hc hb => ⟨hk, ?_⟩
    have h := h.setLast hc hb
    refine ⟨_, rfl, _, h.rd3, _, rfl, _, h.rd1, _, rfl, _, h.rd2, go_below_too hA fun w22 hA hb => ?_⟩
    have h := h.call hb
    refine opw_mapEntry (kf := kyV) (vf := Value.int .i64) (k := k) (z := (0 : Int)) (kt := 54) (et := 2) keyOk_ky (by kernel_rfl) (by kernel_rfl) hA (OwnM_gs h.ids fun hx => hng r1 hx (.inr (.inl rfl))) fun w24 m1 j v0 stamp hA hk hc1 hoE hset => ⟨_, _, rfl, hk, ?_⟩
    refine opw_entryStore (kf := kyV) (vf := Value.int .i64) (k := k) (v := last + 1) hA hoE fun w28 hA hk hc2 hoM => ⟨hk, ?_⟩
    rw [hset] at hoM
    have h := h.setIds (hc1.trans hc2 fun _ _ e => e) hoM
    refine opw_mapEntry (kf := Value.int .i64) (vf := kyV) (k := last + 1) (z := ((0, 0, 0) : Ky)) (kt := 2) (et := 54) (keyOk_int (q := .i64) (by kernel_rfl)) (by kernel_rfl) (by kernel_rfl) hA (OwnM_gs h.kys fun hx => hng r2 hx (.inr (.inr (.inl rfl)))) fun w30 m2 j2 v2 stamp2 hA hk hc1 hoE hset => ⟨_, _, _, _, rfl, hk, ?_⟩
    refine opw_entryStore (kf := Value.int .i64) (vf := kyV) (k := last + 1) (v := k) hA hoE fun w36 hA hk hc2 hoM => ⟨hk, ?_⟩
    rw [hset] at hoM
    have h := h.setKys (hc1.trans hc2 fun _ _ e => e) hoM
    refine ⟨_, rfl, _, h.rd0, ?_⟩
    refine at_putF (last + 1) at' hA h.hp (fun x hx hf => hng x hx (.inr (.inr (.inr hf)))) hs hst fun st' F' w40 hA hk hch hp hF q1 q2 => ⟨_, rfl, hk, ?_⟩
    have h := h.setHp hch hp hF
    refine hR _ _ hA.chg ⟨F', _, _, _, _, _, ⟨by rw [hT]; rfl, ho.setNew hm hnk0, q1, q2, by omega, by omega, hlen _⟩, h⟩
  | some id =>
    rw [hm] at hl
    obtain ⟨hk1, hid1, hid2, t, ht, hT⟩ := ho.fwd k id hm
    refine ⟨_, rfl, _, h.rd1, _, _, hl, brB (fun e => by cases e) (fun _ => ⟨_, rfl, _, h.rd0, go_below_too hA fun w44 hA hb => ?_⟩)⟩
    have h := h.call hb
    refine at_putF id at' hA h.hp (fun x hx hf => hng x hx (.inr (.inr (.inr hf)))) hs hst fun st' F' w46 hA hk hch hp hF q1 q2 => ⟨_, rfl, hk, ?_⟩
    have hnk := h.hp.nk
    have h := h.setHp hch hp hF
    refine hR _ _ hA.chg ⟨F', _, _, _, _, _, ⟨by rw [hT]; rfl, ho.setOld hm hnk, q1, q2, by omega, by omega, hlen _⟩, h⟩
end Go.Vc.A

/- Calls of functions' values. -/
namespace Go.Vc
open Go Go.RowKit
section
variable {P : Program} {w W : World} {M : Nat → Prop} {gs : List Nat} {fv : Value}

/-- A call of a function's value that returns a value, and changes nothing. -/
def RetI (P : Program) (fv : Value) (args : Array Value) (W : World) (v : Value) : Prop := ∀ K : Value → World → Prop, (∀ w', Bel W w' → K v w') → OpW P (invokeS fv args) W K
theorem opw_invoke {f : FuncId} {first cap args : Array Value} {K : Value → World → Prop} (he : pureRun P (invokeS (.func (.func f) first cap) args) = some (.enter f ((first ++ args) ++ cap))) (h : Calls P f ((first ++ args) ++ cap) W fun e w' => ∃ v, e = .returned v ∧ K v w') : OpW P (invokeS (.func (.func f) first cap) args) W K := by
  unfold OpW
  rw [pureRun_run he W]
  exact h
theorem RetI.of {f : FuncId} {first cap args : Array Value} {v : Value} (he : pureRun P (invokeS (.func (.func f) first cap) args) = some (.enter f ((first ++ args) ++ cap))) (h : Ret P f ((first ++ args) ++ cap) W v) : RetI P (.func (.func f) first cap) args W v := fun _ hK => opw_invoke he (h _ fun w' hb => ⟨v, rfl, hK w' hb⟩)
theorem at_inv {args : Array Value} {v : Value} {K : Value → World → Prop} (hA : AtF w M gs W) (hc : RetI P fv args W v) (hK : ∀ w', AtF w M gs w' → Keeps gs W w' → Bel W w' → K v w') : OpW P (invokeS fv args) W K := hc K fun w' hb => hK w' (hA.call hb) (hA.keeps hb) hb
end
end Go.Vc

/- slices.SortFunc on an own slice of structs: a permutation, in order. -/
namespace Go.Vc
open Go Go.RowKit Go.Proofs Go.Shelf Go.Sort

theorem bel_grow {W w' : World} (h : Bel W w') : ∃ q os', w' = grow (W.drewN q) os' := by
  refine ⟨w'.drawn - W.drawn, w'.heap.extract W.heap.size w'.heap.size, ?_⟩
  obtain ⟨hp, tp, dr, os, out⟩ := w'
  have h1 := h.below.os
  have h2 := h.below.tape
  have h3 := h.below.output
  have h4 := h.size
  have h5 := fun b hb => h.block (b := b) hb
  have h6 := h.drawn
  simp only at h1 h2 h3 h4 h5 h6
  subst h1 h2 h3
  unfold grow World.drewN
  simp only [World.mk.injEq, true_and, and_true]
  refine ⟨?_, by omega⟩
  apply Array.ext_getElem?
  intro k
  rw [Array.getElem?_append]
  split
  · rename_i hk
    exact h5 k hk
  · rename_i hk
    rw [Array.getElem?_extract]
    split
    · congr 1; omega
    · rw [Array.getElem?_eq_none]
      omega

section
variable {α : Type} [Inhabited α] {P : Program} {ρ : Ren} {f : α → List Value} {k : Nat}

theorem chg_sortWorldK (w : World) (blk off m : Nat) (dk : Array α) (os : Array Obj) : Chg (fun b => b = blk) w (sortWorldK f k w blk off m dk os) := by
  unfold sortWorldK putRowK
  refine ⟨rfl, rfl, rfl, ?_, fun b hb hne => ?_, ?_⟩
  · rw [size_grow, Go.Sort.size_putRow]
    exact Nat.le_add_right _ _
  · show ((putRow id (Go.Sort.ahead w m) blk off (flatK f k dk)).heap ++ os)[b]? = _
    rw [Array.getElem?_append, if_pos (by rw [Go.Sort.size_putRow]; exact hb)]
    unfold putRow mapBlock
    show (Array.modify w.heap blk _)[b]? = _
    rw [Array.getElem?_modify, if_neg (fun e => hne e.symm)]
  · show w.drawn ≤ w.drawn + m
    omega

theorem flat_at {l : List α} (hk : ∀ x, (f x).length = k) {t : Nat} (ht : t < l.length * k) : (l.flatMap f)[t]? = some (flatK f k l.toArray)[t]! := by
  have hk0 : 0 < k := by
    rcases Nat.eq_zero_or_pos k with h | h
    · subst h; omega
    · exact h
  have hi : t / k < l.length := Nat.div_lt_of_lt_mul (by rw [Nat.mul_comm]; exact ht)
  have hm := Nat.mod_lt t hk0
  have hdm : t / k * k + t % k = t := by rw [Nat.mul_comm]; exact Nat.div_add_mod t k
  have hp := flatMap_part (size := k) (fun x _ => hk x) (List.getElem?_eq_getElem hi)
  rw [get_flatK f k l.toArray t (by simpa using ht)]
  have h1 : (f l[t / k])[t % k]? = some ((f l[t / k])[t % k]'(by rw [hk]; exact hm)) := List.getElem?_eq_getElem _
  have h2 : (l.toArray)[t / k]! = l[t / k] := by simp [hi]
  rw [h2, getElem!_pos (f l[t / k]) (t % k) (by rw [hk]; exact hm), ← h1]
  conv => rhs; rw [← hp]
  rw [List.getElem?_take, if_pos hm, List.getElem?_drop, hdm]

theorem at_sortFunc (L : SlLaysF0.n6 P ρ) {e : TypeId} (aE : pureRun P (isAgg (ρ.t 24)) = some true) (zE : pureRun P (sizeOf (ρ.t 24)) = some k) (hk : ∀ x, (f x).length = k) (h1 : ∀ x, ∀ v ∈ f x, v.oneCell' = true) (cf : α → α → Int) (hO : SWO (ltOf cf)) {g : Nat} {cb : Array Value}
    (eg : ∀ args w, (callFunc g args).run P w = .ok (.enter g args) w) {w W : World} {M : Nat → Prop} {gs : List Nat} {a : Option Addr} {n c : Nat} {l : List α} {K : Ending → World → Prop} (hA : AtF w M gs W) (ho : OwnF w M gs W e k f (.slice a n c) l)
    (hcmp : ∀ W', Chg (fun b => (Value.slice a n c).ownBlock = some b) W W' → ∀ x y, Ret P g (#[.agg (f x).toArray, .agg (f y).toArray] ++ cb) W' (.int .i64 (cf x y))) (hl : l.length < 4611686018427387904)
    (hK : ∀ l' w', AtF w M gs w' → Keeps gs W w' → Chg (fun b => (Value.slice a n c).ownBlock = some b) W w' → OwnF w M gs w' e k f (.slice a n c) l' → l'.Perm l → l'.Pairwise (fun x y => ¬ cf y x < 0) → K (.returned (.tuple #[])) w') :
    Calls P (ρ.f 6) #[.slice a n c, .func (.func g) #[] cb] W K := by
  have hn := ho.len
  subst hn
  rcases ho.row0.2 with ⟨hv, h0⟩ | ⟨b, cap, cur, hv, _, hg, hnc, hcm, hcs, htk⟩
  · have hl0 : l = [] := List.eq_nil_of_length_eq_zero h0
    subst hl0
    refine (AnyF.slices_SortFunc_none (P := P) (ρ := ρ) { L with } a c _ W).mono ?_
    rintro e' w' ⟨rfl, rfl⟩
    exact hK [] w' hA (fun _ _ => rfl) (Chg.refl _ _) ho (List.Perm.refl _) List.Pairwise.nil
  · obtain ⟨rfl, _, rfl⟩ := Value.slice.inj hv
    have hfl : (l.flatMap f).length = l.length * k := flatMap_len fun x _ => hk x
    have hcur : ∀ t, t < l.length * k → cur[t]? = some (flatK f k l.toArray)[t]! := fun t ht => by
      rw [← flat_at hk ht, ← htk, List.getElem?_take, if_pos ht, Array.getElem?_toList]
    have hH : HoldsK f k W b 0 l.toArray := by
      intro j hj
      rw [size_flatK] at hj
      have hj' : j < l.length * k := by simpa using hj
      refine ⟨?_, ?_⟩
      · unfold World.cell?
        simp only [hg]
        simpa using hcur j hj'
      · unfold World.frozen?
        simp only [hg]
        simp
    have hblk : b < W.heap.size := (Array.getElem?_eq_some_iff.1 hg).1
    have hcm' : CmpLays P g cb f k cf b 0 l.toArray.size W := fun m os dk _ x y => by
      refine hcmp _ ((chg_sortWorldK W b 0 m dk os).mono fun b' _ hb => ?_) x y _ fun w' hb => ⟨rfl, bel_grow hb⟩
      subst hb
      rfl
    have hmain := AnyQ.slices_SortFunc L k (fun w => pureRun_run aE w) (fun w => pureRun_run zE w) f hk h1 cf hO g cb b 0 c l.toArray W eg hcm' hH hblk (by simpa using hl)
    have hsz : l.toArray.size = l.length := by simp
    rw [hsz] at hmain
    refine hmain.mono ?_
    rintro e' w' ⟨rfl, d', n, os, hp, hs, rfl⟩
    have hch : Chg (fun b' => (Value.slice (some ⟨b, 0, none⟩) l.length c).ownBlock = some b') W (sortWorldK f k W b 0 n d' os) := (chg_sortWorldK W b 0 n d' os).mono fun b' _ hb => by subst hb; rfl
    have hd : d'.size = l.length := by have := hp.1; simpa using this
    have hperm : d'.toList.Perm l := by
      have := hp.2.2
      rw [show l.length = d'.size from hd.symm] at this
      have e1 : d'.extract 0 d'.size = d' := by simp
      have e2 : l.toArray.extract 0 d'.size = l.toArray := by rw [hd]; simp
      rw [e1, e2] at this
      simpa using this
    have hpw : d'.toList.Pairwise (fun x y => ¬ cf y x < 0) := by
      rw [List.pairwise_iff_getElem]
      intro i j hi hj hij
      simp only [Array.length_toList] at hi hj
      have := hs i j (Nat.zero_le _) hij (by omega)
      rw [getElem!_pos d' j hj, getElem!_pos d' i hi] at this
      unfold ltOf at this
      simpa using this
    have hdl : d'.toList.length = l.length := by simpa using hd
    refine hK d'.toList _ (hA.step hch fun k' _ hk' => ho.mine k' hk') (hA.keepsC hch fun g' hg' hk' => ho.apart g' hg' hk') hch ?_ hperm hpw
    refine ⟨?_, ho.mine, ho.apart⟩
    rw [hdl]
    refine ⟨by rw [flatMap_len (size := k) fun x _ => hk x, hdl], .inr ⟨b, c, putCells id 0 (flatK f k d') cur, rfl, Nat.zero_le _, ?_, hnc, hcm, ?_, ?_⟩⟩
    · unfold sortWorldK putRowK
      show ((putRow id (Go.Sort.ahead W n) b 0 (flatK f k d')).heap ++ os)[b]? = _
      rw [Array.getElem?_append, if_pos (by rw [Go.Sort.size_putRow]; exact hblk)]
      unfold putRow mapBlock
      show (Array.modify W.heap b _)[b]? = _
      rw [Array.getElem?_modify, if_pos rfl, hg]
      rfl
    · unfold putCells
      rw [Array.size_mapIdx, hcs]
    · apply List.ext_getElem?
      intro t
      rw [List.getElem?_take]
      by_cases ht : t < l.length * k
      · rw [if_pos ht, flat_at hk (by rw [hdl]; exact ht), Array.getElem?_toList]
        unfold putCells
        have htc : t < cur.size := by
          have := hcur t ht
          exact (Array.getElem?_eq_some_iff.1 this).1
        rw [Array.getElem?_mapIdx, Array.getElem?_eq_getElem htc, Option.map_some, if_pos ⟨Nat.zero_le _, by rw [size_flatK, hd]; omega⟩]
        simp
      · rw [if_neg ht, List.getElem?_eq_none]
        rw [flatMap_len (size := k) fun x _ => hk x, hdl]
        omega
end
end Go.Vc

/- The library's functions as they lie in this program: tables of numbers, printed by a program; the kernel compares the bodies. -/
set_option maxRecDepth 100000
set_option linter.unusedVariables false
namespace Go.Proofs
open Go.Shelf
def Try.sortKy_ren : Go.Shelf.Ren := ⟨fun | 6 => 51 | 15 => 59 | 14 => 58 | 28 => 70 | 29 => 71 | 20 => 62 | 21 => 63 | 22 => 64 | 23 => 65 | 24 => 66 | 25 => 67 | 26 => 68 | 27 => 69 | 46 => 72 | 47 => 73 | 48 => 74 | 49 => 75 | 50 => 76 | 57 => 77 | n => n, fun | 22 => 49 | 24 => 54 | 25 => 101 | 3 => 3 | 39 => 106 | 0 => 0 | 53 => 116 | 55 => 118 | 4 => 4 | 46 => 110 | 45 => 109 | 50 => 78 | 5 => 5 | 9 => 9 | 66 => 119 | 70 => 123 | 76 => 125 | 77 => 126 | n => n, fun | n => n⟩
theorem Try.sortKy : Go.Proofs.SlLaysF0.n6 Try.prog Try.sortKy_ren := {
  mixed := by kernel_rfl,
  f6 := ⟨Try.f51.name, by decide, Try.func51.trans (congrArg some (by kernel_rfl))⟩,
  f14 := ⟨Try.f58.name, by decide, Try.func58.trans (congrArg some (by kernel_rfl))⟩,
  f15 := Try.func59.trans (congrArg some (by kernel_rfl)),
  f20 := ⟨Try.f62.name, by decide, Try.func62.trans (congrArg some (by kernel_rfl))⟩,
  f21 := ⟨Try.f63.name, by decide, Try.func63.trans (congrArg some (by kernel_rfl))⟩,
  f22 := ⟨Try.f64.name, by decide, Try.func64.trans (congrArg some (by kernel_rfl))⟩,
  f23 := ⟨Try.f65.name, by decide, Try.func65.trans (congrArg some (by kernel_rfl))⟩,
  f24 := ⟨Try.f66.name, by decide, Try.func66.trans (congrArg some (by kernel_rfl))⟩,
  f25 := ⟨Try.f67.name, by decide, Try.func67.trans (congrArg some (by kernel_rfl))⟩,
  f26 := ⟨Try.f68.name, by decide, Try.func68.trans (congrArg some (by kernel_rfl))⟩,
  f27 := ⟨Try.f69.name, by decide, Try.func69.trans (congrArg some (by kernel_rfl))⟩,
  f28 := Try.func70.trans (congrArg some (by kernel_rfl)),
  f29 := Try.func71.trans (congrArg some (by kernel_rfl)),
  f46 := ⟨Try.f72.name, by decide, Try.func72.trans (congrArg some (by kernel_rfl))⟩,
  f47 := Try.func73.trans (congrArg some (by kernel_rfl)),
  f48 := Try.func74.trans (congrArg some (by kernel_rfl)),
  f49 := ⟨Try.f75.name, by decide, Try.func75.trans (congrArg some (by kernel_rfl))⟩,
  f50 := ⟨Try.f76.name, by decide, Try.func76.trans (congrArg some (by kernel_rfl))⟩,
  f57 := ⟨Try.f77.name, by decide, Try.func77.trans (congrArg some (by kernel_rfl))⟩,
  t0 := Try.underlying0,
  a0 := Try.isAgg0,
  z0 := Try.sizeOf0,
  v0 := Try.zeroValue0,
  t3 := Try.underlying3,
  a3 := Try.isAgg3,
  z3 := Try.sizeOf3,
  v3 := Try.zeroValue3,
  t4 := Try.underlying4,
  a4 := Try.isAgg4,
  z4 := Try.sizeOf4,
  v4 := Try.zeroValue4,
  t5 := Try.underlying5,
  a5 := Try.isAgg5,
  z5 := Try.sizeOf5,
  v5 := Try.zeroValue5,
  t9 := Try.underlying9,
  a9 := Try.isAgg9,
  z9 := Try.sizeOf9,
  v9 := Try.zeroValue9,
  t22 := Try.underlying49,
  a22 := Try.isAgg49,
  z22 := Try.sizeOf49,
  v22 := Try.zeroValue49,
  t25 := Try.underlying101,
  a25 := Try.isAgg101,
  z25 := Try.sizeOf101,
  v25 := Try.zeroValue101,
  t39 := Try.underlying106,
  a39 := Try.isAgg106,
  z39 := Try.sizeOf106,
  v39 := Try.zeroValue106,
  t45 := Try.underlying109,
  a45 := Try.isAgg109,
  z45 := Try.sizeOf109,
  v45 := Try.zeroValue109,
  t46 := Try.underlying110,
  a46 := Try.isAgg110,
  z46 := Try.sizeOf110,
  v46 := Try.zeroValue110,
  t50 := Try.underlying78,
  a50 := Try.isAgg78,
  z50 := Try.sizeOf78,
  v50 := Try.zeroValue78,
  t53 := Try.underlying116,
  a53 := Try.isAgg116,
  z53 := Try.sizeOf116,
  v53 := Try.zeroValue116,
  t55 := Try.underlying118,
  a55 := Try.isAgg118,
  z55 := Try.sizeOf118,
  v55 := Try.zeroValue118,
  t66 := Try.underlying119,
  a66 := Try.isAgg119,
  z66 := Try.sizeOf119,
  v66 := Try.zeroValue119,
  t70 := Try.underlying123,
  a70 := Try.isAgg123,
  z70 := Try.sizeOf123,
  v70 := Try.zeroValue123,
  t76 := Try.underlying125,
  a76 := Try.isAgg125,
  z76 := Try.sizeOf125,
  v76 := Try.zeroValue125,
  t77 := Try.underlying126,
  a77 := Try.isAgg126,
  z77 := Try.sizeOf126,
  v77 := Try.zeroValue126}

end Go.Proofs

/- Keys put in order. -/
set_option maxRecDepth 20000
set_option maxHeartbeats 1000000
namespace Go.Vc.A
open Go Go.Vc Go.RowKit Go.Proofs Go.Vc.H Vcc

variable {w W W' : World} {M N F : Nat → Prop} {gs : List Nat} {τ : Ky → Int}

def cfK (τ : Ky → Int) (x y : Ky) : Int := orL [sg (τ x) (τ y), sg x.1 y.1, sg x.2.1 y.2.1, sg x.2.2 y.2.2]
/-- One key stands ahead of another one. -/
def lexK (τ : Ky → Int) (x y : Ky) : Prop := τ x < τ y ∨ (τ x = τ y ∧ (x.1 < y.1 ∨ (x.1 = y.1 ∧ (x.2.1 < y.2.1 ∨ (x.2.1 = y.2.1 ∧ x.2.2 < y.2.2)))))
theorem cfK_lt (x y : Ky) : cfK τ x y < 0 ↔ lexK τ x y := by
  unfold cfK lexK sg
  simp only [orL]
  repeat' split
  all_goals omega
theorem lexK_irrefl (x : Ky) : ¬ lexK τ x x := by unfold lexK; omega
theorem lexK_trans {x y z : Ky} (h : lexK τ x y) (k : lexK τ y z) : lexK τ x z := by unfold lexK at *; omega
theorem lexK_total {x y : Ky} (h : ¬ lexK τ x y) (k : ¬ lexK τ y x) : x = y := by
  obtain ⟨a, b, c⟩ := x
  obtain ⟨a', b', c'⟩ := y
  unfold lexK at *
  simp only at h k
  have h1 : a = a' := by omega
  subst h1
  have h2 : b = b' := by omega
  subst h2
  have h3 : c = c' := by omega
  subst h3
  rfl
theorem swoK : Go.Sort.SWO (ltOf (cfK τ)) where
  irrefl x := by
    unfold ltOf
    rw [decide_eq_false_iff_not, cfK_lt]
    exact lexK_irrefl x
  trans x y z h k := by
    unfold ltOf at *
    rw [decide_eq_true_iff, cfK_lt] at *
    exact lexK_trans h k
  ntrans x y z h k := by
    unfold ltOf at *
    rw [decide_eq_false_iff_not, cfK_lt] at *
    unfold lexK at *
    omega

theorem c52 {fv : Value} {b : Nat} (hb : W.heap[b]? = some (.cells #[fv] 88 (0, 0))) (hat : ∀ k W', Bel W W' → RetI Try.prog fv #[kyV k] W' (.int .i64 (τ k))) (x y : Ky) : Ret Try.prog 52 #[kyV x, kyV y, .pointer (some ⟨b, 0, none⟩)] W (.int .i64 (cfK τ x y)) := by
  intro R h
  refine f52_calls x.1 x.2.1 x.2.2 y.1 y.2.1 y.2.2 _ W R ?_
  unfold f52_vc
  intro n1 _ n2 _
  have rd : ∀ {W' : World}, Bel W W' → Reads Try.prog [] (Instr.loadAt 88 (Value.pointer (some ⟨b, 0, none⟩))) W' fv := fun hbb => rd_f0 (r := []) (ty := 88) (by rw [hbb.block (Array.getElem?_eq_some_iff.1 hb).1]; exact hb) (by kernel_rfl) (by simp)
  have rd0 := rd (W' := W) (At.refl W).below
  refine ⟨_, rd0, _, rd0, go_below (At.refl W) fun w5 hA => ?_⟩
  refine at_inv hA (hat x w5 hA.below) fun w7 hA hk hb7 => ⟨_, rfl, hk, rd hA.below, ?_⟩
  refine at_inv hA (hat y w7 hA.below) fun w10 hA hk hb10 => ⟨_, rfl, hk, ?_⟩
  refine at_callb hA (c54 _ _ w10) fun w13 hA hk _ => ⟨_, rfl, hk, ?_⟩
  refine at_callb hA (c55 _ _ w13) fun w16 hA hk _ => ⟨_, rfl, hk, ?_⟩
  refine at_callb hA (c54 _ _ w16) fun w19 hA hk _ => ⟨_, rfl, hk, ?_⟩
  refine at_callb hA (c54 _ _ w19) fun w22 hA hk _ => ⟨_, rfl, hk, ?_⟩
  refine opw_litL (f := fun x : Int => [Value.int .i64 x]) (size := 1) (e' := 3) (l := [sg (τ x) (τ y), sg x.1 y.1, sg x.2.1 y.2.1, sg x.2.2 y.2.2]) hA rfl (fun _ _ => rfl) (by decide) (by kernel_rfl) fun g w25 _ hA hk _ ho => ⟨_, _, _, rfl, hk, ?_⟩
  have hs := ho.sl fun _ _ => rfl
  refine at_callb hA (c53 w25 hs (by simp)) fun w30 hA hk _ => ⟨_, rfl, hk, leaf h hA rfl⟩

theorem at_order {fv : Value} (hfv : fv.cells = #[fv]) {a : Option Addr} {n c : Nat} {l : List Ky} {K : Ending → World → Prop} (hA : AtF w M gs W) (ho : OwnF w M gs W 54 3 kyE (.slice a n c) l) (hl : l.length < 4611686018427387904)
    (hat : ∀ W', Chg (fun b => (Value.slice a n c).ownBlock = some b) W W' → ∀ k, RetI Try.prog fv #[kyV k] W' (.int .i64 (τ k)))
    (hK : ∀ l' w', AtF w M gs w' → Keeps gs W w' → Chg (fun b => (Value.slice a n c).ownBlock = some b) W w' → OwnF w M gs w' 54 3 kyE (.slice a n c) l' → l'.Perm l → l'.Pairwise (fun x y => ¬ lexK τ y x) → K (.returned (.tuple #[])) w') :
    Calls Try.prog 41 #[.slice a n c, fv] W K := by
  refine f41_calls a n c fv W K ?_
  unfold f41_vc
  refine opw_boxS hA fun b w2 hb0 hA hk hb2 hblk => ⟨_, rfl, ?_⟩
  have ho2 := ho.call hb2
  have hbb : ∀ b', (Value.slice a n c).ownBlock = some b' → b' ≠ b := fun b' hb' => by
    have := ho.lt b' hb'
    omega
  have hlay := at_sortFunc (P := Try.prog) (ρ := Try.sortKy_ren) Try.sortKy (k := 3) (f := kyE) (e := 54) (by kernel_rfl) (by kernel_rfl) (fun _ => rfl) (fun x u hu => by simp at hu; rcases hu with rfl | rfl | rfl <;> rfl) (cfK τ) swoK (g := 52) (cb := #[.pointer (some ⟨b, 0, none⟩)])
    (enters_of Try.func52 (by kernel_rfl) rfl) hA ho2 (fun W' hc x y => c52 (b := b) (fv := fv) (by
      rw [hc.block b (Array.getElem?_eq_some_iff.1 hblk).1 (fun e => hbb b e rfl), hblk, hfv]) (fun k W2 hb => hat W2 ((Chg.of_below hb2).trans (hc.trans (Chg.of_below (N := noB) hb) fun _ _ e => e.elim) fun _ _ e => e) k) x y) hl
    (K := fun e w5 => e = Ending.returned (Value.tuple #[]) ∧ K (Ending.returned (Value.tuple #[])) w5) fun l' w' hA' hk' hch ho' hp hw => ⟨rfl, hK l' w' hA' (fun g hg => (hk' g hg).trans (hk g hg)) ((Chg.of_below hb2).trans hch fun _ _ e => e) ho' hp (hw.imp fun h e => h ((cfK_lt _ _).2 e))⟩
  exact hlay
end Go.Vc.A

/- A variable in a block of its own: made, then stored into. -/
namespace Go.Vc
open Go Go.RowKit
section
variable {P : Program} {w W : World} {M : Nat → Prop} {gs : List Nat}
theorem opw_allocS {t : TypeId} (zc : List Value) {zv : Value} {K : Value → World → Prop} (hz : pureRun P (zeroValue t) = some zv) (hc : zv.cells = zc.toArray) (hA : AtF w M gs W)
    (h : ∀ g w', W.heap.size = g → AtF w M gs w' → Keeps gs W w' → Bel W w' → w'.heap[g]? = some (.cells zc.toArray t (0, 0)) → K (.pointer (some ⟨g, 0, none⟩)) w') : OpW P (valueS (Instr.alloc t true (.tuple #[]))) W K := by
  unfold OpW
  rw [run_valueS (run_alloc hz)]
  refine h _ _ rfl (hA.call (below_alloc _)) (hA.keeps (below_alloc _)) (below_alloc _) ?_
  rw [heap_alloc_new, hc]
/-- Made, and stored into at once: a new block. -/
theorem opw_boxed {t te : TypeId} (zc cs : List Value) {zv v : Value} {K : Nat → World → Prop} (hz : pureRun P (zeroValue t) = some zv) (hc : zv.cells = zc.toArray) (hs : cellStore P te zc 0 v = some cs) (hA : AtF w M gs W)
    (h : ∀ g w', W.heap.size = g → AtF w M gs w' → Keeps gs W w' → Bel W w' → w'.heap[g]? = some (.cells cs.toArray t (0, 0)) → K g w') :
    OpW P (valueS (Instr.alloc t true (.tuple #[]))) W fun p w' => ∃ ad, p = .pointer (some ad) ∧ OpW P (skipS (Instr.storeAt te (.pointer (some ad)) v)) w' fun _ w'' => K ad.block w'' ∧ ad = ⟨ad.block, 0, none⟩ := by
  refine opw_allocS zc hz hc hA fun g w' hg hA' hk hb hblk => ⟨_, rfl, ?_⟩
  refine opw_storeF (w := W) (M := noB) (gs := gs) (cells := zc) ⟨Chg.of_below hb, hA'.under⟩ hblk (.inl (by omega)) (fun hx => ?_) hs fun w2 hA2 hk2 hch hb2 => ⟨?_, rfl⟩
  · have := hA.under g hx
    omega
  · have hbel : Bel W w2 := hA2.below
    exact h g w2 hg (hA.call hbel) (hA.keeps hbel) hbel hb2
end
end Go.Vc

/- All alarms in order; forgetting. -/
set_option maxRecDepth 20000
set_option maxHeartbeats 1000000
namespace Go.Vc.A
open Go Go.Vc Go.RowKit Go.Proofs Go.Vc.H Vcc

variable {w W W' : World} {M N F : Nat → Prop} {gs : List Nat} {g hg r1 r2 : Nat} {s : List It} {st last : Int} {im : List (Ky × Int)} {km : List (Int × Ky)} {T : Ky → Option Int}

abbrev tm (T : Ky → Option Int) (k : Ky) : Int := (T k).getD 0

theorem c42 {b : Nat} (hb : W.heap[b]? = some (.cells #[alV g] 50 (0, 0))) (h : AlS w M W g hg r1 r2 F s st im km last) (ho : AlOk s im km last T) (k : Ky) : Ret Try.prog 42 #[kyV k, .pointer (some ⟨b, 0, none⟩)] W (.int .i64 (tm T k)) := by
  intro R hR
  refine f42_calls k.1 k.2.1 k.2.2 _ W R ?_
  unfold f42_vc
  intro n1 _
  refine ⟨_, rd_f0 (r := []) (ty := 50) hb (by kernel_rfl) (by simp), go_below_too (At.refl W) fun w3 hA hb3 => ?_⟩
  refine at_callb hA (c27 (h.call hb3) ho k) fun w5 hA hk _ => ?_
  unfold tm at hR
  cases hT : T k with
  | none =>
    rw [hT] at hR
    exact ⟨_, _, rfl, hk, leaf hR hA rfl⟩
  | some t =>
    rw [hT] at hR
    exact ⟨_, _, rfl, hk, leaf hR hA rfl⟩

theorem ky_one (k : Ky) : ∀ u ∈ kyE k, u.oneCell' = true := fun u hu => by simp at hu; rcases hu with rfl | rfl | rfl <;> rfl

theorem c23 (h : AlS w M W g hg r1 r2 F s st im km last) (ho : AlOk s im km last T) (hlen : s.length ≤ 900) : RetQ Try.prog 23 #[alV g] W fun v W' => ∃ l' : List Ky, W'.ownsRow W.heap.size 54 3 v l'.length (l'.flatMap kyE) ∧ l'.Perm (im.map (·.1)) ∧ l'.Pairwise (fun x y => ¬ lexK (tm T) y x) := by
  intro R hR
  refine f23_calls _ W R ?_
  unfold f23_vc
  have himl := ho.len
  refine opw_boxS (At.refl W) fun b w2 hb0 hA _ hb2 hblk => ⟨_, rfl, _, rd_f0 (r := []) hblk (by kernel_rfl) (by simp), ?_⟩
  have h := h.call hb2
  refine at_callb hA (c40 h.blk) fun w6 hA _ hb6 => ⟨_, rfl, brB (fun e => by cases e) (fun _ => ?_)⟩
  have h := h.call hb6
  have hblk : w6.heap[b]? = some (.cells #[alV g] 50 (0, 0)) := by rw [hb6.block (Array.getElem?_eq_some_iff.1 hblk).1, hblk]; rfl
  refine ⟨_, rd_f0 (r := []) hblk (by kernel_rfl) (by simp), _, rfl, _, h.rd1, ?_⟩
  refine opw_range (kt := 54) (et := 2) (by kernel_rfl) hA h.ids fun q w12 hq hA _ hb12 hi => ⟨_, rfl, ?_⟩
  have h := h.call hb12
  have hblk : w12.heap[b]? = some (.cells #[alV g] 50 (0, 0)) := by rw [hb12.block (Array.getElem?_eq_some_iff.1 hblk).1, hblk]
  have hgb : ∀ x, fpA g r1 r2 F x → x < w12.heap.size ∧ x ≠ b ∧ x ≠ q := fun x hx => by
    have h1 := h.lt x hx
    have h0 := ‹AlS w M W g hg r1 r2 F s st im km last›.lt x hx
    have := hb2.size
    have := hb6.size
    omega
  refine ⟨fun v W' => At W [] W' ∧ AlS w M W' g hg r1 r2 F s st im km last ∧ W'.heap[b]? = some (.cells #[alV g] 50 (0, 0)) ∧ ∃ out rest cur, OwnL W [] W' 54 3 kyE (.slice v.1.1 v.1.2.1 v.1.2.2) out ∧ Itr W noB [] W' q r1 kyV (Value.int .i64) im rest cur ∧ (out ++ rest.map (·.1)).Perm (im.map (·.1)),
    fun v _ => im.length - v.1.2.1, ⟨hA, h, hblk, [], im, none, OwnL.nil, hi, by simp⟩, ?_⟩
  rintro a16 n17 n18 w19 ⟨hA, h, hblk, out, rest, cur, hout, hi, hperm⟩
  simp only at hout
  have hn17 := hout.len
  have hol : out.length + rest.length = im.length := by
    have := hperm.length_eq
    simpa using this
  have hob : ∀ k, (Value.slice a16 n17 n18).ownBlock = some k → k ≠ b ∧ k ≠ q ∧ ¬ fpA g r1 r2 F k := fun k hk => by
    obtain ⟨cur', hcur⟩ := hout.blk hk
    refine ⟨cells_ne hcur hblk (by decide), fun e => ?_, fun hf => ?_⟩
    · obtain ⟨es, clock, since, c0, seen, _, _, _, _, h5, _⟩ := hi.obj
      subst e
      rw [hcur] at h5
      cases h5
    · have h1 := (hout.row.lt k hk).1
      have h0 := ‹AlS w M W g hg r1 r2 F s st im km last›.lt k hf
      omega
  refine opw_next hA hi (fun hr => ⟨.inl rfl, fun _ => ?_, fun _ _ _ _ e => by simp at e⟩) fun x ra rb w21 hr hA hk hch hi => ⟨.inr ⟨((x.1.1, x.1.2.1, x.1.2.2, ()), x.2, ()), rfl⟩, fun e => by simp at e, fun x24 x25 x26 x27 _ => ?_⟩
  · subst hr
    simp only [List.map_nil, List.append_nil] at hperm
    refine at_order (τ := tm T) rfl hA hout (by simp at hol; omega) (fun W' hc k => RetI.of (by kernel_rfl) ?_) fun l' w23 hA hk hch ho' hp hw => ⟨rfl, ?_⟩
    · refine c42 (b := b) ?_ (h.chg hc fun x hx hn => (hob x hn).2.2 hx) ho k
      rw [hc.block b (Array.getElem?_eq_some_iff.1 hblk).1 (fun hn => (hob b hn).1 rfl), hblk]
    · exact hR _ _ hA.below ⟨l', by rw [hn17]; have := ho'.row; rw [hp.length_eq] at this ⊢; rw [hn17] at this; exact this, hp.trans hperm, hw⟩
  · have h := h.chg hch fun y hy e => (hgb y hy).2.2 e
    have hout := hout.chg hch fun k hk e => (hob k hk).2.1 e
    have hqb : q ≠ b := fun e => by
      obtain ⟨es, clock, since, c0, seen, _, _, _, _, h5, _⟩ := ‹Itr W noB [] w19 q r1 kyV (Value.int .i64) im rest cur›.obj
      rw [e, hblk] at h5
      cases h5
    have hblk : w21.heap[b]? = some (.cells #[alV g] 50 (0, 0)) := by rw [hch.block b (Array.getElem?_eq_some_iff.1 hblk).1 (Ne.symm hqb), hblk]
    refine opw_entry hi ⟨_, _, rfl, ?_⟩
    refine opw_allocS [.int .i64 0, .int .i64 0, .int .i64 0] (zv := .agg #[.int .i64 0, .int .i64 0, .int .i64 0]) (by kernel_rfl) rfl hA fun p w33 hp hA _ hb33 hpb => ⟨_, rfl, ?_⟩
    refine opw_storeF (w := W) (M := noB) hA hpb (.inl (by have := hA.size; have := ‹AtF W noB [] w21›.size; omega)) (by simp) (cells' := kyE x.1) (by kernel_rfl) fun w36 hA _ hch36 hpb => ⟨_, _, _, (elt_cells hpb).agg 3 (by kernel_rfl) (by kernel_rfl) (by simp) (by simp), ?_⟩
    have hbel : ∀ {y}, y < w21.heap.size → w36.heap[y]? = w21.heap[y]? := fun {y} hy => by rw [hch36.block y (Nat.lt_of_lt_of_le hy hb33.size) (by omega), hb33.block hy]
    have h := h.keep fun y hy => hbel (h.lt y hy)
    have hi := hi.keep (hbel hi.lts.1) (hbel hi.lts.2.1)
    have hout := hout.keep fun k hk => hbel (hout.lt k hk)
    have hblk : w36.heap[b]? = some (.cells #[alV g] 50 (0, 0)) := by rw [hbel (Array.getElem?_eq_some_iff.1 hblk).1, hblk]
    rw [hr, List.map_append, List.map_cons] at hperm
    rw [hr] at hol
    simp only [List.length_append, List.length_cons] at hol
    refine opw_push0 (e' := 54) (bytes := 24) hA hout x.1 (by kernel_rfl) (by kernel_rfl) rfl (fun _ _ => rfl) (ky_one _) (by omega) (by decide) fun a2 c2 w46 hA hout' hgr hnew => ?_
    have hgk : ∀ {y}, y < w36.heap.size → (Value.slice a16 n17 n18).ownBlock ≠ some y → w46.heap[y]? = w36.heap[y]? := fun {y} hy hne => hgr.block y hy fun e => hne e.symm
    refine ⟨⟨hA, h.keep fun y hy => hgk (h.lt y hy) fun e => (hob y e).2.2 hy, by rw [hgk (Array.getElem?_eq_some_iff.1 hblk).1 (fun e => (hob b e).1 rfl), hblk], out ++ [x.1], ra ++ rb, some x, hout', hi.keep (hgk hi.lts.1 fun e => (hob q e).2.1 rfl) (hgk hi.lts.2.1 fun e => (hob r1 e).2.2 (.inr (.inl rfl))), ?_⟩, ?_⟩
    · rw [List.map_append, List.append_assoc, List.singleton_append]
      refine List.Perm.trans ?_ hperm
      exact List.Perm.append_left _ List.perm_middle.symm
    · simp only [List.length_append, List.length_cons, List.length_nil]
      omega
end Go.Vc.A

/- Forgetting, falling due, making. -/
set_option maxRecDepth 20000
set_option maxHeartbeats 1000000
namespace Go.Vc.A
open Go Go.Vc Go.RowKit Go.Proofs Go.Vc.H Vcc

variable {w W W' : World} {M N F : Nat → Prop} {gs : List Nat} {g hg r1 r2 : Nat} {s : List It} {st last : Int} {im : List (Ky × Int)} {km : List (Int × Ky)} {T : Ky → Option Int}

/-- All blocks of alarms lie apart from an own row. -/
theorem own_apart {a : Option Addr} {n c : Nat} {l : List Ky} (hlt : ∀ b, fpA g r1 r2 F b → b < W'.heap.size) (ho : W.ownsRow W'.heap.size 54 3 (.slice a n c) l.length (l.flatMap kyE)) : ∀ k, (Value.slice a n c).ownBlock = some k → ¬ fpA g r1 r2 F k := fun k hk hf => by
  have := (ho.lt k hk).1
  have := hlt k hf
  omega

theorem tdel_tdel (T : Ky → Option Int) (k : Ky) (S : List Ky) : (fun j => if j = k then none else (if j ∈ S then none else T j)) = fun j => if j ∈ S ++ [k] then none else T j := by
  funext j
  by_cases h1 : j = k
  · simp [h1]
  · by_cases h2 : j ∈ S <;> simp [h1, h2]

/-- Which keys are forgotten. -/
def fgt (what first : Int) (k : Ky) : Bool := decide (k.1 = what ∧ k.2.1 = first)

theorem c31 (what first : Int) (h : AlS w M W g hg r1 r2 F s st im km last) (ho : AlOk s im km last T) (hs : s.length ≤ 900) (hst : 0 ≤ st ∧ st < 1152921504000000000) :
    RetF Try.prog 31 #[alV g, .int .i64 what, .int .i64 first] W (fpA g r1 r2 F) (AlQ W g hg r1 r2 F fun v s' st' im' km' last' _ => v = .int .i64 (((im.map (·.1)).filter (fgt what first)).length : Int) ∧ AlOk s' im' km' last' (fun j => if fgt what first j then none else T j) ∧ st ≤ st' ∧ st' ≤ st + 2000000 ∧ last' = last ∧ s'.length ≤ s.length) := by
  intro R hR
  refine f31_calls _ what first W R ?_
  unfold f31_vc
  have hlt0 := h.lt
  have h := h.entry
  have himl := ho.len
  refine at_callb (AtF.refl W (fpA g r1 r2 F)) (c40 h.blk) fun w2 hA _ hb2 => ⟨_, rfl, brB (fun e => by cases e) (fun _ => ?_)⟩
  have h := h.call hb2
  refine ⟨_, rfl, _, h.rd1, ?_⟩
  refine opw_range (kt := 54) (et := 2) (by kernel_rfl) hA h.ids fun q w7 hq hA _ hb7 hi => ⟨_, rfl, ?_⟩
  have h := h.call hb7
  have hq7 : W.heap.size ≤ q := by have := hb2.size; omega
  have hgq : ∀ x, fpA g r1 r2 F x → x ≠ q := fun x hx e => by
    have := hlt0 x hx
    omega
  refine ⟨fun v W' => AtF W (fpA g r1 r2 F) [] W' ∧ AlS W (fpA g r1 r2 F) W' g hg r1 r2 F s st im km last ∧ ∃ out done rest cur, OwnL W [] W' 54 3 kyE (.slice v.1.1 v.1.2.1 v.1.2.2) out ∧ Itr W noB [] W' q r1 kyV (Value.int .i64) im rest cur ∧ out = done.filter (fgt what first) ∧ (done ++ rest.map (·.1)).Perm (im.map (·.1)),
    fun _ W' => itLeft W' q r1, ⟨hA, h, [], [], im, none, OwnL.nil, ⟨.inl hq7, by simp, hi.obj⟩, rfl, by simp⟩, ?_⟩
  rintro a11 n12 n13 w14 ⟨hA, h, out, done, rest, cur, hout, hi, hod, hperm⟩
  simp only at hout
  have hn12 := hout.len
  have hdl : done.length + rest.length = im.length := by
    have := hperm.length_eq
    simpa using this
  have hol : out.length ≤ done.length := by rw [hod]; exact List.length_filter_le ..
  have hob : ∀ k, (Value.slice a11 n12 n13).ownBlock = some k → k ≠ q ∧ ¬ fpA g r1 r2 F k := fun k hk => by
    obtain ⟨cur', hcur⟩ := hout.blk hk
    refine ⟨fun e => ?_, fun hf => ?_⟩
    · obtain ⟨es, clock, since, c0, seen, _, _, _, _, h5, _⟩ := hi.obj
      subst e
      rw [hcur] at h5
      cases h5
    · have h1 := (hout.row.lt k hk).1
      have := hlt0 k hf
      omega
  have hleft := hi.left
  refine opw_next (hA.gs (gs' := []) (by simp [Under])) (hi.base (.inl (by omega)) (by simp)) (fun hr => ⟨.inl rfl, fun _ => ?_, fun _ _ _ _ e => by simp at e⟩) fun x ra rb w21 hr hA hk hch hi => ⟨.inr ⟨((x.1.1, x.1.2.1, x.1.2.2, ()), x.2, ()), rfl⟩, fun e => by simp at e, fun x24 x25 x26 x27 _ => ?_⟩
  · subst hr
    simp only [List.map_nil, List.append_nil] at hperm
    have hsl := hout.sl fun _ _ => rfl
    refine ⟨fun v W' => ∃ i : Nat, v.1 = i ∧ i ≤ out.length ∧ AtF W (fpA g r1 r2 F) [] W' ∧ OwnL W [] W' 54 3 kyE (.slice a11 n12 n13) out ∧ ∃ F' s' st' im' km', AlS W (fpA g r1 r2 F) W' g hg r1 r2 F' s' st' im' km' last ∧ AlOk s' im' km' last (fun j => if j ∈ out.take i then none else T j) ∧ st ≤ st' ∧ st' ≤ st + 2000 * i ∧ s'.length ≤ s.length ∧ (∀ k, (Value.slice a11 n12 n13).ownBlock = some k → ¬ fpA g r1 r2 F' k),
      fun v _ => (out.length - v.1).toNat, ⟨0, rfl, by omega, hA, hout, F, s, st, im, km, h, by simpa using ho, by omega, by omega, by omega, fun k hk => (hob k hk).2⟩, ?_⟩
    rintro x19 w20 ⟨i, hi', hil, hA, hout, F', s', st', im', km', h, ho', q1, q2, q3, hob'⟩
    simp only at hi'
    subst hi'
    have hsl := hout.sl fun _ _ => rfl
    refine brD (fun hlt => ?_) (fun hge => ?_)
    · obtain ⟨x, hx⟩ : ∃ x, out[i]? = some x := ⟨_, List.getElem?_eq_getElem (by omega)⟩
      obtain ⟨ad, g1, el, _⟩ := elt_at (P := Try.prog) (k := .i64) (t := 49) hsl hx (e := 54) (by kernel_rfl) (by kernel_rfl)
      refine ⟨ad, g1, _, _, _, el.agg 3 (by kernel_rfl) (by kernel_rfl) (by simp) (by simp), ?_⟩
      intro n25 hn25 w26 hev hun
      have hbel := hev.bel (by simpa using hn25)
      have hA : AtF W (fpA g r1 r2 F) [n25] w26 := ⟨(hA.call hbel).chg, hun⟩
      have hltF := h.lt
      have h := h.call hbel
      have hout := hout.call hbel
      have hng : ∀ y ∈ [n25], ¬ fpA g r1 r2 F' y := fun y hy hf => by
        simp at hy
        subst hy
        have := hltF y hf
        omega
      refine at_al hA h hng (c43 x h ho' (by omega) (by omega)) fun v F2 s2 st2 im2 km2 last2 w28 hA hk hch ⟨e1, e2, e3, e4, e5, e6, e7⟩ h2 hfp => ?_
      subst e1 e7
      have e8 : IntKind.i64.wrap ((i : Int) + 1) = ((i + 1 : Nat) : Int) := by rw [wrap_i64 (by omega) (by omega)]; rfl
      rw [e8]
      have hs2 : s2.length ≤ s'.length := by
        rcases e6 with e | ⟨_, _, e⟩
        · rw [e]; exact Nat.le_refl _
        · rw [e]; exact dropR_len _ _
      refine ⟨_, rfl, hk, ⟨i + 1, rfl, by omega, hA.off, hout.chg hch hob', F2, s2, st2, im2, km2, h2, ?_, by omega, by omega, by omega, fun k hk hf => ?_⟩, by simp only; omega⟩
      · have e9 := tdel_tdel T x (out.take i)
        have e10 : out.take (i + 1) = out.take i ++ [x] := take_next hx
        rw [e10, ← e9]
        exact e2
      · rcases hfp k hf with e | e
        · exact hob' k hk e
        · have := hout.lt k hk
          omega
    · have hie : i = out.length := by omega
      have e1 : (fun j => if j ∈ out.take i then none else T j) = fun j => if fgt what first j then none else T j := by
        funext j
        have hmf : j ∈ out.take i ↔ (j ∈ done ∧ fgt what first j = true) := by rw [hie, List.take_length, hod, List.mem_filter]
        by_cases hf : fgt what first j
        · rw [if_pos hf]
          by_cases hj : j ∈ done
          · rw [if_pos (hmf.2 ⟨hj, hf⟩)]
          · rw [if_neg fun e => hj (hmf.1 e).1]
            refine ho.no j (mget_none.2 fun hm => hj ((hperm.mem_iff).2 hm))
        · rw [if_neg hf, if_neg fun e => hf (hmf.1 e).2]
      rw [e1] at ho'
      refine hR _ _ hA.chg ⟨F', s', st', im', km', last, ⟨?_, ho', q1, by omega, rfl, by omega⟩, h⟩
      rw [hn12, hod, (hperm.filter _).length_eq]
  · have h := h.chg hch fun y hy e => hgq y hy e
    have hout := hout.chg hch fun k hk e => (hob k hk).1 e
    refine opw_entry hi ⟨_, _, rfl, ?_⟩
    refine opw_allocS [.int .i64 0, .int .i64 0, .int .i64 0] (zv := .agg #[.int .i64 0, .int .i64 0, .int .i64 0]) (by kernel_rfl) rfl hA fun p w39 hp hA _ hb33 hpb => ⟨_, rfl, ?_⟩
    have hp0 : W.heap.size ≤ p := by have := hA.size; have := ‹AtF W (fpA g r1 r2 F) [] w21›.size; omega
    refine opw_storeF hA hpb (.inl hp0) (by simp) (cells' := kyE x.1) (by kernel_rfl) fun w42 hA _ hch36 hpb => ?_
    have hbel : ∀ {y}, y < w21.heap.size → w42.heap[y]? = w21.heap[y]? := fun {y} hy => by rw [hch36.block y (Nat.lt_of_lt_of_le hy hb33.size) (by omega), hb33.block hy]
    have h := h.keep fun y hy => hbel (h.lt y hy)
    have hi := hi.keep (hbel hi.lts.1) (hbel hi.lts.2.1)
    have hout := hout.keep fun k hk => hbel (hout.lt k hk)
    have hpl : p < w42.heap.size := (Array.getElem?_eq_some_iff.1 hpb).1
    refine ⟨_, rd_f 1 hpb rfl (by kernel_rfl) (by simp), ?_⟩
    intro n44 hn44
    have rdp : Reads Try.prog [n44] (Instr.loadAt 54 (Value.pointer (some ⟨p, 0, none⟩))) w42 (kyV x.1) := (elt_cells hpb).agg 3 (by kernel_rfl) (by kernel_rfl) (by simp) (by simp; omega)
    refine ⟨_, _, _, rdp, ?_⟩
    rw [hr, List.map_append, List.map_cons] at hperm
    rw [hr] at hdl hleft
    simp only [List.length_append, List.length_cons] at hdl hleft
    have hperm' : (done ++ [x.1] ++ (ra ++ rb).map (·.1)).Perm (im.map (·.1)) := by
      rw [List.map_append, List.append_assoc, List.singleton_append]
      exact List.Perm.trans (List.Perm.append_left _ List.perm_middle.symm) hperm
    have hcond : (x.1.1 == what && (x.1.2.1 == first && (x.1.2.2 == x.1.2.2 && true))) = fgt what first x.1 := by
      unfold fgt
      rw [Bool.eq_iff_iff]
      simp
    rw [hcond]
    refine brB (fun hf => ⟨_, _, _, rdp, ?_⟩) (fun hf => ?_)
    · intro w51 hev hun
      have hbel := hev.bel (by simpa using hn44)
      have hA : AtF W (fpA g r1 r2 F) [n44] w51 := ⟨(hA.call hbel).chg, hun⟩
      have h := h.call hbel
      have hi := hi.call hbel
      have hout : OwnF W (fpA g r1 r2 F) [n44] w51 54 3 kyE (.slice a11 n12 n13) out := (hout.call hbel).base (fun k hk => .inl (hout.mine k hk |>.resolve_right id)) fun y hy hk => by
        simp at hy
        subst hy
        have := hout.lt _ hk
        omega
      refine opw_push (e' := 54) (bytes := 24) hA hout x.1 (by kernel_rfl) (by kernel_rfl) rfl (fun _ _ => rfl) (ky_one _) (by omega) (by decide) fun a2 c2 w58 hA hout' hgr hnew => ?_
      have hgk : ∀ {y}, y < w51.heap.size → (Value.slice a11 n12 n13).ownBlock ≠ some y → w58.heap[y]? = w51.heap[y]? := fun {y} hy hne => hgr.block y hy fun e => hne e.symm
      have hi' := hi.keep (hgk hi.lts.1 fun e => (hob q e).1 rfl) (hgk hi.lts.2.1 fun e => (hob r1 e).2 (.inr (.inl rfl)))
      refine ⟨⟨hA.off, h.keep fun y hy => hgk (h.lt y hy) fun e => (hob y e).2 hy, out ++ [x.1], done ++ [x.1], ra ++ rb, some x, ?_, hi'.base (.inl hq7) (by simp), ?_, hperm'⟩, ?_⟩
      · refine hout'.base (fun k hk => ?_) (by simp)
        rcases hnew with e | e
        · rw [e] at hk
          exact .inl (hout.mine k hk |>.resolve_right (hob k hk).2)
        · exact .inl (by have := e k hk; have := hA.size; have := ‹AtF W (fpA g r1 r2 F) [n44] w51›.size; omega)
      · rw [List.filter_append, hod]; simp [hf]
      · show itLeft w58 q r1 < itLeft w14 q r1
        rw [hi'.left, hleft]
        simp
    · intro w62 hev hun
      have hbel := hev.bel (by simpa using hn44)
      have hi := hi.call hbel
      refine ⟨⟨(hA.call hbel).off, h.call hbel, out, done ++ [x.1], ra ++ rb, some x, hout.call hbel, hi.base (.inl hq7) (by simp), ?_, hperm'⟩, ?_⟩
      · rw [List.filter_append, hod]; simp [hf]
      · show itLeft w62 q r1 < itLeft w14 q r1
        rw [hi.left, hleft]
        simp
end Go.Vc.A

/- What falls due; making. -/
set_option maxRecDepth 20000
set_option maxHeartbeats 1000000
namespace Go.Vc.A
open Go Go.Vc Go.RowKit Go.Proofs Go.Vc.H Vcc

variable {w W W' : World} {M N F : Nat → Prop} {gs : List Nat} {g hg r1 r2 : Nat} {s : List It} {st last : Int} {im : List (Ky × Int)} {km : List (Int × Ky)} {T : Ky → Option Int}

/-- Does a key fall due? -/
def dueT (T : Ky → Option Int) (now : Int) (k : Ky) : Bool := match T k with
  | some t => decide (t ≤ now)
  | none => false
theorem dueT_iff {now : Int} {k : Ky} : dueT T now k = true ↔ ∃ t, T k = some t ∧ t ≤ now := by
  unfold dueT
  cases T k with
  | none => simp
  | some t => simp

theorem c44 {b r0 : Nat} {atm : List (Ky × Int)} {m0 : Nat → Prop} (hb : W.heap[b]? = some (.cells #[.map (some r0)] 73 (0, 0))) (ho : OwnM w m0 gs W r0 kyV (Value.int .i64) atm) (k : Ky) : Ret Try.prog 44 #[kyV k, .pointer (some ⟨b, 0, none⟩)] W (.int .i64 ((mget k atm).getD 0)) := by
  intro R hR
  refine f44_calls k.1 k.2.1 k.2.2 _ W R ?_
  unfold f44_vc
  intro n1 _
  refine ⟨_, rd_f0 (r := []) (ty := 73) hb (by kernel_rfl) (by simp), _, fun W' hb => ?_, go_below (At.refl W) fun w4 hA => leaf hR hA rfl⟩
  have h' := run_lookup_m (P := Try.prog) (t := 73) (et := 2) (z := .int .i64 0) keyOk_ky (by kernel_rfl) (by kernel_rfl) (ho.call hb) k false
  rw [h']
  cases mget k atm <;> rfl

/-- While keys fall due. -/
structure DuI (W : World) (F0 : Nat → Prop) (W' : World) (g hg r1 r2 : Nat) (F : Nat → Prop) (r0 b : Nat) (a : Option Addr) (n c : Nat) (out : List Ky) (atm : List (Ky × Int)) (s : List It) (st : Int) (im : List (Ky × Int)) (km : List (Int × Ky)) (last : Int) : Prop where
  al : AlS W (fpA g r1 r2 F0) W' g hg r1 r2 F s st im km last
  row : OwnL W [] W' 54 3 kyE (.slice a n c) out
  mp : OwnM W noB [] W' r0 kyV (Value.int .i64) atm
  bx : W'.heap[b]? = some (.cells #[.map (some r0)] 73 (0, 0))
  bl : W.heap.size ≤ b
  h1 : ∀ k, (Value.slice a n c).ownBlock = some k → ¬ fpA g r1 r2 F k
  h2 : ¬ fpA g r1 r2 F r0
  h3 : ¬ fpA g r1 r2 F b

variable {F0 : Nat → Prop} {r0 b n c : Nat} {a : Option Addr} {out : List Ky} {atm : List (Ky × Int)}
theorem DuI.keep (h : DuI W F0 W' g hg r1 r2 F r0 b a n c out atm s st im km last) {W2 : World} (hc : ∀ x, x < W'.heap.size → W2.heap[x]? = W'.heap[x]?) : DuI W F0 W2 g hg r1 r2 F r0 b a n c out atm s st im km last :=
  ⟨h.al.keep fun x hx => hc x (h.al.lt x hx), h.row.keep fun k hk => hc k (h.row.lt k hk), OwnM_keep h.mp (hc r0 h.mp.lt), by rw [hc b (Array.getElem?_eq_some_iff.1 h.bx).1]; exact h.bx, h.bl, h.h1, h.h2, h.h3⟩
theorem DuI.call (h : DuI W F0 W' g hg r1 r2 F r0 b a n c out atm s st im km last) {W2 : World} (hb : Bel W' W2) : DuI W F0 W2 g hg r1 r2 F r0 b a n c out atm s st im km last := h.keep fun _ hx => hb.block hx
theorem DuI.nrb (h : DuI W F0 W' g hg r1 r2 F r0 b a n c out atm s st im km last) : ∀ k, (Value.slice a n c).ownBlock = some k → k ≠ r0 ∧ k ≠ b := fun k hk => by
  obtain ⟨cur, hcur⟩ := h.row.blk hk
  refine ⟨?_, cells_ne hcur h.bx (by decide)⟩
  obtain ⟨es, cl, hr, _⟩ := h.mp.obj
  exact cells_map hcur hr
theorem DuI.rb (h : DuI W F0 W' g hg r1 r2 F r0 b a n c out atm s st im km last) : b ≠ r0 := by
  obtain ⟨es, cl, hr, _⟩ := h.mp.obj
  exact cells_map h.bx hr

theorem peekV_nil : peekV [] = .tuple #[.int .i64 0, .int .i64 0, .bool false] := rfl
theorem peekV_cons (x : It) (s : List It) : peekV (x :: s) = .tuple #[.int .i64 x.1, .int .i64 x.2, .bool true] := rfl
/-- The first item, its parts. -/
def pk (s : List It) : Int × Int × Bool := match s with
  | x :: _ => (x.1, x.2, true)
  | [] => (0, 0, false)
theorem peekV_pk (s : List It) : peekV s = .tuple #[.int .i64 (pk s).1, .int .i64 (pk s).2.1, .bool (pk s).2.2] := by cases s <;> rfl

theorem c24 (now : Int) (h : AlS w M W g hg r1 r2 F s st im km last) (ho : AlOk s im km last T) (hs : s.length ≤ 900) (hst : 0 ≤ st ∧ st < 1152921504000000000) :
    RetF Try.prog 24 #[alV g, .int .i64 now] W (fpA g r1 r2 F) (AlQ W g hg r1 r2 F fun v s' st' im' km' last' W' => (∃ l' : List Ky, W'.ownsRow W.heap.size 54 3 v l'.length (l'.flatMap kyE) ∧ l'.Nodup ∧ (∀ k, k ∈ l' ↔ dueT T now k = true) ∧ l'.Pairwise (fun x y => ¬ lexK (tm T) y x)) ∧ AlOk s' im' km' last' (fun j => if dueT T now j then none else T j) ∧ st ≤ st' ∧ st' ≤ st + 2000000 ∧ last' = last ∧ s'.length ≤ s.length) := by
  intro R hR
  refine f24_calls _ now W R ?_
  unfold f24_vc
  have hlt0 := h.lt
  have h := h.entry
  refine at_callb (AtF.refl W (fpA g r1 r2 F)) (c40 h.blk) fun w2 hA _ hb2 => ⟨_, rfl, brB (fun e => by cases e) (fun _ => ?_)⟩
  have h := h.call hb2
  refine opw_makeMap (kf := kyV) (vf := Value.int .i64) hA fun r0 w5 hr0 hA _ hb5 hm => ⟨_, rfl, ?_⟩
  have h := h.call hb5
  have hrl := hm.lt
  refine opw_allocS [.map none] (zv := .map none) (by kernel_rfl) rfl hA fun b w8 hb hA _ hb8 hbx => ⟨_, rfl, ?_⟩
  have h := h.call hb8
  have hm := hm.call hb8
  have hbW : W.heap.size ≤ b := by have := hb2.size; have := hb5.size; omega
  have hrW : W.heap.size ≤ r0 := by have := hb2.size; omega
  have hnf : ∀ x, W.heap.size ≤ x → ¬ fpA g r1 r2 F x := fun x hx hf => by have := hlt0 x hf; omega
  refine opw_storeF hA hbx (.inl hbW) (by simp) (cells' := [.map (some r0)]) (by kernel_rfl) fun w11 hA _ hch hbx => ?_
  have hrb : r0 ≠ b := by omega
  have h := h.chg hch fun x hx e => hnf b hbW (e ▸ hx)
  have hm := hm.chg hch hrb
  have D : DuI W F w11 g hg r1 r2 F r0 b none 0 0 [] [] s st im km last := ⟨h, OwnL.nil, hm.base0 hrW, hbx, hbW, (fun _ hk => by cases hk), hnf r0 hrW, hnf b hbW⟩
  refine ⟨_, rfl, _, h.rd0, ?_⟩
  refine at_callb hA h.hp.peek fun w15 hA _ hb15 => ⟨_, _, _, by rw [peekV_pk], ?_⟩
  have D := D.call hb15
  refine ⟨fun v W' => AtF W (fpA g r1 r2 F) [] W' ∧ ∃ F' out atm s' st' im' km', (v.2.1, v.2.2.1, v.2.2.2.1) = pk s' ∧ DuI W F W' g hg r1 r2 F' r0 b v.1.1 v.1.2.1 v.1.2.2 out atm s' st' im' km' last ∧ AlOk s' im' km' last (fun j => if j ∈ out then none else T j) ∧ st ≤ st' ∧ st' ≤ st + 2000 * out.length ∧ out.length + s'.length = s.length ∧ out.Nodup ∧ (∀ k ∈ out, ∃ t, T k = some t ∧ t ≤ now ∧ mget k atm = some t),
    fun v _ => (s.length - v.1.2.1), ⟨hA, F, [], [], s, st, im, km, rfl, D, by simpa using ho, by omega, by simp, by simp, List.nodup_nil, by simp⟩, ?_⟩
  rintro a21 n22 n23 x24 x25 b26 w27 ⟨hA, F', out, atm, s', st', im', km', hpk, D, ho', q1, q2, q3, hnd, hat⟩
  simp only at hpk D
  have hn22 := D.row.len
  -- the end: the keys are put in order
  have fin : (∀ x ∈ s', ¬ x.2 ≤ now) → Calls Try.prog 41 #[.slice a21 n22 n23, .func (.func 44) #[] #[.pointer (some ⟨b, 0, none⟩)]] w27 fun e w59 => e = .returned (.tuple #[]) ∧ R (.returned (.slice a21 n22 n23)) w59 := fun hrest => by
    refine at_order (τ := fun k => (mget k atm).getD 0) rfl hA (D.row.base (fun k hk => .inl ((D.row.mine k hk).resolve_right id)) (by simp)) (by omega) (fun W' hc k => RetI.of (by kernel_rfl) ?_) fun l' w59 hA hk hch ho2 hp hw => ⟨rfl, ?_⟩
    · refine c44 (b := b) (r0 := r0) ?_ (D.mp.chg hc fun e => (D.nrb r0 e).1 rfl) k
      rw [hc.block b (Array.getElem?_eq_some_iff.1 D.bx).1 (fun e => (D.nrb b e).2 rfl), D.bx]
    · have hmem : ∀ k, k ∈ l' ↔ dueT T now k = true := fun k => by
        rw [hp.mem_iff, dueT_iff]
        constructor
        · intro hk
          obtain ⟨t, h1, h2, _⟩ := hat k hk
          exact ⟨t, h1, h2⟩
        · rintro ⟨t, h1, h2⟩
          apply Classical.byContradiction
          intro hn
          have hTk : (if k ∈ out then none else T k) = some t := by rw [if_neg hn]; exact h1
          cases hm : mget k im' with
          | none =>
            have := ho'.no k hm
            rw [hTk] at this
            cases this
          | some id =>
            obtain ⟨_, _, _, t', ht', hT'⟩ := ho'.fwd k id hm
            rw [hTk] at hT'
            cases hT'
            exact hrest _ ht' h2
      have hTe : (fun j => if j ∈ out then none else T j) = fun j => if dueT T now j then none else T j := by
        funext j
        have := hmem j
        rw [hp.mem_iff] at this
        by_cases hj : j ∈ out
        · rw [if_pos hj, if_pos (this.1 hj)]
        · rw [if_neg hj, if_neg fun e => hj (this.2 e)]
      refine hR _ _ hA.chg ⟨F', s', st', im', km', last, ⟨⟨l', ?_, hp.nodup_iff.2 hnd, hmem, ?_⟩, hTe ▸ ho', q1, by omega, rfl, by omega⟩, D.al.chg hch fun x hx hn => D.h1 x hn hx⟩
      · have hr := ownsRow_raise ho2.row0 (base := W.heap.size) fun k hk => by
          exact (D.row.mine k (by rw [← hk])).resolve_right id
        rw [hn22]
        rw [hp.length_eq] at hr ⊢
        rw [hn22] at hr
        exact hr
      · refine hw.imp_of_mem fun {x y} hx hy hn => ?_
        have ex : ∀ z, z ∈ l' → (mget z atm).getD 0 = tm T z := fun z hz => by
          obtain ⟨t, h1, _, h3⟩ := hat z (hp.mem_iff.1 hz)
          unfold tm
          rw [h1, h3]
        unfold lexK at hn ⊢
        rw [← ex x hx, ← ex y hy]
        exact hn
  refine brB (fun hb26 => brD (fun hle => ?_) (fun hgt => fin fun x hx => ?_)) (fun hb26 => fin fun x hx => ?_)
  · cases s' with
    | nil => simp [pk] at hpk; rw [hpk.2.2] at hb26; cases hb26
    | cons x s' =>
      simp only [pk, Prod.mk.injEq] at hpk
      obtain ⟨e1, e2, _⟩ := hpk
      subst e1 e2
      obtain ⟨k, hk⟩ := ho'.all x (by simp)
      have hb := ho'.bwd _ _ hk
      obtain ⟨_, _, _, t, ht, hT⟩ := ho'.fwd _ _ hb
      have htx : t = x.2 := by
        have := atS_of.nk_uniq D.al.hp.nk ht (y := x) (by simp) rfl
        rw [← this]
      subst htx
      have hko : k ∉ out := fun hm => by rw [if_pos hm] at hT; cases hT
      rw [if_neg hko] at hT
      have hlk := D.al.lookK x.1
      rw [hk, Option.getD_some] at hlk
      refine ⟨_, rfl, _, D.al.rd2, _, _, _, hlk, ?_⟩
      intro n33 hn33
      have hbl := (Array.getElem?_eq_some_iff.1 D.bx).1
      refine ⟨_, rd_f0 (r := []) (ty := 73) D.bx (by kernel_rfl) (by simp; omega), ?_⟩
      intro w35 hev hun
      have hbel := hev.bel (by simpa using hn33)
      have hltF := D.al.lt
      have hA : AtF W (fpA g r1 r2 F) [n33] w35 := ⟨(hA.call hbel).chg, hun⟩
      have D := D.call hbel
      have hng : ∀ y ∈ [n33], ¬ fpA g r1 r2 F' y := fun y hy hf => by
        simp at hy
        subst hy
        have := hltF y hf
        omega
      refine opw_lit (cs := kyE k) (e' := 54) hA (by kernel_rfl) fun w37 hA hk37 hb37 hcell _ => ⟨_, _, _, rfl, hk37, ?_⟩
      have D := D.call hb37
      refine ⟨rd_f0 (r := []) (ty := 73) D.bx (by kernel_rfl) (by simp), ?_⟩
      have hrow : OwnF W (fpA g r1 r2 F) [n33] w37 54 3 kyE (.slice a21 n22 n23) out := D.row.base (fun k hk => .inl ((D.row.mine k hk).resolve_right id)) fun y hy hk => by
        simp at hy
        subst hy
        have h1 := ‹DuI W F w27 g hg r1 r2 F' r0 b a21 n22 n23 out atm (x :: s') st' im' km' last›.row.lt _ hk
        omega
      simp only [List.length_cons] at q3
      refine opw_append1 (bytes := 24) (by kernel_rfl) hA hrow (x := k) rfl hcell (ky_one k) (by omega) (.inr (by omega)) fun v' w42 hA hk42 hgr hrow' hnew => ?_
      obtain ⟨a2, c2, rfl, _⟩ := hrow'.slice (fun _ _ => rfl)
      have hgk : ∀ {y}, y < w37.heap.size → (Value.slice a21 n22 n23).ownBlock ≠ some y → w42.heap[y]? = w37.heap[y]? := fun {y} hy hne => hgr.block y hy fun e => hne e.symm
      have hlt37 := D.al.lt
      have D42 : DuI W F w42 g hg r1 r2 F' r0 b a2 (out ++ [k]).length c2 (out ++ [k]) atm (x :: s') st' im' km' last :=
        ⟨D.al.keep fun y hy => hgk (D.al.lt y hy) fun e => D.h1 y e hy, hrow'.base (fun j hj => by
          rcases hnew with e | e
          · rw [e] at hj
            exact .inl ((D.row.mine j hj).resolve_right id)
          · exact .inl (by have := e j hj; have := ‹AtF W (fpA g r1 r2 F) [n33] w37›.size; omega)) (by simp), OwnM_keep D.mp (hgk D.mp.lt fun e => (D.nrb r0 e).1 rfl), by rw [hgk (Array.getElem?_eq_some_iff.1 D.bx).1 fun e => (D.nrb b e).2 rfl]; exact D.bx, hbW, fun j hj hf => by
          rcases hnew with e | e
          · rw [e] at hj
            exact D.h1 j hj hf
          · have := e j hj
            have := hlt37 j hf
            omega, D.h2, D.h3⟩
      refine ⟨_, _, _, rfl, hk42, rd_f0 (r := []) (ty := 73) D42.bx (by kernel_rfl) (by simp), ?_⟩
      have hr0n : r0 ∉ [n33] := fun hy => by
        simp at hy
        have h1 := ‹DuI W F w27 g hg r1 r2 F' r0 b a21 n22 n23 out atm (x :: s') st' im' km' last›.mp.lt
        omega
      refine opw_mapUpdate (kf := kyV) (vf := Value.int .i64) (k := k) (v := x.2) (kt := 54) (et := 2) keyOk_ky (by kernel_rfl) hA (OwnM.base1 D42.mp (.inl hrW) hr0n) fun w47 hA hk47 hch47 hmp => ⟨hk47, ?_⟩
      have D47 : DuI W F w47 g hg r1 r2 F' r0 b a2 (out ++ [k]).length c2 (out ++ [k]) (mset k x.2 atm) (x :: s') st' im' km' last :=
        ⟨D42.al.chg hch47 fun y hy e => D42.h2 (e ▸ hy), D42.row.chg hch47 fun j hj e => (D42.nrb j hj).1 e, hmp.base0 hrW, by rw [hch47.block b (Array.getElem?_eq_some_iff.1 D42.bx).1 D42.rb]; exact D42.bx, hbW, D42.h1, D42.h2, D42.h3⟩
      refine at_al hA D47.al hng (c43 k D47.al ho' (by simp; omega) (by omega)) fun v F2 s2 st2 im2 km2 last2 w49 hA hk49 hch49 ⟨e1, e2, e3, e4, e5, e6, e7⟩ h2 hfp => ?_
      subst e1 e7
      have hs2 : s2 = s' := by
        rcases e6 with e | ⟨id, hid, e⟩
        · exfalso
          have := e2.len
          rw [e, e5, mdel_length, hb] at this
          simp at this
          have h9 := ho'.len
          simp at h9
          omega
        · rw [hb] at hid
          cases hid
          rw [e]
          have hnk := D47.al.hp.nk
          unfold Nk at hnk
          rw [List.map_cons, List.nodup_cons] at hnk
          unfold dropR
          rw [List.filter_cons, if_neg (by simp)]
          refine List.filter_eq_self.2 fun y hy => ?_
          have : y.1 ≠ x.1 := fun e => hnk.1 (e ▸ List.mem_map.2 ⟨y, hy, rfl⟩)
          simpa using this
      subst hs2
      have hnn : ∀ j, j < w47.heap.size → ¬ fpA g r1 r2 F' j → ¬ fpA g r1 r2 F2 j := fun j hj hn hf => by
        rcases hfp j hf with e | e
        · exact hn e
        · omega
      have D49 : DuI W F w49 g hg r1 r2 F2 r0 b a2 (out ++ [k]).length c2 (out ++ [k]) (mset k x.2 atm) s2 st2 im2 km2 last2 :=
        ⟨h2, D47.row.chg hch49 D47.h1, D47.mp.chg hch49 D47.h2, by rw [hch49.block b (Array.getElem?_eq_some_iff.1 D47.bx).1 D47.h3]; exact D47.bx, hbW, fun j hj => hnn j (D47.row.lt j hj) (D47.h1 j hj), hnn r0 D47.mp.lt D47.h2, hnn b (Array.getElem?_eq_some_iff.1 D47.bx).1 D47.h3⟩
      refine ⟨_, rfl, hk49, _, rfl, _, h2.rd0, ?_⟩
      refine at_callb hA h2.hp.peek fun w54 hA hk54 hb54 => ⟨(pk s2).1, (pk s2).2.1, (pk s2).2.2, by rw [peekV_pk], hk54, ⟨hA.off, F2, out ++ [k], mset k x.2 atm, s2, st2, im2, km2, rfl, D49.call hb54, ?_, by omega, ?_, ?_, ?_, ?_⟩, ?_⟩
      · have := tdel_tdel T k out
        rw [← this]
        exact e2
      · simp only [List.length_append, List.length_cons, List.length_nil]; omega
      · simp only [List.length_append, List.length_cons, List.length_nil]; omega
      · exact List.nodup_append.2 ⟨hnd, by simp, fun y hy z hz => by simp at hz; subst hz; intro e; exact hko (e ▸ hy)⟩
      · intro y hy
        rcases List.mem_append.1 hy with hy | hy
        · obtain ⟨t, h1, h2, h3⟩ := hat y hy
          exact ⟨t, h1, h2, by rw [mget_mset_ne _ (fun e : y = k => hko (by rw [← e]; exact hy))]; exact h3⟩
        · simp at hy
          subst hy
          exact ⟨x.2, hT, hle, mget_mset_self _ _ _⟩
      · simp only [List.length_append, List.length_cons, List.length_nil]; omega
  · cases s' with
    | nil => cases hx
    | cons y s' =>
      simp only [pk, Prod.mk.injEq] at hpk
      obtain ⟨e1, e2, _⟩ := hpk
      subst e1 e2
      rcases List.mem_cons.1 hx with rfl | hx
      · exact hgt
      · have := (List.pairwise_cons.1 D.al.hp.srt).1 x hx
        unfold H.ahead at this
        omega
  · cases s' with
    | nil => cases hx
    | cons y s' =>
      simp only [pk, Prod.mk.injEq] at hpk
      rw [hpk.2.2] at hb26
      cases hb26
end Go.Vc.A

/- The reference's list of alarms: sorted, each key once. No program in sight. -/
set_option maxRecDepth 20000
namespace Go.Vc.A
open Go Go.Vc Go.RowKit Go.Vc.H

abbrev Im := Ky × Int
abbrev kyL (a b : Ky) : Prop := a.1 < b.1 ∨ (a.1 = b.1 ∧ (a.2.1 < b.2.1 ∨ (a.2.1 = b.2.1 ∧ a.2.2 < b.2.2)))
def ahd (x y : Im) : Prop := x.2 < y.2 ∨ (x.2 = y.2 ∧ (x.1.1 < y.1.1 ∨ (x.1.1 = y.1.1 ∧ (x.1.2.1 < y.1.2.1 ∨ (x.1.2.1 = y.1.2.1 ∧ x.1.2.2 < y.1.2.2)))))
instance (x y : Im) : Decidable (ahd x y) := by unfold ahd; infer_instance
theorem ahd_trans {x y z : Im} (h : ahd x y) (k : ahd y z) : ahd x z := by unfold ahd at *; omega
theorem ahd_irrefl (x : Im) : ¬ ahd x x := by unfold ahd; omega
theorem ahd_of {x y : Im} (h : ¬ ahd x y) (hk : x.1 ≠ y.1) : ahd y x := by
  obtain ⟨⟨a, b, c⟩, t⟩ := x
  obtain ⟨⟨a', b', c'⟩, t'⟩ := y
  unfold ahd at *
  simp only at *
  have : ¬ (a = a' ∧ b = b' ∧ c = c') := fun ⟨e1, e2, e3⟩ => hk (by rw [e1, e2, e3])
  omega

/-- Where a key stands in the list; -1: nowhere. -/
def plcK (k : Ky) : List Im → Int
  | [] => -1
  | x :: t => if x.1 = k then 0 else if plcK k t < 0 then -1 else plcK k t + 1
theorem plcK_at {k : Ky} : ∀ (l : List Im) (i : Nat) (x : Im), l[i]? = some x → x.1 = k → (∀ q, q < i → ∀ y, l[q]? = some y → y.1 ≠ k) → plcK k l = i := by
  intro l
  induction l with
  | nil => intro i x hx; simp at hx
  | cons a t ih =>
    intro i x hx he hmin
    cases i with
    | zero => simp at hx; subst hx; simp [plcK, he]
    | succ i =>
      have := ih i x (by simpa using hx) he (fun q hq y hy => hmin (q + 1) (by omega) y (by simpa using hy))
      rw [plcK, if_neg (hmin 0 (by omega) a rfl), this, if_neg (by omega)]
      rfl
theorem plcK_none {k : Ky} : ∀ (l : List Im), (∀ y ∈ l, y.1 ≠ k) → plcK k l = -1 := by
  intro l
  induction l with
  | nil => intro _; rfl
  | cons a t ih => intro h; rw [plcK, if_neg (h a (by simp)), ih (fun y hy => h y (by simp [hy]))]; rfl
theorem plcK_cases (k : Ky) : ∀ (s : List Im), (plcK k s = -1 ∧ mget k s = none) ∨ ∃ (i : Nat) (t : Int), plcK k s = i ∧ s[i]? = some (k, t) ∧ mget k s = some t
  | [] => .inl ⟨rfl, rfl⟩
  | x :: s => by
    rw [plcK]
    by_cases hx : x.1 = k
    · rw [if_pos hx]
      exact .inr ⟨0, x.2, rfl, by subst hx; rfl, by unfold mget; rw [if_pos hx.symm]⟩
    · rw [if_neg hx]
      have hm : mget k (x :: s) = mget k s := by rw [mget, if_neg (Ne.symm hx)]
      rw [hm]
      rcases plcK_cases k s with ⟨e, hn⟩ | ⟨i, t, e, hi, hm⟩
      · rw [e, if_pos (by decide)]
        exact .inl ⟨rfl, hn⟩
      · rw [e, if_neg (by omega)]
        exact .inr ⟨i + 1, t, rfl, by simpa using hi, hm⟩

def drpL (k : Ky) (l : List Im) : List Im := l.filter fun x => decide (x.1 ≠ k)
def insK (x : Im) : List Im → List Im
  | [] => [x]
  | y :: t => if ahd x y then x :: y :: t else y :: insK x t
def setL (x : Im) (l : List Im) : List Im := insK x (drpL x.1 l)
def fgtL (what first : Int) (l : List Im) : List Im := l.filter fun x => !fgt what first x.1
def restL (now : Int) (l : List Im) : List Im := l.filter fun x => !decide (x.2 ≤ now)
def dueL (now : Int) (l : List Im) : List Im := l.filter fun x => decide (x.2 ≤ now)

/-- In order, each key once. -/
structure LOk (l : List Im) : Prop where
  srt : l.Pairwise ahd
  nd : (l.map (·.1)).Nodup
theorem LOk.nil : LOk [] := ⟨List.Pairwise.nil, List.nodup_nil⟩
theorem LOk.filter {l : List Im} (h : LOk l) (p : Im → Bool) : LOk (l.filter p) := ⟨h.srt.filter _, h.nd.sublist (List.filter_sublist.map _)⟩
theorem LOk.tail {x : Im} {l : List Im} (h : LOk (x :: l)) : LOk l := ⟨(List.pairwise_cons.1 h.srt).2, by have := h.nd; rw [List.map_cons, List.nodup_cons] at this; exact this.2⟩
theorem LOk.head {x : Im} {l : List Im} (h : LOk (x :: l)) : x.1 ∉ l.map (·.1) := by have := h.nd; rw [List.map_cons, List.nodup_cons] at this; exact this.1

theorem mget_fk (p : Ky → Bool) (j : Ky) : ∀ l : List Im, mget j (l.filter fun x => p x.1) = if p j then mget j l else none
  | [] => by simp [mget]
  | x :: l => by
    rw [List.filter_cons]
    by_cases hj : j = x.1
    · subst hj
      cases hp : p x.1 with
      | true => simp [mget]
      | false =>
        rw [if_neg (by simp), mget_fk p x.1 l, hp]
        simp
    · have hm : mget j (x :: l) = mget j l := by rw [mget, if_neg hj]
      rw [hm]
      split
      · rw [mget, if_neg hj, mget_fk p j l]
      · exact mget_fk p j l
theorem mget_drpL (k j : Ky) (l : List Im) : mget j (drpL k l) = if j = k then none else mget j l := by
  unfold drpL
  rw [mget_fk (fun a => decide (a ≠ k)) j l]
  by_cases h : j = k <;> simp [h]
theorem mem_insK {x y : Im} : ∀ {s : List Im}, y ∈ insK x s ↔ y = x ∨ y ∈ s
  | [] => by simp [insK]
  | z :: t => by
    rw [insK]
    split
    · simp
    · rw [List.mem_cons, mem_insK, List.mem_cons]
      exact or_left_comm
theorem mget_insK {x : Im} {j : Ky} : ∀ {l : List Im}, x.1 ∉ l.map (·.1) → mget j (insK x l) = if j = x.1 then some x.2 else mget j l
  | [], _ => by simp [insK, mget]
  | y :: l, h => by
    rw [List.map_cons, List.mem_cons, not_or] at h
    rw [insK]
    split
    · rw [mget]
    · rw [mget, mget_insK h.2]
      by_cases hj : j = x.1
      · subst hj
        rw [if_neg h.1, if_pos rfl, if_pos rfl]
      · rw [if_neg hj, if_neg hj, mget]
theorem insK_srt {x : Im} : ∀ {l : List Im}, l.Pairwise ahd → x.1 ∉ l.map (·.1) → (insK x l).Pairwise ahd
  | [], _, _ => by simp [insK]
  | y :: l, h, hk => by
    have h' := List.pairwise_cons.1 h
    rw [List.map_cons, List.mem_cons, not_or] at hk
    rw [insK]
    split
    · rename_i ha
      refine List.pairwise_cons.2 ⟨fun z hz => ?_, h⟩
      rcases List.mem_cons.1 hz with e | hm
      · rw [e]; exact ha
      · exact ahd_trans ha (h'.1 z hm)
    · rename_i hna
      refine List.pairwise_cons.2 ⟨fun z hz => ?_, insK_srt h'.2 hk.2⟩
      rcases mem_insK.1 hz with e | hm
      · rw [e]; exact ahd_of hna hk.1
      · exact h'.1 z hm
theorem insK_keys {x : Im} : ∀ {l : List Im}, (insK x l).map (·.1) |>.Perm (x.1 :: l.map (·.1))
  | [] => by simp [insK]
  | y :: l => by
    rw [insK]
    split
    · simp
    · rw [List.map_cons, List.map_cons]
      exact (List.Perm.cons _ insK_keys).trans (List.Perm.swap _ _ _)
theorem drpL_no {k : Ky} {l : List Im} : k ∉ (drpL k l).map (·.1) := fun h => by
  obtain ⟨y, hy, e⟩ := List.mem_map.1 h
  have := (List.mem_filter.1 hy).2
  simp at this
  exact this e
theorem LOk.set {l : List Im} (h : LOk l) (x : Im) : LOk (setL x l) := by
  have h' := h.filter fun y => decide (y.1 ≠ x.1)
  exact ⟨insK_srt h'.srt drpL_no, insK_keys.nodup_iff.2 (List.nodup_cons.2 ⟨drpL_no, h'.nd⟩)⟩
theorem mget_setL (x : Im) (j : Ky) (l : List Im) : mget j (setL x l) = if j = x.1 then some x.2 else mget j l := by
  unfold setL
  rw [mget_insK drpL_no, mget_drpL]
  by_cases h : j = x.1 <;> simp [h]
theorem insK_len {x : Im} (l : List Im) : (insK x l).length = l.length + 1 := by
  have := (insK_keys (x := x) (l := l)).length_eq
  simpa using this
theorem setL_len (x : Im) (l : List Im) : (setL x l).length ≤ l.length + 1 := by
  unfold setL
  rw [insK_len]
  have : (drpL x.1 l).length ≤ l.length := List.length_filter_le ..
  omega
theorem mget_fgtL (what first : Int) (j : Ky) (l : List Im) : mget j (fgtL what first l) = if fgt what first j then none else mget j l := by
  unfold fgtL
  rw [mget_fk (fun a => !fgt what first a) j l]
  cases fgt what first j <;> simp
def dueO (now : Int) : Option Int → Bool
  | some t => decide (t ≤ now)
  | none => false
theorem dueT_O {l : List Im} {now : Int} {j : Ky} : dueT (fun k => mget k l) now j = dueO now (mget j l) := rfl
theorem mget_restL' {l : List Im} (now : Int) (h : LOk l) (j : Ky) : mget j (restL now l) = if dueO now (mget j l) then none else mget j l := by
  induction l with
  | nil => simp [restL, mget, dueO]
  | cons x l ih =>
    have ih := ih h.tail
    unfold restL at ih ⊢
    rw [List.filter_cons]
    by_cases hj : j = x.1
    · subst hj
      have hn : mget x.1 l = none := mget_none.2 h.head
      have hm : mget x.1 (x :: l) = some x.2 := by rw [mget, if_pos rfl]
      rw [hm]
      rw [hn] at ih
      by_cases hx : x.2 ≤ now
      · simp [hx, dueO] at ih ⊢
        exact ih
      · simp [hx, dueO, mget]
    · have hm : mget j (x :: l) = mget j l := by rw [mget, if_neg hj]
      rw [hm]
      split
      · rw [mget, if_neg hj, ih]
      · exact ih
theorem mget_restL {l : List Im} (now : Int) (h : LOk l) (j : Ky) : mget j (restL now l) = if dueT (fun k => mget k l) now j then none else mget j l := by
  rw [dueT_O]
  exact mget_restL' now h j
theorem due_split {l : List Im} (now : Int) (h : l.Pairwise ahd) : dueL now l ++ restL now l = l := by
  induction l with
  | nil => rfl
  | cons x l ih =>
    have h' := List.pairwise_cons.1 h
    unfold dueL restL at *
    rw [List.filter_cons, List.filter_cons]
    by_cases hx : x.2 ≤ now
    · simp only [hx, decide_true, Bool.not_true, Bool.false_eq_true, if_false, if_true, List.cons_append]
      rw [ih h'.2]
    · simp only [hx, decide_false, Bool.not_false, Bool.false_eq_true, if_false, if_true]
      have : l.filter (fun x => decide (x.2 ≤ now)) = [] := List.filter_eq_nil_iff.2 fun y hy => by
        have := h'.1 y hy
        unfold ahd at this
        simp; omega
      rw [this] at ih ⊢
      rw [List.nil_append] at ih ⊢
      rw [ih h'.2]
/-- What All, and Due, tell: the keys in the list's order. -/
theorem keys_eq {l : List Im} {l' : List Ky} {T : Ky → Option Int} (h : LOk l) (hT : ∀ x ∈ l, T x.1 = some x.2) (hnd : l'.Nodup) (hm : ∀ k, k ∈ l' ↔ k ∈ l.map (·.1)) (hw : l'.Pairwise (fun x y => ¬ lexK (tm T) y x)) : l' = l.map (·.1) := by
  have hp : l'.Perm (l.map (·.1)) := (List.perm_ext_iff_of_nodup hnd h.nd).2 hm
  refine List.Perm.eq_of_pairwise (le := fun x y => ¬ lexK (tm T) y x) (fun a b _ _ h1 h2 => lexK_total h2 h1) hw ?_ hp
  rw [List.pairwise_map]
  refine h.srt.imp_of_mem fun {x y} hx hy hn hl => ?_
  have e1 : tm T x.1 = x.2 := by unfold tm; rw [hT x hx]; rfl
  have e2 : tm T y.1 = y.2 := by unfold tm; rw [hT y hy]; rfl
  unfold lexK at hl
  rw [e1, e2] at hl
  unfold ahd at hn
  omega
theorem LOk.get {l : List Im} (h : LOk l) : ∀ x ∈ l, mget x.1 l = some x.2 := fun x hx => mget_of_mem h.nd (by simpa using hx)
theorem mem_keys {l : List Im} {k : Ky} : k ∈ l.map (·.1) ↔ (mget k l).isSome := by
  cases h : mget k l with
  | none => simpa using mget_none.1 h
  | some v => simpa using ⟨v, mem_of_mget h⟩
end Go.Vc.A

/- The reference's functions on lists of alarms. -/
set_option maxRecDepth 20000
set_option maxHeartbeats 1000000
namespace Go.Vc.A
open Go Go.Vc Go.RowKit Go.Proofs Go.Vc.H Vcc

variable {w W W' : World} {M : Nat → Prop} {gs : List Nat}

abbrev imE (x : Im) : List Value := [.int .i64 x.1.1, .int .i64 x.1.2.1, .int .i64 x.1.2.2, .int .i64 x.2]
abbrev imV (x : Im) : Value := .agg #[.int .i64 x.1.1, .int .i64 x.1.2.1, .int .i64 x.1.2.2, .int .i64 x.2]
theorem im_one (k : Im) : ∀ u ∈ imE k, u.oneCell' = true := fun u hu => by simp at hu; rcases hu with rfl | rfl | rfl | rfl <;> rfl

theorem c29 (k : Ky) (w : World) : Ret Try.prog 29 #[kyV k] w (kyV k) := by
  intro R h
  refine f29_calls k.1 k.2.1 k.2.2 w R ?_
  unfold f29_vc
  intro n1 h1 n2 h2 w3 hev hun
  exact h w3 (hev.bel (by simpa using h2))

theorem key_cond (x y : Ky) : (x.1 == y.1 && (x.2.1 == y.2.1 && (x.2.2 == y.2.2 && true))) = decide (x = y) := by
  obtain ⟨a, b, c⟩ := x
  obtain ⟨a', b', c'⟩ := y
  rw [Bool.eq_iff_iff]
  simp

theorem c28 {l : List Im} {a : Option Addr} {n c : Nat} (k : Ky) (w : World) (hs : SlE w 4 imE l a n c) (hl : l.length < 1099511627776) : Ret Try.prog 28 #[.slice a n c, kyV k] w (.int .i64 (plcK k l)) := by
  intro R h
  refine f28_calls _ _ _ k.1 k.2.1 k.2.2 w R ?_
  unfold f28_vc
  have hn := hs.len_le.1
  intro n1 hn1
  refine ⟨fun v w4 => ∃ i : Nat, v.1 = i ∧ At w [n1] w4 ∧ (∀ q, q < i → ∀ y, l[q]? = some y → y.1 ≠ k), fun v _ => (n - v.1).toNat, go_below (At.refl w) fun w4 hA => ⟨0, rfl, hA, fun q hq => by omega⟩, ?_⟩
  rintro x5 w6 ⟨i, hi, hA, hmin⟩
  simp only at hi
  subst hi
  have hs6 := hs.call hA.below
  refine brD (fun hlt => ?_) (fun hge => leaf h hA ?_)
  · obtain ⟨x, hx⟩ : ∃ x, l[i]? = some x := ⟨_, List.getElem?_eq_getElem (by omega)⟩
    obtain ⟨ad, g1, el, _⟩ := elt_at (P := Try.prog) (k := .i64) (t := 59) hs6 hx (e := 70) (by kernel_rfl) (by kernel_rfl)
    refine ⟨ad, g1, _, _, _, el.agg 3 (by kernel_rfl) (by kernel_rfl) (by simp) (by simp), ?_⟩
    rw [key_cond x.1 k]
    refine brD (fun he => go_below hA fun w11 hA => leaf h hA ?_) (fun hne => go_below hA fun w12 hA => ?_)
    · rw [plcK_at l i x hx he hmin]
    · rw [succ_i64 i (by omega)]
      refine ⟨⟨i + 1, rfl, hA, fun q hq y hy => ?_⟩, by simp only; omega⟩
      by_cases hqk : q = i
      · subst hqk
        rw [hx] at hy
        cases hy
        exact hne
      · exact hmin q (by omega) y hy
  · rw [plcK_none l fun y hy => ?_]
    obtain ⟨q, hq⟩ := List.mem_iff_getElem?.1 hy
    have := (List.getElem?_eq_some_iff.1 hq).1
    exact hmin q (by omega) y hq

theorem c46 {l : List Im} {a : Option Addr} {n c : Nat} (k : Ky) (w : World) (hs : SlE w 4 imE l a n c) (hl : l.length < 549755813888) : RetL Try.prog 46 #[.slice a n c, kyV k] w 70 4 imE (drpL k l) := by
  intro R h
  refine f46_calls _ _ _ k.1 k.2.1 k.2.2 w R ?_
  unfold f46_vc
  have hn := hs.len_le.1
  intro n1 hn1
  refine ⟨fun v w4 => ∃ i : Nat, v.2.1 = i ∧ i ≤ n ∧ At w [n1] w4 ∧ OwnL w [n1] w4 70 4 imE (.slice v.1.1 v.1.2.1 v.1.2.2) (drpL k (l.take i)), fun v _ => (n - v.2.1).toNat, go_below (At.refl w) fun w4 hA => ⟨0, rfl, by omega, hA, OwnL.nil⟩, ?_⟩
  rintro a5 n6 n7 x8 w9 ⟨i, hi, hin, hA, ho⟩
  simp only at hi ho
  subst hi
  have hs9 := hs.call hA.below
  refine brD (fun hlt => ?_) (fun hge => leafl h hA ho ?_)
  · obtain ⟨x, hx⟩ : ∃ x, l[i]? = some x := ⟨_, List.getElem?_eq_getElem (by omega)⟩
    obtain ⟨ad, g1, el, _⟩ := elt_at (P := Try.prog) (k := .i64) (t := 59) hs9 hx (e := 70) (by kernel_rfl) (by kernel_rfl)
    refine ⟨ad, g1, _, _, _, el.agg 3 (by kernel_rfl) (by kernel_rfl) (by simp) (by simp), ?_⟩
    rw [key_cond x.1 k]
    refine brND (fun hne => ?_) (fun he => go_below_too hA fun w30 hA hb => ?_)
    · refine ⟨ad, g1, _, _, _, _, el.agg 4 (by kernel_rfl) (by kernel_rfl) (by simp) (by simp), go_below_too hA fun w19 hA hb => ?_⟩
      have ho := ho.call hb
      have h1 : (drpL k (l.take i)).length ≤ (l.take i).length := List.length_filter_le ..
      have h2 : (l.take i).length ≤ i := by simp; omega
      refine opw_push (e' := 70) (bytes := 32) hA ho x (by kernel_rfl) (by kernel_rfl) rfl (fun _ _ => rfl) (im_one x) (by omega) (by decide) fun a2 c2 w26 hA ho _ _ => ?_
      rw [succ_i64 i (by omega)]
      refine ⟨⟨i + 1, rfl, by omega, hA, ?_⟩, by simp only; omega⟩
      have : drpL k (l.take (i + 1)) = drpL k (l.take i) ++ [x] := by
        rw [take_next hx]; simp [drpL, hne]
      rw [this]
      exact ho
    · rw [succ_i64 i (by omega)]
      refine ⟨⟨i + 1, rfl, by omega, hA, ?_⟩, by simp only; omega⟩
      have : drpL k (l.take (i + 1)) = drpL k (l.take i) := by
        rw [take_next hx]; simp [drpL, he]
      simp only
      rw [this]
      exact ho.call hb
  · rw [List.take_of_length_le (by omega)]

theorem c47 {l : List Im} {a : Option Addr} {n c : Nat} (what first : Int) (w : World) (hs : SlE w 4 imE l a n c) (hl : l.length < 549755813888) : RetL Try.prog 47 #[.slice a n c, .int .i64 what, .int .i64 first] w 70 4 imE (fgtL what first l) := by
  intro R h
  refine f47_calls _ _ _ what first w R ?_
  unfold f47_vc
  have hn := hs.len_le.1
  refine ⟨fun v w4 => ∃ i : Nat, v.2.1 = i ∧ i ≤ n ∧ At w [] w4 ∧ OwnL w [] w4 70 4 imE (.slice v.1.1 v.1.2.1 v.1.2.2) (fgtL what first (l.take i)), fun v _ => (n - v.2.1).toNat, ⟨0, rfl, by omega, At.refl w, OwnL.nil⟩, ?_⟩
  rintro a5 n6 n7 x8 w9 ⟨i, hi, hin, hA, ho⟩
  simp only at hi ho
  subst hi
  have hs9 := hs.call hA.below
  refine brD (fun hlt => ?_) (fun hge => leafl h hA ho ?_)
  · obtain ⟨x, hx⟩ : ∃ x, l[i]? = some x := ⟨_, List.getElem?_eq_getElem (by omega)⟩
    obtain ⟨ad, g1, el, _⟩ := elt_at (P := Try.prog) (k := .i64) (t := 59) hs9 hx (e := 70) (by kernel_rfl) (by kernel_rfl)
    have h1 : (fgtL what first (l.take i)).length ≤ (l.take i).length := List.length_filter_le ..
    have h2 : (l.take i).length ≤ i := by simp; omega
    have keep : ∀ {a2 n2 c2 w'}, fgt what first x.1 = false → OwnL w [] w' 70 4 imE (.slice a2 n2 c2) (fgtL what first (l.take i) ++ [x]) → OwnL w [] w' 70 4 imE (.slice a2 n2 c2) (fgtL what first (l.take (i + 1))) := fun hf ho => by
      have : fgtL what first (l.take (i + 1)) = fgtL what first (l.take i) ++ [x] := by
        rw [take_next hx]; simp [fgtL, hf]
      rw [this]
      exact ho
    refine ⟨ad, g1, _, el.one (by kernel_rfl) (by simp), brN (fun hne => ?_) (fun he => ?_)⟩
    · refine ⟨ad, g1, _, _, _, _, el.agg 4 (by kernel_rfl) (by kernel_rfl) (by simp) (by simp), ?_⟩
      refine opw_push0 (e' := 70) (bytes := 32) hA ho x (by kernel_rfl) (by kernel_rfl) rfl (fun _ _ => rfl) (im_one x) (by omega) (by decide) fun a2 c2 w26 hA ho _ _ => ?_
      rw [succ_i64 i (by omega)]
      exact ⟨⟨i + 1, rfl, by omega, hA, keep (by simp [fgt, hne]) ho⟩, by simp only; omega⟩
    · refine ⟨ad, g1, _, (el.sub (o := 1) (by decide)).one (by kernel_rfl) (by simp), brN (fun hne => ?_) (fun he2 => ?_)⟩
      · refine ⟨ad, g1, _, _, _, _, el.agg 4 (by kernel_rfl) (by kernel_rfl) (by simp) (by simp), ?_⟩
        refine opw_push0 (e' := 70) (bytes := 32) hA ho x (by kernel_rfl) (by kernel_rfl) rfl (fun _ _ => rfl) (im_one x) (by omega) (by decide) fun a2 c2 w26 hA ho _ _ => ?_
        rw [succ_i64 i (by omega)]
        exact ⟨⟨i + 1, rfl, by omega, hA, keep (by simp [fgt, hne]) ho⟩, by simp only; omega⟩
      · rw [succ_i64 i (by omega)]
        refine ⟨⟨i + 1, rfl, by omega, hA, ?_⟩, by simp only; omega⟩
        have : fgtL what first (l.take (i + 1)) = fgtL what first (l.take i) := by
          rw [take_next hx]; simp [fgtL, fgt, he, he2]
        simp only
        rw [this]
        exact ho
  · rw [List.take_of_length_le (by omega)]

theorem c30 {l : List Im} {ks : List Ky} {a b : Option Addr} {n c m d : Nat} (w : World) (hk : SlE w 3 kyE ks b m d) (hs : SlE w 4 imE l a n c) (hl : l.length < 549755813888) : Ret Try.prog 30 #[.slice b m d, .slice a n c] w (.bool (decide (ks = l.map (·.1)))) := by
  intro R h
  refine f30_calls _ _ _ _ _ _ w R ?_
  unfold f30_vc
  have hn := hs.len_le.1
  have hm := hk.len_le.1
  refine brN (fun hne => leaf h (At.refl w) ?_) (fun he => ?_)
  · rw [decide_eq_false]
    intro e
    have := congrArg List.length e
    rw [List.length_map] at this
    omega
  refine ⟨fun v w4 => ∃ i : Nat, v.1 = i ∧ At w [] w4 ∧ (∀ q, q < i → ks[q]? = (l.map (·.1))[q]?), fun v _ => (m - v.1).toNat, ⟨0, rfl, At.refl w, fun q hq => by omega⟩, ?_⟩
  rintro x3 w4 ⟨i, hi, hA, hmin⟩
  simp only at hi
  subst hi
  have hs4 := hs.call hA.below
  have hk4 := hk.call hA.below
  refine brD (fun hlt => ?_) (fun hge => leaf h hA ?_)
  · obtain ⟨x, hx⟩ : ∃ x, l[i]? = some x := ⟨_, List.getElem?_eq_getElem (by omega)⟩
    obtain ⟨k, hkx⟩ : ∃ x, ks[i]? = some x := ⟨_, List.getElem?_eq_getElem (by omega)⟩
    obtain ⟨ad, g1, el, _⟩ := elt_at (P := Try.prog) (k := .i64) (t := 49) hk4 hkx (e := 54) (by kernel_rfl) (by kernel_rfl)
    obtain ⟨ad2, g2, el2, _⟩ := elt_at (P := Try.prog) (k := .i64) (t := 59) hs4 hx (e := 70) (by kernel_rfl) (by kernel_rfl)
    refine ⟨ad, g1, _, _, _, el.agg 3 (by kernel_rfl) (by kernel_rfl) (by simp) (by simp), ad2, g2, _, _, _, el2.agg 3 (by kernel_rfl) (by kernel_rfl) (by simp) (by simp), go_below0_too hA fun w13 hA hb => ?_⟩
    refine at_callb hA (c29 k w13) fun w15 hA _ hb2 => ⟨_, _, _, rfl, ((el2.below hb).below hb2).agg 3 (by kernel_rfl) (by kernel_rfl) (by simp) (by simp), ?_⟩
    rw [key_cond k x.1]
    refine brND (fun hne => leaf h hA ?_) (fun he => ?_)
    · rw [decide_eq_false]
      intro e
      rw [e, List.getElem?_map, hx] at hkx
      simp at hkx
      exact hne hkx.symm
    · rw [succ_i64 i (by omega)]
      refine ⟨⟨i + 1, rfl, hA, fun q hq => ?_⟩, by simp only; omega⟩
      by_cases hqi : q = i
      · subst hqi
        rw [hkx, List.getElem?_map, hx, he]; rfl
      · exact hmin q (by omega)
  · rw [decide_eq_true]
    apply List.ext_getElem?
    intro q
    by_cases hq : q < i
    · exact hmin q hq
    · rw [List.getElem?_eq_none (by omega), List.getElem?_eq_none (by rw [List.length_map]; omega)]
end Go.Vc.A

/- Which of two stands ahead; putting in its place. -/
set_option maxRecDepth 20000
set_option maxHeartbeats 1000000
namespace Go.Vc.A
open Go Go.Vc Go.RowKit Go.Proofs Go.Vc.H Vcc

variable {w W W' : World} {M : Nat → Prop} {gs : List Nat}

theorem c57 (x y : Im) (w : World) : Ret Try.prog 57 #[imV x, imV y] w (.bool (decide (ahd x y))) := by
  intro R h
  refine f57_calls x.1.1 x.1.2.1 x.1.2.2 x.2 y.1.1 y.1.2.1 y.1.2.2 y.2 w R ?_
  unfold f57_vc
  intro n1 hn1 n2 hn2
  refine ⟨?_, ?_⟩
  · refine go_below (gs' := [n1, n2]) (At.refl w) fun w3 hA => ?_
    refine opw_allocS [.int .i64 0, .int .i64 0, .int .i64 0] (zv := .agg #[.int .i64 0, .int .i64 0, .int .i64 0]) (by kernel_rfl) rfl hA fun p w5 hp5 hA hk _ h5 => ⟨_, rfl, hk, ?_⟩
    refine opw_allocS [.int .i64 0, .int .i64 0, .int .i64 0] (zv := .agg #[.int .i64 0, .int .i64 0, .int .i64 0]) (by kernel_rfl) rfl hA fun q w8 hq8 hA hk hb8 h8 => ⟨_, rfl, hk, ?_⟩
    have hl5 := (Array.getElem?_eq_some_iff.1 h5).1
    have h5 := (hb8.block hl5).trans h5
    have hs3 := ‹At w [n1, n2] w3›.size
    have hs5 := ‹At w [n1, n2] w5›.size
    have hn5 : p ∉ [n1, n2] := fun hm => by
      have := ‹At w [n1, n2] w3›.under _ hm
      omega
    have hn8 : q ∉ [n1, n2] := fun hm => by
      have := ‹At w [n1, n2] w5›.under _ hm
      omega
    refine opw_storeF hA h5 (.inl (by omega)) hn5 (cells' := kyE x.1) (by kernel_rfl) fun w11 hA hk hch hp => ⟨hk, ?_⟩
    have h8 := (hch.block q (Array.getElem?_eq_some_iff.1 h8).1 (by omega)).trans h8
    refine opw_storeF hA h8 (.inl (by omega)) hn8 (cells' := kyE y.1) (by kernel_rfl) fun w13 hA hk hch hq => ⟨hk, ?_⟩
    have hp := (hch.block p (Array.getElem?_eq_some_iff.1 hp).1 (by omega)).trans hp
    have rx := fun {ds : List Nat} (hd : ∀ d ∈ ds, d ≠ p) => rd_f0 (P := Try.prog) (te := 3) hp (by kernel_rfl) hd
    have ry := rd_f0 (P := Try.prog) (te := 3) (ds := []) hq (by kernel_rfl) (by simp)
    refine brN (fun h1 => leaf h hA ?_) (fun h1 => ?_)
    · exact congrArg (fun b => Ending.returned (.bool b)) (decide_eq_decide.2 (by unfold ahd; omega))
    refine ⟨_, rx (by simp), _, ry, brN (fun h2 => ⟨_, rx (by simp), _, ry, leaf h hA ?_⟩) (fun h2 => ?_)⟩
    · exact congrArg (fun b => Ending.returned (.bool b)) (decide_eq_decide.2 (by unfold ahd; omega))
    refine ⟨_, rd_f 0 hp rfl (by kernel_rfl) (by simp), _, rd_f 0 hq rfl (by kernel_rfl) (by simp), brD (fun h3 => leaf h hA ?_) (fun h3 => ?_)⟩
    · exact congrArg (fun b => Ending.returned (.bool b)) (decide_eq_true (by unfold ahd; omega)).symm
    refine ⟨_, rd_f 0 hp rfl (by kernel_rfl) (by simp), _, rd_f 0 hq rfl (by kernel_rfl) (by simp), brE (fun h4 => ?_) (fun h4 => leaf h hA ?_)⟩
    · refine ⟨_, rd_f 1 hp rfl (by kernel_rfl) (by simp), _, rd_f 1 hq rfl (by kernel_rfl) (by simp), leaf h hA ?_⟩
      exact congrArg (fun b => Ending.returned (.bool b)) (decide_eq_decide.2 (by unfold ahd; omega))
    · exact congrArg (fun b => Ending.returned (.bool b)) (decide_eq_false (by unfold ahd; omega)).symm
  · refine go_below (gs' := [n1, n2]) (At.refl w) fun w3 hA => ?_
    refine opw_allocS [.int .i64 0, .int .i64 0, .int .i64 0] (zv := .agg #[.int .i64 0, .int .i64 0, .int .i64 0]) (by kernel_rfl) rfl hA fun q w5 hp5 hA hk _ h5 => ⟨_, rfl, hk, ?_⟩
    refine opw_allocS [.int .i64 0, .int .i64 0, .int .i64 0] (zv := .agg #[.int .i64 0, .int .i64 0, .int .i64 0]) (by kernel_rfl) rfl hA fun p w8 hq8 hA hk hb8 h8 => ⟨_, rfl, hk, ?_⟩
    have hl5 := (Array.getElem?_eq_some_iff.1 h5).1
    have h5 := (hb8.block hl5).trans h5
    have hs3 := ‹At w [n1, n2] w3›.size
    have hs5 := ‹At w [n1, n2] w5›.size
    have hn5 : q ∉ [n1, n2] := fun hm => by
      have := ‹At w [n1, n2] w3›.under _ hm
      omega
    have hn8 : p ∉ [n1, n2] := fun hm => by
      have := ‹At w [n1, n2] w5›.under _ hm
      omega
    refine opw_storeF hA h8 (.inl (by omega)) hn8 (cells' := kyE x.1) (by kernel_rfl) fun w11 hA hk hch hp => ⟨hk, ?_⟩
    have h5 := (hch.block q (Array.getElem?_eq_some_iff.1 h5).1 (by omega)).trans h5
    refine opw_storeF hA h5 (.inl (by omega)) hn5 (cells' := kyE y.1) (by kernel_rfl) fun w13 hA hk hch hq => ⟨hk, ?_⟩
    have hp := (hch.block p (Array.getElem?_eq_some_iff.1 hp).1 (by omega)).trans hp
    have rx := fun {ds : List Nat} (hd : ∀ d ∈ ds, d ≠ p) => rd_f0 (P := Try.prog) (te := 3) hp (by kernel_rfl) hd
    have ry := rd_f0 (P := Try.prog) (te := 3) (ds := []) hq (by kernel_rfl) (by simp)
    refine brN (fun h1 => leaf h hA ?_) (fun h1 => ?_)
    · exact congrArg (fun b => Ending.returned (.bool b)) (decide_eq_decide.2 (by unfold ahd; omega))
    refine ⟨_, rx (by simp), _, ry, brN (fun h2 => ⟨_, rx (by simp), _, ry, leaf h hA ?_⟩) (fun h2 => ?_)⟩
    · exact congrArg (fun b => Ending.returned (.bool b)) (decide_eq_decide.2 (by unfold ahd; omega))
    refine ⟨_, rd_f 0 hp rfl (by kernel_rfl) (by simp), _, rd_f 0 hq rfl (by kernel_rfl) (by simp), brD (fun h3 => leaf h hA ?_) (fun h3 => ?_)⟩
    · exact congrArg (fun b => Ending.returned (.bool b)) (decide_eq_true (by unfold ahd; omega)).symm
    refine ⟨_, rd_f 0 hp rfl (by kernel_rfl) (by simp), _, rd_f 0 hq rfl (by kernel_rfl) (by simp), brE (fun h4 => ?_) (fun h4 => leaf h hA ?_)⟩
    · refine ⟨_, rd_f 1 hp rfl (by kernel_rfl) (by simp), _, rd_f 1 hq rfl (by kernel_rfl) (by simp), leaf h hA ?_⟩
      exact congrArg (fun b => Ending.returned (.bool b)) (decide_eq_decide.2 (by unfold ahd; omega))
    · exact congrArg (fun b => Ending.returned (.bool b)) (decide_eq_false (by unfold ahd; omega)).symm

theorem setL_next {x y : Im} {t : List Im} (h : ahd x y) : insK x (y :: t) = x :: y :: t := if_pos h
theorem setL_skip {x y : Im} {t : List Im} (h : ¬ ahd x y) : insK x (y :: t) = y :: insK x t := if_neg h

theorem c45 {l : List Im} {a : Option Addr} {n c : Nat} (x : Im) (w : World) (hs : SlE w 4 imE l a n c) (hl : l.length < 549755813888) : RetL Try.prog 45 #[.slice a n c, imV x] w 70 4 imE (setL x l) := by
  intro R h
  refine f45_calls _ _ _ x.1.1 x.1.2.1 x.1.2.2 x.2 w R ?_
  unfold f45_vc
  have hn := hs.len_le.1
  intro n1 hn1
  refine go_below_too (At.refl w) fun w2 hA hb2 => ?_
  refine at_calll hA (c46 x.1 w2 (hs.call hb2) hl) (fun _ _ => rfl) fun a5 c5 w4 hA hk hb4 ho4 hs4 => ⟨_, _, _, rfl, hk, ?_⟩
  have hrl : (drpL x.1 l).length ≤ l.length := List.length_filter_le ..
  unfold setL at h
  generalize hrest : drpL x.1 l = rest at ho4 hs4 hrl h ⊢
  have hA4 : At w4 [n1] w4 := ⟨Chg.refl _ _, hA.under⟩
  have back : ∀ {W : World}, At w4 [n1] W → At w [n1] W := fun h => ⟨(hA.call h.below).chg, h.under⟩
  refine ⟨fun v W => ∃ i : Nat, v.2.2.1 = i ∧ i ≤ rest.length ∧ At w4 [n1] W ∧ ∃ out, OwnL w4 [n1] W 70 4 imE (.slice v.1.1 v.1.2.1 v.1.2.2) out ∧ out.length ≤ i + 1 ∧ (v.2.1 = true → out ++ rest.drop i = insK x rest) ∧ (v.2.1 = false → out.length ≤ i ∧ out ++ insK x (rest.drop i) = insK x rest), fun v _ => (rest.length - v.2.2.1).toNat, ⟨0, rfl, by omega, hA4, [], OwnL.nil, by simp, (fun e => by cases e), fun _ => ⟨by simp, rfl⟩⟩, ?_⟩
  rintro a10 n11 n12 b13 x14 w15 ⟨i, hi, hin, hA5, out, ho, hol, ht, hf⟩
  simp only at hi ho ht hf
  subst hi
  have hs15 := hs4.call hA5.below
  have out1 : ∀ {W : World} {a n c out}, At w4 [n1] W → OwnL w4 [n1] W 70 4 imE (.slice a n c) out → out = insK x rest → R (.returned (.slice a n c)) W := fun hA' ho' e => by
    refine h _ _ (back hA').below ?_
    have hrow := ho'.row
    rw [e] at hrow
    exact ownsRow_raise hrow fun k hk => Nat.le_trans hA.size (hrow.lt k hk).1
  refine brD (fun hlt => ?_) (fun hge => ?_)
  · obtain ⟨y, hy⟩ : ∃ y, rest[i]? = some y := ⟨_, List.getElem?_eq_getElem (by omega)⟩
    have hdr := drop_next hy
    refine brB (fun hb => ?_) (fun hb => ?_)
    · have hb : b13 = false := by simpa using hb
      obtain ⟨hol', hf⟩ := hf hb
      obtain ⟨ad, g1, el, _⟩ := elt_at (P := Try.prog) (k := .i64) (t := 59) hs15 hy (e := 70) (by kernel_rfl) (by kernel_rfl)
      refine ⟨ad, g1, _, _, _, _, el.agg 4 (by kernel_rfl) (by kernel_rfl) (by simp) (by simp), go_below_too hA5 fun w21 hA6 hb21 => ?_⟩
      refine at_callb hA6 (c57 x y w21) fun w23 hA7 hk hb23 => ⟨_, rfl, hk, ?_⟩
      have ho := (ho.call hb21).call hb23
      have hs23 := hs4.call hA7.below
      refine brD (fun hah => ?_) (fun hna => ?_)
      · refine opw_push (e' := 70) (bytes := 32) hA7 ho x (by kernel_rfl) (by kernel_rfl) rfl (fun _ _ => rfl) (im_one x) (by omega) (by decide) fun a2 c2 w31 hA8 ho _ _ => ?_
        have hs31 := hs4.call hA8.below
        obtain ⟨ad, g1, el, _⟩ := elt_at (P := Try.prog) (k := .i64) (t := 59) hs31 hy (e := 70) (by kernel_rfl) (by kernel_rfl)
        refine ⟨ad, g1, _, _, _, _, el.agg 4 (by kernel_rfl) (by kernel_rfl) (by simp) (by simp), ?_⟩
        refine opw_push (e' := 70) (bytes := 32) hA8 ho y (by kernel_rfl) (by kernel_rfl) rfl (fun _ _ => rfl) (im_one y) (by simp; omega) (by decide) fun a3 c3 w46 hA9 ho _ _ => ?_
        rw [succ_i64 i (by omega)]
        refine ⟨⟨i + 1, rfl, by omega, hA9, _, ho, by simp; omega, fun _ => ?_, fun e => by cases e⟩, by simp only; omega⟩
        rw [← hf, hdr, setL_next hah]
        simp
      · obtain ⟨ad, g1, el, _⟩ := elt_at (P := Try.prog) (k := .i64) (t := 59) hs23 hy (e := 70) (by kernel_rfl) (by kernel_rfl)
        refine ⟨ad, g1, _, _, _, _, el.agg 4 (by kernel_rfl) (by kernel_rfl) (by simp) (by simp), ?_⟩
        refine opw_push (e' := 70) (bytes := 32) hA7 ho y (by kernel_rfl) (by kernel_rfl) rfl (fun _ _ => rfl) (im_one y) (by omega) (by decide) fun a3 c3 w46 hA9 ho _ _ => ?_
        rw [succ_i64 i (by omega)]
        refine ⟨⟨i + 1, rfl, by omega, hA9, _, ho, by simp; omega, (fun e => by rw [hb] at e; cases e), fun _ => ⟨by simp; omega, ?_⟩⟩, by simp only; omega⟩
        rw [← hf, hdr, setL_skip hna]
        simp
    · have hb : b13 = true := by simpa using hb
      have ht := ht hb
      obtain ⟨ad, g1, el, _⟩ := elt_at (P := Try.prog) (k := .i64) (t := 59) hs15 hy (e := 70) (by kernel_rfl) (by kernel_rfl)
      refine ⟨ad, g1, _, _, _, _, el.agg 4 (by kernel_rfl) (by kernel_rfl) (by simp) (by simp), go_below_too hA5 fun w70 hA6 hb70 => ?_⟩
      refine opw_push (e' := 70) (bytes := 32) hA6 (ho.call hb70) y (by kernel_rfl) (by kernel_rfl) rfl (fun _ _ => rfl) (im_one y) (by omega) (by decide) fun a3 c3 w46 hA9 ho _ _ => ?_
      rw [succ_i64 i (by omega)]
      refine ⟨⟨i + 1, rfl, by omega, hA9, _, ho, by simp; omega, fun _ => ?_, (fun e => by rw [hb] at e; cases e)⟩, by simp only; omega⟩
      rw [← ht, hdr]
      simp
  · have hir : i = rest.length := by omega
    refine brB (fun hb => ?_) (fun hb => ?_)
    · have hb : b13 = false := by simpa using hb
      obtain ⟨hol', hf⟩ := hf hb
      refine opw_push (e' := 70) (bytes := 32) hA5 ho x (by kernel_rfl) (by kernel_rfl) rfl (fun _ _ => rfl) (im_one x) (by omega) (by decide) fun a3 c3 w46 hA9 ho _ _ => ?_
      refine out1 hA9 ho ?_
      rw [← hf, List.drop_eq_nil_of_le (by omega)]; rfl
    · have hb : b13 = true := by simpa using hb
      refine out1 hA5 ho ?_
      rw [← ht hb, List.drop_eq_nil_of_le (by omega), List.append_nil]
end Go.Vc.A

/- Alarms with the reference's list; an act on both; works. -/
set_option maxRecDepth 20000
set_option maxHeartbeats 1000000
namespace Go.Vc.A
open Go Go.Vc Go.RowKit Go.Proofs Go.Vc.H Vcc

variable {w W W' : World} {M N F : Nat → Prop} {gs : List Nat} {g : Nat} {L : List Im} {m : Nat} {q : Int}

/-- Alarms, and the list that tells them. -/
structure AlT (w W : World) (g : Nat) (L : List Im) (m : Nat) (q : Int) (F : Nat → Prop) : Prop where
  ex : ∃ hg r1 r2 F0 s st im km last, AlS w noB W g hg r1 r2 F0 s st im km last ∧ AlOk s im km last (fun k => mget k L) ∧ 0 ≤ st ∧ st ≤ q ∧ last ≤ m ∧ F = fpA g r1 r2 F0
  ok : LOk L

theorem AlT.lt (h : AlT w W g L m q F) : ∀ b, F b → b < W.heap.size := by
  obtain ⟨hg, r1, r2, F0, s, st, im, km, last, H, _, _, _, _, rfl⟩ := h.ex
  exact H.lt
theorem AlT.chg (h : AlT w W g L m q F) (hc : Chg N W W') (hn : ∀ b, F b → ¬ N b) : AlT w W' g L m q F := by
  obtain ⟨hg, r1, r2, F0, s, st, im, km, last, H, h1, h2, h3, h4, rfl⟩ := h.ex
  exact ⟨⟨hg, r1, r2, F0, s, st, im, km, last, H.chg hc hn, h1, h2, h3, h4, rfl⟩, h.ok⟩
theorem AlT.call (h : AlT w W g L m q F) (hb : Bel W W') : AlT w W' g L m q F := h.chg (N := noB) (Chg.of_below hb) fun _ _ => id

theorem keys_perm {s : List It} {im : List (Ky × Int)} {km : List (Int × Ky)} {last : Int} (ho : AlOk s im km last (fun k => mget k L)) (hL : LOk L) : (im.map (·.1)).Perm (L.map (·.1)) := by
  refine (List.perm_ext_iff_of_nodup ho.ndi hL.nd).2 fun k => ?_
  rw [mem_keys, mem_keys]
  cases hm : mget k im with
  | none =>
    have := ho.no k hm
    rw [this]
  | some id =>
    obtain ⟨_, _, _, t, _, hT⟩ := ho.fwd k id hm
    rw [hT]
    simp

theorem at_newT {K : Ending → World → Prop} (hA : AtF w noB gs W) (hK : ∀ g F W', AtF w noB gs W' → Keeps gs W W' → Bel W W' → AlT w W' g [] 0 0 F → (∀ b, F b → W.heap.size ≤ b) → K (.returned (alV g)) W') : Calls Try.prog 21 #[] W K := by
  refine f21_calls W K ?_
  unfold f21_vc
  refine at_newF hA fun hg F w2 hA hk2 hb2 h hF => ⟨_, rfl, ?_⟩
  refine opw_makeMap (kf := kyV) (vf := Value.int .i64) hA fun r1 w5 hr1 hA hk5 hb5 hm1 => ⟨_, rfl, ?_⟩
  refine opw_makeMap (kf := Value.int .i64) (vf := kyV) hA fun r2 w8 hr2 hA hk8 hb8 hm2 => ⟨_, rfl, ?_⟩
  refine opw_boxS hA fun g w11 hg' hA hk11 hb11 hblk => ⟨_, rfl, ?_⟩
  have hlt := h.lt
  have s2 := hb2.size
  have s5 := hb5.size
  have s8 := hb8.size
  have l1 := hm1.lt
  have l2 := hm2.lt
  have hb := (hb2.trans hb5).trans (hb8.trans hb11)
  have hw := ‹AtF w noB gs W›.size
  refine hK g (fpA g r1 r2 F) w11 hA (fun x hx => ?_) hb ⟨⟨hg, r1, r2, F, [], 0, [], [], 0, ⟨hblk, .inl (by omega), ((h.call hb5).call hb8).call hb11, (((hm1.call hb8).call hb11).base1 (.inl (by omega)) (by simp)), ((hm2.call hb11).base1 (.inl (by omega)) (by simp)), by omega, fun hf => ?_, fun hf => ?_, fun hf => ?_⟩, AlOk.nil, by omega, by omega, by omega, rfl⟩, LOk.nil⟩ ?_
  · rw [hk11 x hx, hk8 x hx, hk5 x hx, hk2 x hx]
  · have := hlt _ hf; omega
  · have := hlt _ hf; omega
  · have := hlt _ hf; omega
  · rintro b (rfl | rfl | rfl | hf)
    · omega
    · omega
    · omega
    · exact hF b hf

section
variable {K : Ending → World → Prop} (hA : AtF w noB gs W) (h : AlT w W g L m q F) (hgs : ∀ x ∈ gs, ¬ F x) (hl : L.length ≤ 800) (hq : q ≤ 1000000000000000)
include hA h hgs hl hq

theorem at_setT (hm : m ≤ 1000000000000000) (k : Ky) (t : Int) (hK : ∀ F' W', AtF w noB gs W' → Keeps gs W W' → Chg F W W' → AlT w W' g (setL (k, t) L) (m + 1) (q + 2000) F' → (∀ b, F' b → F b ∨ W.heap.size ≤ b) → K (.returned (.bool (mget k L).isNone)) W') : Calls Try.prog 22 #[alV g, kyV k, .int .i64 t] W K := by
  obtain ⟨hg, r1, r2, F0, s, st, im, km, last, H, ho, h2, h3, h4, rfl⟩ := h.ex
  have hlen : s.length = L.length := by rw [ho.len]; have := (keys_perm ho h.ok).length_eq; simpa using this
  refine at_al hA H hgs (c22 k t H ho (by omega) (by omega) (by omega)) fun v F' s' st' im' km' last' W' hA' hk hch ⟨e1, e2, e3, e4, e5, e6, e7⟩ H' hfp => ?_
  subst e1
  have hT : (fun j => if j = k then some t else mget j L) = fun j => mget j (setL (k, t) L) := funext fun j => (mget_setL (k, t) j L).symm
  rw [hT] at e2
  exact hK _ W' hA' hk hch ⟨⟨hg, r1, r2, F', s', st', im', km', last', H', e2, by omega, by omega, by omega, rfl⟩, h.ok.set (k, t)⟩ hfp
theorem at_dropT (k : Ky) (hK : ∀ F' W', AtF w noB gs W' → Keeps gs W W' → Chg F W W' → AlT w W' g (drpL k L) m (q + 2000) F' → (∀ b, F' b → F b ∨ W.heap.size ≤ b) → K (.returned (.bool (mget k L).isSome)) W') : Calls Try.prog 43 #[alV g, kyV k] W K := by
  obtain ⟨hg, r1, r2, F0, s, st, im, km, last, H, ho, h2, h3, h4, rfl⟩ := h.ex
  have hlen : s.length = L.length := by rw [ho.len]; have := (keys_perm ho h.ok).length_eq; simpa using this
  refine at_al hA H hgs (c43 k H ho (by omega) (by omega)) fun v F' s' st' im' km' last' W' hA' hk hch ⟨e1, e2, e3, e4, e5, e6, e7⟩ H' hfp => ?_
  subst e1 e7
  have hT : (fun j => if j = k then none else mget j L) = fun j => mget j (drpL k L) := funext fun j => (mget_drpL k j L).symm
  rw [hT] at e2
  exact hK _ W' hA' hk hch ⟨⟨hg, r1, r2, F', s', st', im', km', _, H', e2, by omega, by omega, by omega, rfl⟩, h.ok.filter _⟩ hfp
theorem at_fgtT (what first : Int) (hK : ∀ F' W', AtF w noB gs W' → Keeps gs W W' → Chg F W W' → AlT w W' g (fgtL what first L) m (q + 2000000) F' → (∀ b, F' b → F b ∨ W.heap.size ≤ b) → K (.returned (.int .i64 ((L.length - (fgtL what first L).length : Nat) : Int))) W') : Calls Try.prog 31 #[alV g, .int .i64 what, .int .i64 first] W K := by
  obtain ⟨hg, r1, r2, F0, s, st, im, km, last, H, ho, h2, h3, h4, rfl⟩ := h.ex
  have hp := keys_perm ho h.ok
  have hlen : s.length = L.length := by rw [ho.len]; have := hp.length_eq; simpa using this
  refine at_al hA H hgs (c31 what first H ho (by omega) (by omega)) fun v F' s' st' im' km' last' W' hA' hk hch ⟨e1, e2, e3, e4, e5, e6⟩ H' hfp => ?_
  subst e1 e5
  have hT : (fun j => if fgt what first j then none else mget j L) = fun j => mget j (fgtL what first L) := funext fun j => (mget_fgtL what first j L).symm
  rw [hT] at e2
  have hcount : ((im.map (·.1)).filter (fgt what first)).length = L.length - (fgtL what first L).length := by
    rw [(hp.filter _).length_eq]
    have h1 : ∀ l : List Im, ((l.map (·.1)).filter (fgt what first)).length + (fgtL what first l).length = l.length := fun l => by
      induction l with
      | nil => rfl
      | cons x l ih =>
        unfold fgtL at *
        rw [List.map_cons, List.filter_cons, List.filter_cons]
        cases fgt what first x.1 <;> simp <;> omega
    have := h1 L
    omega
  rw [hcount]
  exact hK _ W' hA' hk hch ⟨⟨hg, r1, r2, F', s', st', im', km', _, H', e2, by omega, by omega, by omega, rfl⟩, h.ok.filter _⟩ hfp
theorem at_dueT (now : Int) (hK : ∀ a c F' W', AtF w noB gs W' → Keeps gs W W' → Chg F W W' → AlT w W' g (restL now L) m (q + 2000000) F' → (∀ b, F' b → F b ∨ W.heap.size ≤ b) → OwnF w noB gs W' 54 3 kyE (.slice a (dueL now L).length c) ((dueL now L).map (·.1)) → SlE W' 3 kyE ((dueL now L).map (·.1)) a (dueL now L).length c → (∀ b, a = some b → W.heap.size ≤ b.block) → K (.returned (.slice a (dueL now L).length c)) W') : Calls Try.prog 24 #[alV g, .int .i64 now] W K := by
  obtain ⟨hg, r1, r2, F0, s, st, im, km, last, H, ho, h2, h3, h4, rfl⟩ := h.ex
  have hp := keys_perm ho h.ok
  have hlen : s.length = L.length := by rw [ho.len]; have := hp.length_eq; simpa using this
  refine at_al hA H hgs (c24 now H ho (by omega) (by omega)) fun v F' s' st' im' km' last' W' hA' hk hch ⟨⟨l', f1, f2, f3, f4⟩, e2, e3, e4, e5, e6⟩ H' hfp => ?_
  subst e5
  have hT : (fun j => if dueT (fun k => mget k L) now j then none else mget j L) = fun j => mget j (restL now L) := funext fun j => (mget_restL now h.ok j).symm
  rw [hT] at e2
  have hd : LOk (dueL now L) := h.ok.filter _
  have hl' : l' = (dueL now L).map (·.1) := by
    refine keys_eq (T := fun k => mget k L) hd (fun x hx => h.ok.get x (List.mem_filter.1 hx).1) f2 (fun k => ?_) f4
    rw [f3, dueT_iff]
    constructor
    · rintro ⟨t, ht, hle⟩
      exact List.mem_map.2 ⟨(k, t), List.mem_filter.2 ⟨mem_of_mget ht, by simpa using hle⟩, rfl⟩
    · intro hm
      obtain ⟨x, hx, rfl⟩ := List.mem_map.1 hm
      have hx := List.mem_filter.1 hx
      exact ⟨x.2, h.ok.get x hx.1, by simpa using hx.2⟩
  subst hl'
  have hrow : OwnF w noB gs W' 54 3 kyE v ((dueL now L).map (·.1)) := OwnF.ret hA f1 rfl rfl
  obtain ⟨a, c, rfl, hs⟩ := hrow.slice fun _ _ => rfl
  rw [List.length_map] at hs hrow ⊢
  refine hK a c _ W' hA' hk hch ⟨⟨hg, r1, r2, F', s', st', im', km', _, H', e2, by omega, by omega, by omega, rfl⟩, h.ok.filter _⟩ hfp hrow hs fun b hb => ?_
  subst hb
  exact (f1.lt b.block rfl).1
end

theorem at_allT {K : Ending → World → Prop} (hA : AtF w noB gs W) (h : AlT w W g L m q F) (hl : L.length ≤ 800) (hK : ∀ a c W', AtF w noB gs W' → Keeps gs W W' → Bel W W' → AlT w W' g L m q F → OwnF w noB gs W' 54 3 kyE (.slice a L.length c) (L.map (·.1)) → SlE W' 3 kyE (L.map (·.1)) a L.length c → (∀ b, a = some b → W.heap.size ≤ b.block) → K (.returned (.slice a L.length c)) W') : Calls Try.prog 23 #[alV g] W K := by
  obtain ⟨hg, r1, r2, F0, s, st, im, km, last, H, ho, h2, h3, h4, rfl⟩ := h.ex
  have hp := keys_perm ho h.ok
  have hlen : s.length = L.length := by rw [ho.len]; have := hp.length_eq; simpa using this
  refine at_callq hA (c23 H ho (by omega)) fun v W' hA' hk hb ⟨l', f1, f2, f4⟩ => ?_
  have hl' : l' = L.map (·.1) := keys_eq (T := fun k => mget k L) h.ok (fun x hx => h.ok.get x hx) (f2.nodup_iff.2 ho.ndi) (fun k => f2.mem_iff.trans hp.mem_iff) f4
  subst hl'
  have hrow : OwnF w noB gs W' 54 3 kyE v (L.map (·.1)) := OwnF.ret hA f1 rfl rfl
  obtain ⟨a, c, rfl, hs⟩ := hrow.slice fun _ _ => rfl
  rw [List.length_map] at hs hrow ⊢
  refine hK a c W' hA' hk hb (h.call hb) hrow hs fun b hb => ?_
  subst hb
  exact (f1.lt b.block rfl).1
theorem ret_at (h : AlT w W g L m q F) (k : Ky) : Ret Try.prog 27 #[alV g, kyV k] W (atT (mget k L)) := by
  obtain ⟨hg, r1, r2, F0, s, st, im, km, last, H, ho, h2, h3, h4, rfl⟩ := h.ex
  exact c27 H ho k
end Go.Vc.A

/- works; an act on alarms and on the list. -/
set_option maxRecDepth 20000
set_option maxHeartbeats 1000000
namespace Go.Vc.A
open Go Go.Vc Go.RowKit Go.Proofs Go.Vc.H Vcc

variable {w W W' : World} {M N F F' : Nat → Prop} {gs : List Nat} {g : Nat} {L : List Im} {m : Nat} {q : Int}

theorem gs_next (hA : AtF w noB gs W) (hgs : ∀ x ∈ gs, ¬ F x) (hF : ∀ b, F' b → F b ∨ W.heap.size ≤ b) : ∀ x ∈ gs, ¬ F' x := fun x hx hf => by
  rcases hF x hf with e | e
  · exact hgs x hx e
  · have := hA.under x hx
    omega

theorem c25 (w : World) : Ret Try.prog 25 #[] w (.bool true) := by
  intro R h
  refine f25_calls w R ?_
  unfold f25_vc
  refine at_newT (At.refl w) fun g F w2 hA _ hb2 H hF => ⟨_, rfl, ?_⟩
  intro n4 h4 n5 h5 w6 hev hun
  have hltF := H.lt
  have hbel := hev.bel (by simp; omega)
  have hA : AtF w noB [n4, n5] w6 := ⟨(hA.call hbel).chg, hun⟩
  have H := H.call hbel
  have hgs : ∀ x ∈ [n4, n5], ¬ F x := fun x hx hf => by
    have := hltF x hf
    simp at hx
    omega
  refine at_setT hA H hgs (by simp) (by omega) (by omega) (2, 5, 0) 10 fun F1 w8 hA1 hk hch H hF1 => ⟨_, rfl, hk, brB (fun _ => ?_) (fun e => by cases e)⟩
  have hgs := gs_next hA hgs hF1
  have e1 : setL ((2, 5, 0), 10) [] = [((2, 5, 0), 10)] := by decide
  rw [e1] at H
  refine at_setT hA1 H hgs (by simp) (by omega) (by omega) (1, 9, 9) 10 fun F2 w11 hA2 hk hch H hF2 => ⟨_, rfl, hk, brB (fun _ => ?_) (fun e => absurd e (by decide))⟩
  have hgs := gs_next hA1 hgs hF2
  have e2 : setL ((1, 9, 9), 10) [((2, 5, 0), 10)] = [((1, 9, 9), 10), ((2, 5, 0), 10)] := by decide
  rw [e2] at H
  refine at_setT hA2 H hgs (by simp) (by omega) (by omega) (2, 5, 0) 10 fun F3 w14 hA3 hk hch H hF3 => ⟨_, rfl, hk, ?_⟩
  have hgs := gs_next hA2 hgs hF3
  have e3 : setL ((2, 5, 0), 10) [((1, 9, 9), 10), ((2, 5, 0), 10)] = [((1, 9, 9), 10), ((2, 5, 0), 10)] := by decide
  rw [e3] at H
  refine at_dueT hA3 H hgs (by simp) (by omega) 10 fun a18 c18 F4 w17 hA4 hk hch H hF4 hrow hs _ => ⟨_, _, _, rfl, hk, brB (fun _ => ?_) (fun e => absurd e (by decide))⟩
  have e4 : dueL 10 [((1, 9, 9), 10), ((2, 5, 0), 10)] = [((1, 9, 9), 10), ((2, 5, 0), 10)] := by decide
  have e5 : restL 10 [((1, 9, 9), 10), ((2, 5, 0), 10)] = [] := by decide
  rw [e4] at hs ⊢
  rw [e5] at H
  obtain ⟨ad, g1, el, _⟩ := elt_at (P := Try.prog) (k := .i64) (t := 49) (i := 0) hs rfl (e := 54) (by kernel_rfl) (by kernel_rfl)
  obtain ⟨ad2, g2, el2, _⟩ := elt_at (P := Try.prog) (k := .i64) (t := 49) (i := 1) hs rfl (e := 54) (by kernel_rfl) (by kernel_rfl)
  refine brE (fun _ => ⟨ad, g1, _, _, _, el.agg 3 (by kernel_rfl) (by kernel_rfl) (by simp) (by simp), brB (fun _ => ⟨ad2, g2, _, _, _, el2.agg 3 (by kernel_rfl) (by kernel_rfl) (by simp) (by simp), brB (fun _ => ?_) (fun e => by cases e)⟩) (fun e => by cases e)⟩) (fun e => absurd rfl e)
  refine go_below_too hA4 fun w29 hA hb => ?_
  refine at_allT hA (H.call hb) (by simp) fun a32 c32 w31 hA hk hb31 _ _ _ _ => ⟨_, _, _, rfl, hk, ((el2.below hb).below hb31).agg 3 (by kernel_rfl) (by kernel_rfl) (by simp) (by simp), ((el.below hb).below hb31).agg 3 (by kernel_rfl) (by kernel_rfl) (by simp) (by simp), leaf h hA rfl⟩

/-- What an act leaves of the list. -/
def doesL (k : Ky) (kind at' : Int) (L : List Im) : List Im :=
  if kind = 0 then setL (k, at') L else if kind = 1 then drpL k L else if kind = 2 then fgtL k.1 k.2.1 L else restL at' L

theorem cut_due {now : Int} {L : List Im} (hL : LOk L) {n : Nat} (hn : n ≤ L.length) (h1 : ∀ i, i < n → ∀ y, L[i]? = some y → y.2 ≤ now) (h2 : ∀ y, L[n]? = some y → ¬ y.2 ≤ now) : L.take n = dueL now L ∧ L.drop n = restL now L := by
  have hsp := due_split now hL.srt
  have ha : ∀ x ∈ dueL now L, x.2 ≤ now := fun x hx => by simpa using (List.mem_filter.1 hx).2
  have hb : ∀ x ∈ restL now L, ¬ x.2 ≤ now := fun x hx => by simpa using (List.mem_filter.1 hx).2
  generalize dueL now L = A at hsp ha ⊢
  generalize restL now L = B at hsp hb ⊢
  subst hsp
  have hlen : A.length = n := by
    rcases Nat.lt_trichotomy A.length n with hlt | he | hgt
    · rw [List.length_append] at hn
      have hy : (A ++ B)[A.length]? = some (B[0]'(by omega)) := by
        rw [List.getElem?_append_right (Nat.le_refl _), Nat.sub_self]
        exact List.getElem?_eq_getElem _
      exact absurd (h1 _ hlt _ hy) (hb _ (List.getElem_mem _))
    · exact he
    · have hy : (A ++ B)[n]? = some (A[n]'hgt) := by
        rw [List.getElem?_append_left hgt]
        exact List.getElem?_eq_getElem _
      exact absurd (ha _ (List.getElem_mem _)) (h2 _ hy)
  subst hlen
  exact ⟨List.take_left, List.drop_left⟩

/-- A call that returns a new row: its block is new. -/
theorem at_callN {α : Type} {fn : FuncId} {args : Array Value} {e : TypeId} {size : Nat} {f : α → List Value} {l : List α} {K : Ending → World → Prop} (hA : AtF w M gs W) (hc : RetL Try.prog fn args W e size f l) (hf : ∀ x ∈ l, (f x).length = size)
    (hK : ∀ a c w', AtF w M gs w' → Keeps gs W w' → Bel W w' → OwnF w M gs w' e size f (.slice a l.length c) l → SlE w' size f l a l.length c → (∀ b, a = some b → W.heap.size ≤ b.block ∧ b.block < w'.heap.size) → K (.returned (.slice a l.length c)) w') : Calls Try.prog fn args W K :=
  at_callq hA hc fun v w' hA' hk hb hq => by
    have ho : OwnF w M gs w' e size f v l := OwnF.ret hA hq rfl rfl
    obtain ⟨a, c, rfl, hs⟩ := ho.slice hf
    exact hK a c w' hA' hk hb ho hs fun b hb => by subst hb; exact hq.lt b.block rfl

theorem SlR_take {α : Type} {W : World} {n : Nat} {Rl : α → List Value → Prop} {l : List α} {a : Option Addr} {len cap i : Nat} (h : SlR W n Rl l a len cap) (hi : i ≤ len) : SlR W n Rl (l.take i) a i cap := by
  obtain ⟨h1, h2, h3, h4, h5⟩ := h
  refine ⟨by rw [List.length_take]; omega, by omega, by omega, h4, fun j x hx => ?_⟩
  rw [List.getElem?_take] at hx
  split at hx
  · exact h5 j x hx
  · cases hx

theorem at_does {a : Option Addr} {c : Nat} {K : Ending → World → Prop} (k : Ky) (kind at' : Int) {W0 : World} (hA : At w [] W0) (H : AlT w W0 g L m q F) (hs : SlE W0 4 imE L a L.length c) (hap : ∀ b, a = some b → ¬ F b.block ∧ b.block < W0.heap.size) (hl : L.length ≤ 700) (hq : q ≤ 1000000000000000) (hm : m ≤ 1000000000000000)
    (hK : ∀ a' c' F' W', At w [] W' → AlT w W' g (doesL k kind at' L) (m + 1) (q + 2000000) F' → SlE W' 4 imE (doesL k kind at' L) a' (doesL k kind at' L).length c' → (∀ b, a' = some b → ¬ F' b.block ∧ b.block < W'.heap.size) → K (.returned (.tuple #[.slice a' (doesL k kind at' L).length c', .bool true])) W') :
    Calls Try.prog 26 #[alV g, .slice a L.length c, .agg #[.int .i64 kind, .int .i64 k.1, .int .i64 k.2.1, .int .i64 k.2.2, .int .i64 at']] W0 K := by
  refine f26_calls _ _ _ _ kind k.1 k.2.1 k.2.2 at' W0 K ?_
  unfold f26_vc
  have weaken : ∀ {L m m' q q' F W}, m ≤ m' → q ≤ q' → AlT w W g L m q F → AlT w W g L m' q' F := fun {L m m' q q' F W} h1 h2 h => by
    obtain ⟨hg, r1, r2, F0, s, st, im, km, last, H, ho, e2, e3, e4, e5⟩ := h.ex
    exact ⟨⟨hg, r1, r2, F0, s, st, im, km, last, H, ho, e2, by omega, by omega, e5⟩, h.ok⟩
  intro n1 hn1
  have hltF := H.lt
  have hgs : ∀ x ∈ [n1], ¬ F x := fun x hx hf => by
    have := hltF x hf
    simp at hx
    omega
  refine go_below_too (gs' := [n1]) hA fun w2 hA hb2 => ?_
  refine at_callb hA (c29 k w2) fun w4 hA hk4 hb4 => ⟨_, _, _, rfl, hk4, ?_⟩
  have hs := (hs.call hb2).call hb4
  have H := (H.call hb2).call hb4
  refine at_callb hA (c28 k w4 hs (by omega)) fun w9 hA hk9 hb9 => ⟨_, rfl, hk9, ?_⟩
  have hs := hs.call hb9
  have H := H.call hb9
  have hpl : decide (plcK k L ≥ 0) = (mget k L).isSome := by
    rcases plcK_cases k L with ⟨e, hm⟩ | ⟨i, t, e, hi, hm⟩
    · rw [e, hm]; rfl
    · rw [e, hm]; simp
  refine brE (fun hk0 => go_below_too hA fun w11 hA hb => ?_) (fun hk0 => brE (fun hk1 => go_below_too hA fun w25 hA hb => ?_) (fun hk1 => brE (fun hk2 => ?_) (fun hk2 => ?_)))
  · have hd : doesL k kind at' L = setL (k, at') L := if_pos hk0
    rw [hd] at hK
    refine at_callb hA (c29 k w11) fun w13 hA hk hb2 => ⟨_, _, _, rfl, hk, ?_⟩
    have hs := (hs.call hb).call hb2
    have H := (H.call hb).call hb2
    refine at_callN hA (c45 (k, at') w13 hs (by omega)) (fun _ _ => rfl) fun a19 c19 w18 hA18 hk18 hb18 ho19 hs19 hf19 => ⟨_, _, _, rfl, hk18, ?_⟩
    have hlt := H.lt
    have H := H.call hb18
    refine at_setT hA18 H hgs (by omega) (by omega) (by omega) k at' fun F' w23 hA hk hch H hF' => ⟨_, rfl, hk, ?_⟩
    have hn : ∀ b, a19 = some b → ¬ F b.block := fun b e hf => by
      have := hlt _ hf
      have := (hf19 b e).1
      omega
    rw [hpl]
    have e1 : ((mget k L).isNone == !(mget k L).isSome) = true := by cases mget k L <;> rfl
    rw [e1]
    exact hK a19 c19 F' w23 hA.off (weaken (by omega) (by omega) H) (hs19.chg hch hn) fun b e => ⟨fun hf => by
      rcases hF' _ hf with e2 | e2
      · exact hn b e e2
      · have := (hf19 b e).2
        omega, Nat.lt_of_lt_of_le (hf19 b e).2 hch.size⟩
  · have hd : doesL k kind at' L = drpL k L := by unfold doesL; rw [if_neg hk0, if_pos hk1]
    rw [hd] at hK
    refine at_callb hA (c29 k w25) fun w27 hA hk hb2 => ⟨_, _, _, rfl, hk, ?_⟩
    have hs := (hs.call hb).call hb2
    have H := (H.call hb).call hb2
    refine at_callN hA (c46 k w27 hs (by omega)) (fun _ _ => rfl) fun a19 c19 w32 hA18 hk18 hb18 ho19 hs19 hf19 => ⟨_, _, _, rfl, hk18, ?_⟩
    have hlt := H.lt
    have H := H.call hb18
    refine at_dropT hA18 H hgs (by omega) (by omega) k fun F' w37 hA hk hch H hF' => ⟨_, rfl, hk, ?_⟩
    have hn : ∀ b, a19 = some b → ¬ F b.block := fun b e hf => by
      have := hlt _ hf
      have := (hf19 b e).1
      omega
    rw [hpl]
    have e1 : ((mget k L).isSome == (mget k L).isSome) = true := by simp
    rw [e1]
    exact hK a19 c19 F' w37 hA.off (weaken (by omega) (by omega) H) (hs19.chg hch hn) fun b e => ⟨fun hf => by
      rcases hF' _ hf with e2 | e2
      · exact hn b e e2
      · have := (hf19 b e).2
        omega, Nat.lt_of_lt_of_le (hf19 b e).2 hch.size⟩
  · have hd : doesL k kind at' L = fgtL k.1 k.2.1 L := by unfold doesL; rw [if_neg hk0, if_neg hk1, if_pos hk2]
    rw [hd] at hK
    refine at_callN hA (c47 k.1 k.2.1 w9 hs (by omega)) (fun _ _ => rfl) fun a19 c19 w40 hA18 hk18 hb18 ho19 hs19 hf19 => ⟨_, _, _, rfl, hk18, ?_⟩
    have hlt := H.lt
    have H := H.call hb18
    refine at_fgtT hA18 H hgs (by omega) (by omega) k.1 k.2.1 fun F' w45 hA hk hch H hF' => ⟨_, rfl, hk, ?_⟩
    have hn : ∀ b, a19 = some b → ¬ F b.block := fun b e hf => by
      have := hlt _ hf
      have := (hf19 b e).1
      omega
    have hll : (fgtL k.1 k.2.1 L).length ≤ L.length := List.length_filter_le ..
    have e1 : ((((L.length - (fgtL k.1 k.2.1 L).length : Nat) : Int)) == IntKind.i64.wrap ((L.length : Int) - ((fgtL k.1 k.2.1 L).length : Int))) = true := by
      rw [wrap_i64 (by omega) (by omega)]
      simp
      omega
    rw [e1]
    exact hK a19 c19 F' w45 hA.off (weaken (by omega) (by omega) H) (hs19.chg hch hn) fun b e => ⟨fun hf => by
      rcases hF' _ hf with e2 | e2
      · exact hn b e e2
      · have := (hf19 b e).2
        omega, Nat.lt_of_lt_of_le (hf19 b e).2 hch.size⟩
  · have hd : doesL k kind at' L = restL at' L := by unfold doesL; rw [if_neg hk0, if_neg hk1, if_neg hk2]
    rw [hd] at hK
    have hsl := hs.2.1
    -- the end: what is left, and what has fallen due
    have fin : ∀ {i : Nat} {W : World}, W0.heap.size ≤ W.heap.size → i ≤ L.length → (∀ p, p < i → ∀ y, L[p]? = some y → y.2 ≤ at') → (∀ y, L[i]? = some y → ¬ y.2 ≤ at') → At w [n1] W → AlT w W g L m q F → SlE W 4 imE L a L.length c → ∃ (a54 : Option Addr) (n55 n56 : Nat), Gives Try.prog (Instr.sliceAt 59 (.slice a L.length c) (some (.int .i64 (i : Int))) none none) (.slice a54 n55 n56) ∧ ∃ (a57 : Option Addr) (n58 n59 : Nat), Gives Try.prog (Instr.sliceAt 59 (.slice a L.length c) none (some (.int .i64 (i : Int))) none) (.slice a57 n58 n59) ∧
        ∀ w60, Bel W w60 → Under [n1] w60 → Calls Try.prog 24 #[alV g, .int .i64 at'] w60 fun e61 w62 => ∃ (a63 : Option Addr) (n64 n65 : Nat), e61 = .returned (.slice a63 n64 n65) ∧ Keeps [n1] w60 w62 ∧ Calls Try.prog 30 #[.slice a63 n64 n65, .slice a57 n58 n59] w62 fun e66 w67 => ∃ b68 : Bool, e66 = .returned (.bool b68) ∧ Keeps [n1] w62 w67 ∧ K (.returned (.tuple #[.slice a54 n55 n56, .bool b68])) w67 := fun {i W} hW0 hi h1 h2 hA H hs => by
      obtain ⟨ec1, ec2⟩ := cut_due H.ok hi h1 h2
      obtain ⟨g1, hsub⟩ := gives_fromX (P := Try.prog) (k := .i64) (t := 59) (e := 70) (i := i) hs (by omega) (by kernel_rfl) (by kernel_rfl)
      refine ⟨_, _, _, g1, _, _, _, gives_front (e := 70) (size := 4) (m := i) (by kernel_rfl) (by kernel_rfl) (by omega), go_below_too hA fun w60 hA hb => ?_⟩
      have H := H.call hb
      have hs := hs.call hb
      refine at_dueT hA H hgs (by omega) (by omega) at' fun a63 c63 F' w62 hA62 hk hch H hF' hrow hs63 hf63 => ⟨_, _, _, rfl, hk, ?_⟩
      have hs62 := hs.chg hch fun b e hf => (hap b e).1 hf
      have htk := SlR_take hs62 hi
      refine at_callb hA62 (c30 w62 hs63 htk (by rw [List.length_take]; omega)) fun w67 hA hk hb67 => ⟨_, rfl, hk, ?_⟩
      have e1 : decide ((dueL at' L).map (·.1) = (L.take i).map (·.1)) = true := by rw [ec1]; simp
      rw [e1]
      have hdl : (restL at' L).length = L.length - i := by rw [← ec2, List.length_drop]
      have hs67 := hsub w67 (hs62.call hb67)
      rw [ec2] at hs67
      rw [← hdl] at hs67 ⊢
      have hblk : ∀ b, (if c = i then a else a.map (·.add (i * 4))) = some b → ∃ b0, a = some b0 ∧ b.block = b0.block := fun b e => by
        split at e
        · exact ⟨b, e, rfl⟩
        · cases a with
          | none => cases e
          | some b0 =>
            simp only [Option.map_some, Option.some.injEq] at e
            exact ⟨b0, rfl, by rw [← e]; exact add_block _ _⟩
      refine hK _ _ F' w67 hA.off (weaken (by omega) (by omega) (H.call hb67)) hs67 fun b e => ?_
      obtain ⟨b0, hb0, hbb⟩ := hblk b e
      have hlt0 := (hap b0 hb0).2
      have hW60 : W0.heap.size ≤ w60.heap.size := Nat.le_trans hW0 hb.size
      have hW67 : w60.heap.size ≤ w67.heap.size := Nat.le_trans hch.size hb67.size
      rw [hbb]
      refine ⟨fun hf => ?_, by omega⟩
      rcases hF' _ hf with e2 | e2
      · exact (hap b0 hb0).1 e2
      · omega
    refine ⟨fun v W => ∃ i : Nat, v.1 = i ∧ i ≤ L.length ∧ W0.heap.size ≤ W.heap.size ∧ At w [n1] W ∧ AlT w W g L m q F ∧ SlE W 4 imE L a L.length c ∧ (∀ p, p < i → ∀ y, L[p]? = some y → y.2 ≤ at'), fun v _ => (L.length - v.1).toNat, ⟨0, rfl, by omega, Nat.le_trans hb2.size (Nat.le_trans hb4.size hb9.size), hA, H, hs, fun p hp => by omega⟩, ?_⟩
    rintro x49 w50 ⟨i, hi', hil, hW0, hA, H, hs, hmin⟩
    simp only at hi'
    subst hi'
    refine brD (fun hlt => ?_) (fun hge => ?_)
    · obtain ⟨x, hx⟩ : ∃ x, L[i]? = some x := ⟨_, List.getElem?_eq_getElem (by omega)⟩
      obtain ⟨ad, g1, el, _⟩ := elt_at (P := Try.prog) (k := .i64) (t := 59) hs hx (e := 70) (by kernel_rfl) (by kernel_rfl)
      refine ⟨ad, g1, _, (el.sub (o := 3) (by decide)).one (by kernel_rfl) (by simp), brD (fun hle => go_below_too hA fun w53 hA hb => ?_) (fun hgt => ?_)⟩
      · rw [succ_i64 i (by omega)]
        refine ⟨⟨i + 1, rfl, by omega, Nat.le_trans hW0 hb.size, hA, H.call hb, hs.call hb, fun p hp y hy => ?_⟩, by simp only; omega⟩
        by_cases hpi : p = i
        · subst hpi
          rw [hx] at hy
          cases hy
          exact hle
        · exact hmin p (by omega) y hy
      · exact fin hW0 hil hmin (fun y hy => by rw [hx] at hy; cases hy; exact hgt) hA H hs
    · exact fin hW0 hil hmin (fun y hy => by rw [List.getElem?_eq_none (by omega)] at hy; cases hy) hA H hs
end Go.Vc.A

/- The formulas of functions, printed by a program (VcTool.lean): each is what the generator's formula comes to, by the kernel's reckoning; whoever proves one has the function's contract. -/
set_option maxRecDepth 100000
set_option maxHeartbeats 1000000
set_option linter.unusedVariables false
namespace Vcc
open Go Go.Vc Go.RowKit
/-! manciple/manciplelaw12.AlarmPlays -/
def h7 : Hints := ⟨[], [26, 38, 47, 69], [13, 18, 32, 82, 57, 63, 65, 75, 78], [], [], [(6, ⟨[(4, .sl), (5, .int .i64)], []⟩)], [], [], []⟩
def f7_vc (actsa : Option Addr) (actsn : Nat) (actsc : Nat) (w : World) (R : Ending → World → Prop) : Prop :=
 (decide ((↑actsn : Int) > 100) = true → R (Ending.returned (Value.bool true)) w) ∧
 (decide ((↑actsn : Int) > 100) = false →
 Calls Proofs.Try.prog 21 #[] w fun (e1 : Ending) (w2 : World) =>
 ∃ (a3 : Option Addr),
 e1 = Ending.returned (Value.pointer a3) ∧
 ∃ (J4 : (Option Addr × Nat × Nat) × Int × Unit → World → Prop),
 ∃ (J5 : (Option Addr × Nat × Nat) × Int × Unit → World → Nat),
 J4 ((none, 0, 0), 0, ()) w2 ∧
 ∀ (a6 : Option Addr) (n7 n8 : Nat) (x9 : Int) (w10 : World),
 J4 ((a6, n7, n8), x9, ()) w10 →
 (decide (x9 < (↑actsn : Int)) = true →
 ∃ (ad11 : Addr),
 Gives Proofs.Try.prog (Instr.indexAt 58 (Value.slice actsa actsn actsc) (Value.int IntKind.i64 x9)) (Value.pointer (some ad11)) ∧
 ∃ (x12 : Int),
 ∃ (x13 : Int),
 ∃ (x14 : Int),
 ∃ (x15 : Int),
 ∃ (x16 : Int),
 Reads Proofs.Try.prog [] (Instr.loadAt 63 (Value.pointer (some ad11))) w10
 (Value.agg #[Value.int IntKind.i64 x12, Value.int IntKind.i64 x13, Value.int IntKind.i64 x14, Value.int IntKind.i64 x15, Value.int IntKind.i64 x16]) ∧
 Calls Proofs.Try.prog 26
 #[Value.pointer a3, Value.slice a6 n7 n8, Value.agg #[Value.int IntKind.i64 x12, Value.int IntKind.i64 x13, Value.int IntKind.i64 x14, Value.int IntKind.i64 x15, Value.int IntKind.i64 x16]] w10
 fun (e17 : Ending) (w18 : World) =>
 ∃ (a19 : Option Addr),
 ∃ (n20 : Nat),
 ∃ (n21 : Nat),
 ∃ (b22 : Bool),
 e17 = Ending.returned (Value.tuple #[Value.slice a19 n20 n21, Value.bool b22]) ∧
 ((!b22) = true → R (Ending.returned (Value.bool false)) w18) ∧
 ((!b22) = false →
 ∃ (ad23 : Addr),
 Gives Proofs.Try.prog (Instr.indexAt 58 (Value.slice actsa actsn actsc) (Value.int IntKind.i64 x9)) (Value.pointer (some ad23)) ∧
 ∃ (x24 : Int),
 ∃ (x25 : Int),
 ∃ (x26 : Int),
 Reads Proofs.Try.prog [] (Instr.loadAt 54 (Value.pointer (some (Addr.mk ad23.block (ad23.off + 1) none)))) w18
 (Value.agg #[Value.int IntKind.i64 x24, Value.int IntKind.i64 x25, Value.int IntKind.i64 x26]) ∧
 Calls Proofs.Try.prog 27 #[Value.pointer a3, Value.agg #[Value.int IntKind.i64 x24, Value.int IntKind.i64 x25, Value.int IntKind.i64 x26]] w18
 fun (e27 : Ending) (w28 : World) =>
 ∃ (x29 : Int),
 ∃ (b30 : Bool),
 e27 = Ending.returned (Value.tuple #[Value.int IntKind.i64 x29, Value.bool b30]) ∧
 ∃ (ad31 : Addr),
 Gives Proofs.Try.prog (Instr.indexAt 58 (Value.slice actsa actsn actsc) (Value.int IntKind.i64 x9)) (Value.pointer (some ad31)) ∧
 ∃ (x32 : Int),
 ∃ (x33 : Int),
 ∃ (x34 : Int),
 Reads Proofs.Try.prog [] (Instr.loadAt 54 (Value.pointer (some (Addr.mk ad31.block (ad31.off + 1) none)))) w28
 (Value.agg #[Value.int IntKind.i64 x32, Value.int IntKind.i64 x33, Value.int IntKind.i64 x34]) ∧
 Calls Proofs.Try.prog 29 #[Value.agg #[Value.int IntKind.i64 x32, Value.int IntKind.i64 x33, Value.int IntKind.i64 x34]] w28
 fun (e35 : Ending) (w36 : World) =>
 ∃ (x37 : Int),
 ∃ (x38 : Int),
 ∃ (x39 : Int),
 e35 = Ending.returned (Value.agg #[Value.int IntKind.i64 x37, Value.int IntKind.i64 x38, Value.int IntKind.i64 x39]) ∧
 Calls Proofs.Try.prog 28
 #[Value.slice a19 n20 n21, Value.agg #[Value.int IntKind.i64 x37, Value.int IntKind.i64 x38, Value.int IntKind.i64 x39]] w36
 fun (e40 : Ending) (w41 : World) =>
 ∃ (x42 : Int),
 e40 = Ending.returned (Value.int IntKind.i64 x42) ∧
 Calls Proofs.Try.prog 23 #[Value.pointer a3] w41 fun (e43 : Ending) (w44 : World) =>
 ∃ (a45 : Option Addr),
 ∃ (n46 : Nat),
 ∃ (n47 : Nat),
 e43 = Ending.returned (Value.slice a45 n46 n47) ∧
 Calls Proofs.Try.prog 30 #[Value.slice a45 n46 n47, Value.slice a19 n20 n21] w44 fun (e48 : Ending) (w49 : World) =>
 ∃ (b50 : Bool),
 e48 = Ending.returned (Value.bool b50) ∧
 ((!b50) = true → R (Ending.returned (Value.bool false)) w49) ∧
 ((!b50) = false →
 ((!b30 == decide (x42 ≥ 0)) = true → R (Ending.returned (Value.bool false)) w49) ∧
 ((!b30 == decide (x42 ≥ 0)) = false →
 (b30 = true →
 ∃ (ad51 : Addr),
 Gives Proofs.Try.prog (Instr.indexAt 59 (Value.slice a19 n20 n21) (Value.int IntKind.i64 x42))
 (Value.pointer (some ad51)) ∧
 ∃ (x52 : Int),
 Reads Proofs.Try.prog []
 (Instr.loadAt 2 (Value.pointer (some (Addr.mk ad51.block (ad51.off + 3) none)))) w49
 (Value.int IntKind.i64 x52) ∧
 ((x29 != x52) = true → R (Ending.returned (Value.bool false)) w49) ∧
 ((x29 != x52) = false →
 ((!b30) = true →
 ((x29 != 0) = true → R (Ending.returned (Value.bool false)) w49) ∧
 ((x29 != 0) = false →
 J4 ((a19, n20, n21), IntKind.i64.wrap (x9 + 1), ()) w49 ∧
 J5 ((a19, n20, n21), IntKind.i64.wrap (x9 + 1), ()) w49 <
 J5 ((a6, n7, n8), x9, ()) w10)) ∧
 ((!b30) = false →
 J4 ((a19, n20, n21), IntKind.i64.wrap (x9 + 1), ()) w49 ∧
 J5 ((a19, n20, n21), IntKind.i64.wrap (x9 + 1), ()) w49 <
 J5 ((a6, n7, n8), x9, ()) w10))) ∧
 (b30 = false →
 ((!b30) = true →
 ((x29 != 0) = true → R (Ending.returned (Value.bool false)) w49) ∧
 ((x29 != 0) = false →
 J4 ((a19, n20, n21), IntKind.i64.wrap (x9 + 1), ()) w49 ∧
 J5 ((a19, n20, n21), IntKind.i64.wrap (x9 + 1), ()) w49 < J5 ((a6, n7, n8), x9, ()) w10)) ∧
 ((!b30) = false →
 J4 ((a19, n20, n21), IntKind.i64.wrap (x9 + 1), ()) w49 ∧
 J5 ((a19, n20, n21), IntKind.i64.wrap (x9 + 1), ()) w49 < J5 ((a6, n7, n8), x9, ()) w10)))))) ∧
 (decide (x9 < (↑actsn : Int)) = false → Calls Proofs.Try.prog 25 #[] w10 fun (e53 : Ending) (w54 : World) => ∃ (b55 : Bool), e53 = Ending.returned (Value.bool b55) ∧ R (Ending.returned (Value.bool b55)) w54))
theorem f7_eq (actsa : Option Addr) (actsn : Nat) (actsc : Nat) (w : World) (R : Ending → World → Prop) : (fnF Go.Proofs.Try.prog h7 Go.Proofs.Try.f7 [Value.slice actsa actsn actsc] w R).den = f7_vc actsa actsn actsc w R := by kernel_rfl
theorem f7_calls (actsa : Option Addr) (actsn : Nat) (actsc : Nat) (w : World) (R : Ending → World → Prop) (h : f7_vc actsa actsn actsc w R) : Calls Go.Proofs.Try.prog 7 (List.toArray [Value.slice actsa actsn actsc]) w R :=
 fn_sound (H := h7) (fn := Go.Proofs.Try.f7) (by kernel_rfl) (by kernel_rfl) (by kernel_rfl) ((f7_eq actsa actsn actsc w R).mpr h)


/-! manciple/manciplelaw12.AlarmCuts -/
def h6 : Hints := ⟨[], [43, 47, 62, 83, 87, 92, 100, 120], [32, 37, 56, 72, 78, 89, 112, 115, 123, 129, 21, 28, 96, 104, 107], [(7, [0, 1, 2, 3, 4, 5, 6, 7, 8, 9]), (22, [0, 1, 2, 3, 4, 5, 6, 7, 8])], [], [(5, ⟨[(8, .int .i64)], []⟩), (10, ⟨[(9, .int .i64), (10, .int .i64)], []⟩), (16, ⟨[(12, .int .i64), (13, .int .i64)], []⟩), (20, ⟨[(14, .int .i64), (15, .bool), (16, .int .i64)], []⟩), (27, ⟨[(17, .int .i64)], []⟩)], [(32, ⟨[], []⟩), (24, ⟨[(14, .int .i64), (15, .bool)], []⟩), (26, ⟨[], []⟩)], [], []⟩
def f6_vc (keysa : Option Addr) (keysn : Nat) (keysc : Nat) (timesa : Option Addr) (timesn : Nat) (timesc : Nat) (cutsa : Option Addr) (cutsn : Nat) (cutsc : Nat) (w : World) (R : Ending → World → Prop) : Prop :=
 (decide ((↑keysn : Int) > 60) = true → R (Ending.returned (Value.bool true)) w) ∧
 (decide ((↑keysn : Int) > 60) = false →
 (decide ((↑timesn : Int) < (↑keysn : Int)) = true → R (Ending.returned (Value.bool true)) w) ∧
 (decide ((↑timesn : Int) < (↑keysn : Int)) = false →
 (decide ((↑cutsn : Int) > 40) = true → R (Ending.returned (Value.bool true)) w) ∧
 (decide ((↑cutsn : Int) > 40) = false →
 Calls Proofs.Try.prog 21 #[] w fun (e1 : Ending) (w2 : World) =>
 ∃ (a3 : Option Addr),
 e1 = Ending.returned (Value.pointer a3) ∧
 ∃ (J4 : Int × Unit → World → Prop),
 ∃ (J5 : Int × Unit → World → Nat),
 J4 (0, ()) w2 ∧
 ∀ (x6 : Int) (w7 : World),
 J4 (x6, ()) w7 →
 (decide (x6 < (↑keysn : Int)) = true →
 ∃ (ad8 : Addr),
 Gives Proofs.Try.prog (Instr.indexAt 49 (Value.slice keysa keysn keysc) (Value.int IntKind.i64 x6)) (Value.pointer (some ad8)) ∧
 ∃ (x9 : Int),
 ∃ (x10 : Int),
 ∃ (x11 : Int),
 Reads Proofs.Try.prog [] (Instr.loadAt 54 (Value.pointer (some ad8))) w7 (Value.agg #[Value.int IntKind.i64 x9, Value.int IntKind.i64 x10, Value.int IntKind.i64 x11]) ∧
 ∃ (ad12 : Addr),
 Gives Proofs.Try.prog (Instr.indexAt 22 (Value.slice timesa timesn timesc) (Value.int IntKind.i64 x6)) (Value.pointer (some ad12)) ∧
 ∃ (x13 : Int),
 Reads Proofs.Try.prog [] (Instr.loadAt 2 (Value.pointer (some ad12))) w7 (Value.int IntKind.i64 x13) ∧
 ∀ (w14 : World),
 Bel w7 w14 →
 Calls Proofs.Try.prog 22 #[Value.pointer a3, Value.agg #[Value.int IntKind.i64 x9, Value.int IntKind.i64 x10, Value.int IntKind.i64 x11], Value.int IntKind.i64 x13] w14
 fun (e15 : Ending) (w16 : World) =>
 ∃ (b17 : Bool), e15 = Ending.returned (Value.bool b17) ∧ J4 (IntKind.i64.wrap (x6 + 1), ()) w16 ∧ J5 (IntKind.i64.wrap (x6 + 1), ()) w16 < J5 (x6, ()) w7) ∧
 (decide (x6 < (↑keysn : Int)) = false →
 Calls Proofs.Try.prog 23 #[Value.pointer a3] w7 fun (e18 : Ending) (w19 : World) =>
 ∃ (a20 : Option Addr),
 ∃ (n21 : Nat),
 ∃ (n22 : Nat),
 e18 = Ending.returned (Value.slice a20 n21 n22) ∧
 ∃ (J23 : Int × Int × Unit → World → Prop),
 ∃ (J24 : Int × Int × Unit → World → Nat),
 J23 ((↑n21 : Int), 0, ()) w19 ∧
 ∀ (x25 x26 : Int) (w27 : World),
 J23 (x25, x26, ()) w27 →
 (decide (x26 < (↑cutsn : Int)) = true →
 ∃ (ad28 : Addr),
 Gives Proofs.Try.prog (Instr.indexAt 22 (Value.slice cutsa cutsn cutsc) (Value.int IntKind.i64 x26)) (Value.pointer (some ad28)) ∧
 ∃ (x29 : Int),
 Reads Proofs.Try.prog [] (Instr.loadAt 2 (Value.pointer (some ad28))) w27 (Value.int IntKind.i64 x29) ∧
 Calls Proofs.Try.prog 24 #[Value.pointer a3, Value.int IntKind.i64 x29] w27 fun (e30 : Ending) (w31 : World) =>
 ∃ (a32 : Option Addr),
 ∃ (n33 : Nat),
 ∃ (n34 : Nat),
 e30 = Ending.returned (Value.slice a32 n33 n34) ∧
 ∃ (J35 : Unit → World → Prop),
 (∃ (J36 : Int × Int × Unit → World → Prop),
 ∃ (J37 : Int × Int × Unit → World → Nat),
 J36 (0, 0, ()) w31 ∧
 ∀ (x38 x39 : Int) (w40 : World),
 J36 (x38, x39, ()) w40 →
 (decide (x39 < (↑n33 : Int)) = true →
 ∃ (J41 : Int × Bool × Unit → World → Prop),
 (∃ (J42 : Int × Bool × Int × Unit → World → Prop),
 ∃ (J43 : Int × Bool × Int × Unit → World → Nat),
 J42 (0, false, 0, ()) w40 ∧
 ∀ (x44 : Int) (b45 : Bool) (x46 : Int) (w47 : World),
 J42 (x44, b45, x46, ()) w47 →
 (decide (x46 < (↑keysn : Int)) = true →
 ∃ (ad48 : Addr),
 Gives Proofs.Try.prog (Instr.indexAt 49 (Value.slice keysa keysn keysc) (Value.int IntKind.i64 x46))
 (Value.pointer (some ad48)) ∧
 ∃ (x49 : Int),
 ∃ (x50 : Int),
 ∃ (x51 : Int),
 Reads Proofs.Try.prog [] (Instr.loadAt 54 (Value.pointer (some ad48))) w47
 (Value.agg #[Value.int IntKind.i64 x49, Value.int IntKind.i64 x50, Value.int IntKind.i64 x51]) ∧
 ∃ (ad52 : Addr),
 Gives Proofs.Try.prog (Instr.indexAt 49 (Value.slice a32 n33 n34) (Value.int IntKind.i64 x39))
 (Value.pointer (some ad52)) ∧
 ∃ (x53 : Int),
 ∃ (x54 : Int),
 ∃ (x55 : Int),
 Reads Proofs.Try.prog [] (Instr.loadAt 54 (Value.pointer (some ad52))) w47
 (Value.agg #[Value.int IntKind.i64 x53, Value.int IntKind.i64 x54, Value.int IntKind.i64 x55]) ∧
 ((x49 == x53 && (x50 == x54 && (x51 == x55 && true))) = true →
 ∃ (ad56 : Addr),
 Gives Proofs.Try.prog
 (Instr.indexAt 22 (Value.slice timesa timesn timesc) (Value.int IntKind.i64 x46))
 (Value.pointer (some ad56)) ∧
 ∃ (x57 : Int),
 Reads Proofs.Try.prog [] (Instr.loadAt 2 (Value.pointer (some ad56))) w47
 (Value.int IntKind.i64 x57) ∧
 ∀ (w58 : World),
 Bel w47 w58 →
 J42 (x57, true, IntKind.i64.wrap (x46 + 1), ()) w58 ∧
 J43 (x57, true, IntKind.i64.wrap (x46 + 1), ()) w58 < J43 (x44, b45, x46, ()) w47) ∧
 ((x49 == x53 && (x50 == x54 && (x51 == x55 && true))) = false →
 ∀ (w59 : World),
 Bel w47 w59 →
 J42 (x44, b45, IntKind.i64.wrap (x46 + 1), ()) w59 ∧
 J43 (x44, b45, IntKind.i64.wrap (x46 + 1), ()) w59 < J43 (x44, b45, x46, ()) w47)) ∧
 (decide (x46 < (↑keysn : Int)) = false → J41 (x44, b45, ()) w47)) ∧
 ∀ (x60 : Int) (b61 : Bool) (w62 : World),
 J41 (x60, b61, ()) w62 →
 ∃ (J63 : Unit → World → Prop),
 (((!b61) = true → R (Ending.returned (Value.bool false)) w62) ∧
 ((!b61) = false →
 ∃ (ad64 : Addr),
 Gives Proofs.Try.prog (Instr.indexAt 22 (Value.slice cutsa cutsn cutsc) (Value.int IntKind.i64 x26)) (Value.pointer (some ad64)) ∧
 ∃ (x65 : Int),
 Reads Proofs.Try.prog [] (Instr.loadAt 2 (Value.pointer (some ad64))) w62 (Value.int IntKind.i64 x65) ∧
 (decide (x60 > x65) = true → R (Ending.returned (Value.bool false)) w62) ∧
 (decide (x60 > x65) = false →
 (decide (x39 > 0) = true →
 (decide (x60 < x38) = true → R (Ending.returned (Value.bool false)) w62) ∧
 (decide (x60 < x38) = false → J63 () w62)) ∧
 (decide (x39 > 0) = false → J63 () w62)))) ∧
 ∀ (w66 : World),
 J63 () w66 →
 ∃ (J67 : Int × Unit → World → Prop),
 ∃ (J68 : Int × Unit → World → Nat),
 J67 (0, ()) w66 ∧
 ∀ (x69 : Int) (w70 : World),
 J67 (x69, ()) w70 →
 (decide (x69 < x26) = true →
 ∃ (ad71 : Addr),
 Gives Proofs.Try.prog (Instr.indexAt 22 (Value.slice cutsa cutsn cutsc) (Value.int IntKind.i64 x69))
 (Value.pointer (some ad71)) ∧
 ∃ (x72 : Int),
 Reads Proofs.Try.prog [] (Instr.loadAt 2 (Value.pointer (some ad71))) w70 (Value.int IntKind.i64 x72) ∧
 (decide (x72 ≥ x60) = true → R (Ending.returned (Value.bool false)) w70) ∧
 (decide (x72 ≥ x60) = false →
 J67 (IntKind.i64.wrap (x69 + 1), ()) w70 ∧
 J68 (IntKind.i64.wrap (x69 + 1), ()) w70 < J68 (x69, ()) w70)) ∧
 (decide (x69 < x26) = false →
 J36 (x60, IntKind.i64.wrap (x39 + 1), ()) w70 ∧
 J37 (x60, IntKind.i64.wrap (x39 + 1), ()) w70 < J37 (x38, x39, ()) w40)) ∧
 (decide (x39 < (↑n33 : Int)) = false → J35 () w40)) ∧
 ∀ (w73 : World),
 J35 () w73 →
 Calls Proofs.Try.prog 23 #[Value.pointer a3] w73 fun (e74 : Ending) (w75 : World) =>
 ∃ (a76 : Option Addr),
 ∃ (n77 : Nat),
 ∃ (n78 : Nat),
 e74 = Ending.returned (Value.slice a76 n77 n78) ∧
 (((↑n77 : Int) != IntKind.i64.wrap (x25 - (↑n33 : Int))) = true → R (Ending.returned (Value.bool false)) w75) ∧
 (((↑n77 : Int) != IntKind.i64.wrap (x25 - (↑n33 : Int))) = false →
 J23 (IntKind.i64.wrap (x25 - (↑n33 : Int)), IntKind.i64.wrap (x26 + 1), ()) w75 ∧
 J24 (IntKind.i64.wrap (x25 - (↑n33 : Int)), IntKind.i64.wrap (x26 + 1), ()) w75 < J24 (x25, x26, ()) w27)) ∧
 (decide (x26 < (↑cutsn : Int)) = false →
 Calls Proofs.Try.prog 25 #[] w27 fun (e79 : Ending) (w80 : World) => ∃ (b81 : Bool), e79 = Ending.returned (Value.bool b81) ∧ R (Ending.returned (Value.bool b81)) w80)))))
theorem f6_eq (keysa : Option Addr) (keysn : Nat) (keysc : Nat) (timesa : Option Addr) (timesn : Nat) (timesc : Nat) (cutsa : Option Addr) (cutsn : Nat) (cutsc : Nat) (w : World) (R : Ending → World → Prop) : (fnF Go.Proofs.Try.prog h6 Go.Proofs.Try.f6 [Value.slice keysa keysn keysc, Value.slice timesa timesn timesc, Value.slice cutsa cutsn cutsc] w R).den = f6_vc keysa keysn keysc timesa timesn timesc cutsa cutsn cutsc w R := by kernel_rfl
theorem f6_calls (keysa : Option Addr) (keysn : Nat) (keysc : Nat) (timesa : Option Addr) (timesn : Nat) (timesc : Nat) (cutsa : Option Addr) (cutsn : Nat) (cutsc : Nat) (w : World) (R : Ending → World → Prop) (h : f6_vc keysa keysn keysc timesa timesn timesc cutsa cutsn cutsc w R) : Calls Go.Proofs.Try.prog 6 (List.toArray [Value.slice keysa keysn keysc, Value.slice timesa timesn timesc, Value.slice cutsa cutsn cutsc]) w R :=
 fn_sound (H := h6) (fn := Go.Proofs.Try.f6) (by kernel_rfl) (by kernel_rfl) (by kernel_rfl) ((f6_eq keysa keysn keysc timesa timesn timesc cutsa cutsn cutsc w R).mpr h)


/-! manciple/manciplelaw12.AlarmForgets -/
def h8 : Hints := ⟨[], [29, 49, 57, 72, 76], [18, 23, 44, 62, 79, 54, 69, 84, 90, 96, 101, 106, 111], [(17, [0, 1, 2, 3, 4, 5, 6, 7, 8, 9, 10, 11, 12, 13, 14])], [], [(5, ⟨[(8, .int .i64)], []⟩), (13, ⟨[(10, .int .i64), (12, .int .i64), (13, .int .i64)], []⟩)], [(20, ⟨[(10, .int .i64), (12, .int .i64)], []⟩), (17, ⟨[(10, .int .i64)], []⟩)], [], []⟩
def f8_vc (keysa : Option Addr) (keysn : Nat) (keysc : Nat) (what : Int) (first : Int) (w : World) (R : Ending → World → Prop) : Prop :=
 (decide ((↑keysn : Int) > 60) = true → R (Ending.returned (Value.bool true)) w) ∧
 (decide ((↑keysn : Int) > 60) = false →
 Calls Proofs.Try.prog 21 #[] w fun (e1 : Ending) (w2 : World) =>
 ∃ (a3 : Option Addr),
 e1 = Ending.returned (Value.pointer a3) ∧
 ∃ (J4 : Int × Unit → World → Prop),
 ∃ (J5 : Int × Unit → World → Nat),
 J4 (0, ()) w2 ∧
 ∀ (x6 : Int) (w7 : World),
 J4 (x6, ()) w7 →
 (decide (x6 < (↑keysn : Int)) = true →
 ∃ (ad8 : Addr),
 Gives Proofs.Try.prog (Instr.indexAt 49 (Value.slice keysa keysn keysc) (Value.int IntKind.i64 x6)) (Value.pointer (some ad8)) ∧
 ∃ (x9 : Int),
 ∃ (x10 : Int),
 ∃ (x11 : Int),
 Reads Proofs.Try.prog [] (Instr.loadAt 54 (Value.pointer (some ad8))) w7 (Value.agg #[Value.int IntKind.i64 x9, Value.int IntKind.i64 x10, Value.int IntKind.i64 x11]) ∧
 Calls Proofs.Try.prog 22 #[Value.pointer a3, Value.agg #[Value.int IntKind.i64 x9, Value.int IntKind.i64 x10, Value.int IntKind.i64 x11], Value.int IntKind.i64 x6] w7 fun (e12 : Ending) (w13 : World) =>
 ∃ (b14 : Bool), e12 = Ending.returned (Value.bool b14) ∧ J4 (IntKind.i64.wrap (x6 + 1), ()) w13 ∧ J5 (IntKind.i64.wrap (x6 + 1), ()) w13 < J5 (x6, ()) w7) ∧
 (decide (x6 < (↑keysn : Int)) = false →
 Calls Proofs.Try.prog 23 #[Value.pointer a3] w7 fun (e15 : Ending) (w16 : World) =>
 ∃ (a17 : Option Addr),
 ∃ (n18 : Nat),
 ∃ (n19 : Nat),
 e15 = Ending.returned (Value.slice a17 n18 n19) ∧
 Calls Proofs.Try.prog 31 #[Value.pointer a3, Value.int IntKind.i64 what, Value.int IntKind.i64 first] w16 fun (e20 : Ending) (w21 : World) =>
 ∃ (x22 : Int),
 e20 = Ending.returned (Value.int IntKind.i64 x22) ∧
 Calls Proofs.Try.prog 23 #[Value.pointer a3] w21 fun (e23 : Ending) (w24 : World) =>
 ∃ (a25 : Option Addr),
 ∃ (n26 : Nat),
 ∃ (n27 : Nat),
 e23 = Ending.returned (Value.slice a25 n26 n27) ∧
 ∃ (J28 : Int × Int × Unit → World → Prop),
 (∃ (J29 : Int × Int × Int × Unit → World → Prop),
 ∃ (J30 : Int × Int × Int × Unit → World → Nat),
 J29 (x22, 0, 0, ()) w24 ∧
 ∀ (x31 x32 x33 : Int) (w34 : World),
 J29 (x31, x32, x33, ()) w34 →
 (decide (x33 < (↑n18 : Int)) = true →
 ∃ (J35 : Int × Unit → World → Prop),
 (∃ (ad36 : Addr),
 Gives Proofs.Try.prog (Instr.indexAt 49 (Value.slice a17 n18 n19) (Value.int IntKind.i64 x33)) (Value.pointer (some ad36)) ∧
 ∃ (x37 : Int),
 Reads Proofs.Try.prog [] (Instr.loadAt 3 (Value.pointer (some ad36))) w34 (Value.int IntKind.i64 x37) ∧
 ((x37 == what) = true →
 ∃ (ad38 : Addr),
 Gives Proofs.Try.prog (Instr.indexAt 49 (Value.slice a17 n18 n19) (Value.int IntKind.i64 x33)) (Value.pointer (some ad38)) ∧
 ∃ (x39 : Int),
 Reads Proofs.Try.prog [] (Instr.loadAt 2 (Value.pointer (some (Addr.mk ad38.block (ad38.off + 1) none)))) w34 (Value.int IntKind.i64 x39) ∧
 ((x39 == first) = true →
 J29 (IntKind.i64.wrap (x31 - 1), x32, IntKind.i64.wrap (x33 + 1), ()) w34 ∧
 J30 (IntKind.i64.wrap (x31 - 1), x32, IntKind.i64.wrap (x33 + 1), ()) w34 < J30 (x31, x32, x33, ()) w34) ∧
 ((x39 == first) = false → J35 (x31, ()) w34)) ∧
 ((x37 == what) = false → J35 (x31, ()) w34)) ∧
 ∀ (x40 : Int) (w41 : World),
 J35 (x40, ()) w41 →
 (decide (x32 ≥ (↑n26 : Int)) = true → ∀ (w42 : World), Bel w41 w42 → R (Ending.returned (Value.bool false)) w42) ∧
 (decide (x32 ≥ (↑n26 : Int)) = false →
 ∃ (ad43 : Addr),
 Gives Proofs.Try.prog (Instr.indexAt 49 (Value.slice a25 n26 n27) (Value.int IntKind.i64 x32)) (Value.pointer (some ad43)) ∧
 ∃ (x44 : Int),
 ∃ (x45 : Int),
 ∃ (x46 : Int),
 Reads Proofs.Try.prog [] (Instr.loadAt 54 (Value.pointer (some ad43))) w41
 (Value.agg #[Value.int IntKind.i64 x44, Value.int IntKind.i64 x45, Value.int IntKind.i64 x46]) ∧
 ∃ (ad47 : Addr),
 Gives Proofs.Try.prog (Instr.indexAt 49 (Value.slice a17 n18 n19) (Value.int IntKind.i64 x33)) (Value.pointer (some ad47)) ∧
 ∃ (x48 : Int),
 ∃ (x49 : Int),
 ∃ (x50 : Int),
 Reads Proofs.Try.prog [] (Instr.loadAt 54 (Value.pointer (some ad47))) w41
 (Value.agg #[Value.int IntKind.i64 x48, Value.int IntKind.i64 x49, Value.int IntKind.i64 x50]) ∧
 ((!(x44 == x48 && (x45 == x49 && (x46 == x50 && true)))) = true →
 ∀ (w51 : World), Bel w41 w51 → R (Ending.returned (Value.bool false)) w51) ∧
 ((!(x44 == x48 && (x45 == x49 && (x46 == x50 && true)))) = false →
 ∀ (w52 : World),
 Bel w41 w52 →
 J29 (x40, IntKind.i64.wrap (x32 + 1), IntKind.i64.wrap (x33 + 1), ()) w52 ∧
 J30 (x40, IntKind.i64.wrap (x32 + 1), IntKind.i64.wrap (x33 + 1), ()) w52 < J30 (x31, x32, x33, ()) w34))) ∧
 (decide (x33 < (↑n18 : Int)) = false → J28 (x31, x32, ()) w34)) ∧
 ∀ (x53 x54 : Int) (w55 : World),
 J28 (x53, x54, ()) w55 →
 OpW Proofs.Try.prog (valueS (Instr.alloc 76 true (Value.tuple #[]))) w55 fun (v56 : Value) (w57 : World) =>
 ∃ (ad58 : Addr),
 v56 = Value.pointer (some ad58) ∧
 ((x53 == 0) = true →
 ((x54 == (↑n26 : Int)) = true →
 Calls Proofs.Try.prog 22 #[Value.pointer none, Value.agg #[Value.int IntKind.i64 0, Value.int IntKind.i64 0, Value.int IntKind.i64 0], Value.int IntKind.i64 1] w57
 fun (e59 : Ending) (w60 : World) =>
 ∃ (b61 : Bool),
 e59 = Ending.returned (Value.bool b61) ∧
 ((!b61) = true →
 Calls Proofs.Try.prog 31 #[Value.pointer none, Value.int IntKind.i64 0, Value.int IntKind.i64 0] w60 fun (e62 : Ending) (w63 : World) =>
 ∃ (x64 : Int),
 e62 = Ending.returned (Value.int IntKind.i64 x64) ∧
 ((x64 == 0) = true →
 Calls Proofs.Try.prog 22
 #[Value.pointer (some ad58), Value.agg #[Value.int IntKind.i64 0, Value.int IntKind.i64 0, Value.int IntKind.i64 0], Value.int IntKind.i64 1] w63
 fun (e65 : Ending) (w66 : World) =>
 ∃ (b67 : Bool),
 e65 = Ending.returned (Value.bool b67) ∧
 ((!b67) = true →
 Calls Proofs.Try.prog 24 #[Value.pointer (some ad58), Value.int IntKind.i64 9] w66 fun (e68 : Ending) (w69 : World) =>
 ∃ (a70 : Option Addr),
 ∃ (n71 : Nat),
 ∃ (n72 : Nat),
 e68 = Ending.returned (Value.slice a70 n71 n72) ∧
 (((↑n71 : Int) == 0) = true →
 Calls Proofs.Try.prog 25 #[] w69 fun (e73 : Ending) (w74 : World) =>
 ∃ (b75 : Bool), e73 = Ending.returned (Value.bool b75) ∧ R (Ending.returned (Value.bool b75)) w74) ∧
 (((↑n71 : Int) == 0) = false → R (Ending.returned (Value.bool false)) w69)) ∧
 ((!b67) = false → R (Ending.returned (Value.bool false)) w66)) ∧
 ((x64 == 0) = false → R (Ending.returned (Value.bool false)) w63)) ∧
 ((!b61) = false → R (Ending.returned (Value.bool false)) w60)) ∧
 ((x54 == (↑n26 : Int)) = false → R (Ending.returned (Value.bool false)) w57)) ∧
 ((x53 == 0) = false → R (Ending.returned (Value.bool false)) w57)))
theorem f8_eq (keysa : Option Addr) (keysn : Nat) (keysc : Nat) (what : Int) (first : Int) (w : World) (R : Ending → World → Prop) : (fnF Go.Proofs.Try.prog h8 Go.Proofs.Try.f8 [Value.slice keysa keysn keysc, Value.int IntKind.i64 what, Value.int IntKind.i64 first] w R).den = f8_vc keysa keysn keysc what first w R := by kernel_rfl
theorem f8_calls (keysa : Option Addr) (keysn : Nat) (keysc : Nat) (what : Int) (first : Int) (w : World) (R : Ending → World → Prop) (h : f8_vc keysa keysn keysc what first w R) : Calls Go.Proofs.Try.prog 8 (List.toArray [Value.slice keysa keysn keysc, Value.int IntKind.i64 what, Value.int IntKind.i64 first]) w R :=
 fn_sound (H := h8) (fn := Go.Proofs.Try.f8) (by kernel_rfl) (by kernel_rfl) (by kernel_rfl) ((f8_eq keysa keysn keysc what first w R).mpr h)

end Vcc

/- The law of AlarmPlays. -/
set_option maxRecDepth 20000
set_option maxHeartbeats 1000000
namespace Go.Vc.A
open Go Go.Vc Go.RowKit Go.Proofs Go.Vc.H Vcc

variable {w W W' : World} {M N F F' : Nat → Prop} {gs : List Nat} {g : Nat} {L : List Im} {m : Nat} {q : Int}

abbrev Ac := Int × Ky × Int
abbrev acE (x : Ac) : List Value := [.int .i64 x.1, .int .i64 x.2.1.1, .int .i64 x.2.1.2.1, .int .i64 x.2.1.2.2, .int .i64 x.2.2]

theorem doesL_len (k : Ky) (kind at' : Int) (L : List Im) : (doesL k kind at' L).length ≤ L.length + 1 := by
  unfold doesL
  split
  · exact setL_len _ _
  · split
    · exact Nat.le_succ_of_le (List.length_filter_le ..)
    · split
      · exact Nat.le_succ_of_le (List.length_filter_le ..)
      · exact Nat.le_succ_of_le (List.length_filter_le ..)

theorem law7 {acts : List Ac} {a : Option Addr} {n c : Nat} (w : World) (hs : SlE w 5 acE acts a n c) : Ret Try.prog 7 #[.slice a n c] w (.bool true) := by
  intro R h
  refine f7_calls _ _ _ w R ?_
  unfold f7_vc
  have hn := hs.len_le.1
  refine brD (fun _ => leaf h (At.refl w) rfl) (fun hle => ?_)
  refine at_newT (At.refl w) fun g F w2 hA _ hb2 H hF => ⟨_, rfl, ?_⟩
  refine ⟨fun v W => ∃ i : Nat, v.2.1 = i ∧ i ≤ n ∧ At w [] W ∧ ∃ L m q F, AlT w W g L m q F ∧ SlE W 4 imE L v.1.1 v.1.2.1 v.1.2.2 ∧ (∀ b, v.1.1 = some b → ¬ F b.block ∧ b.block < W.heap.size) ∧ L.length ≤ i ∧ m ≤ i ∧ q ≤ 2000000 * i, fun v _ => (n - v.2.1).toNat,
    ⟨0, rfl, by omega, hA, [], 0, 0, F, H, ⟨rfl, Nat.le_refl _, Nat.zero_le _, fun _ => rfl, fun i x hx => by simp at hx⟩, (fun b e => by cases e), by simp, by omega, by simp⟩, ?_⟩
  rintro a6 n7 n8 x9 w10 ⟨i, hi, hin, hA, L, m, q, F, H, hsL, hap, hLi, hmi, hqi⟩
  simp only at hi hsL hap
  subst hi
  have hnL := hsL.len_le.1
  subst hnL
  refine brD (fun hlt => ?_) (fun hge => ?_)
  · obtain ⟨x, hx⟩ : ∃ x, acts[i]? = some x := ⟨_, List.getElem?_eq_getElem (by omega)⟩
    obtain ⟨kind, k, at'⟩ := x
    have rd : ∀ {W : World}, At w [] W → ∃ ad, Gives Try.prog (Instr.indexAt 58 (.slice a n c) (.int .i64 (i : Int))) (.pointer (some ad)) ∧ Elt W ad (acE (kind, k, at')) := fun hA => by
      obtain ⟨ad, g1, el, _⟩ := elt_at (P := Try.prog) (k := .i64) (t := 58) (hs.call hA.below) hx (e := 63) (by kernel_rfl) (by kernel_rfl)
      exact ⟨ad, g1, el⟩
    obtain ⟨ad, g1, el⟩ := rd hA
    refine ⟨ad, g1, _, _, _, _, _, el.agg 5 (by kernel_rfl) (by kernel_rfl) (by simp) (by simp), ?_⟩
    refine at_does k kind at' hA H hsL hap (by omega) (by omega) (by omega) fun a19 c19 F' w18 hA H hsL hap => ⟨_, _, _, _, rfl, brB (fun e => by cases e) (fun _ => ?_)⟩
    have hL' := doesL_len k kind at' L
    generalize doesL k kind at' L = L' at H hsL hL' ⊢
    obtain ⟨ad, g1, el⟩ := rd hA
    refine ⟨ad, g1, _, _, _, (el.sub (o := 1) (by decide)).agg 3 (by kernel_rfl) (by kernel_rfl) (by simp) (by simp), ?_⟩
    obtain ⟨x29, b30, hat⟩ : ∃ x29 b30, atT (mget k L') = .tuple #[.int .i64 x29, .bool b30] := by
      cases mget k L' with
      | none => exact ⟨_, _, rfl⟩
      | some t => exact ⟨_, _, rfl⟩
    refine at_callb hA (ret_at H k) fun w28 hA _ hb28 => ⟨x29, b30, by rw [hat], ?_⟩
    have H := H.call hb28
    have hsL := hsL.call hb28
    obtain ⟨ad, g1, el⟩ := rd hA
    refine ⟨ad, g1, _, _, _, (el.sub (o := 1) (by decide)).agg 3 (by kernel_rfl) (by kernel_rfl) (by simp) (by simp), ?_⟩
    refine at_callb hA (c29 k w28) fun w36 hA _ hb36 => ⟨_, _, _, rfl, ?_⟩
    have H := H.call hb36
    have hsL := hsL.call hb36
    refine at_callb hA (c28 k w36 hsL (by omega)) fun w41 hA _ hb41 => ⟨_, rfl, ?_⟩
    have H := H.call hb41
    have hsL := hsL.call hb41
    refine at_allT hA H (by omega) fun a45 c45 w44 hA _ hb44 H _ hsk _ => ⟨_, _, _, rfl, ?_⟩
    have hsL := hsL.call hb44
    refine at_callb hA (c30 w44 hsk hsL (by omega)) fun w49 hA _ hb49 => ⟨_, rfl, ?_⟩
    have H := H.call hb49
    have hsL := hsL.call hb49
    rw [decide_eq_true rfl]
    refine brB (fun e => by cases e) (fun _ => ?_)
    have hap' : ∀ b, a19 = some b → ¬ F' b.block ∧ b.block < w49.heap.size := fun b e => ⟨(hap b e).1, Nat.lt_of_lt_of_le (hap b e).2 (((hb28.trans hb36).trans (hb41.trans hb44)).trans hb49).size⟩
    have next : (∃ i' : Nat, IntKind.i64.wrap ((i : Int) + 1) = i' ∧ i' ≤ n ∧ At w [] w49 ∧ ∃ L m q F, AlT w w49 g L m q F ∧ SlE w49 4 imE L a19 L'.length c19 ∧ (∀ b, a19 = some b → ¬ F b.block ∧ b.block < w49.heap.size) ∧ L.length ≤ i' ∧ m ≤ i' ∧ q ≤ 2000000 * i') ∧ ((n : Int) - IntKind.i64.wrap ((i : Int) + 1)).toNat < ((n : Int) - (i : Int)).toNat := by
      rw [succ_i64 i (by omega)]
      exact ⟨⟨i + 1, rfl, by omega, hA, L', m + 1, q + 2000000, F', H, hsL, hap', by omega, by omega, by omega⟩, by omega⟩
    cases hm : mget k L' with
    | none =>
      have hp : plcK k L' = -1 := by
        rcases plcK_cases k L' with ⟨e, _⟩ | ⟨i, t, e, hi, hm'⟩
        · exact e
        · rw [hm] at hm'; cases hm'
      rw [hm] at hat
      simp only [atT, Value.tuple.injEq, Array.mk.injEq, List.cons.injEq, Value.int.injEq, Value.bool.injEq, true_and, and_true] at hat
      obtain ⟨rfl, rfl⟩ := hat
      rw [hp]
      refine brB (fun e => absurd e (by decide)) (fun _ => ⟨fun e => by (first | cases e | simp at e), fun _ => brB (fun _ => brN (fun e => absurd rfl e) (fun _ => next)) (fun e => by cases e)⟩)
    | some t =>
      obtain ⟨i', hp, hi'⟩ : ∃ i' : Nat, plcK k L' = i' ∧ L'[i']? = some (k, t) := by
        rcases plcK_cases k L' with ⟨e, hm'⟩ | ⟨i, t', e, hi, hm'⟩
        · rw [hm] at hm'; cases hm'
        · rw [hm] at hm'; cases hm'; exact ⟨i, e, hi⟩
      rw [hm] at hat
      simp only [atT, Value.tuple.injEq, Array.mk.injEq, List.cons.injEq, Value.int.injEq, Value.bool.injEq, true_and, and_true] at hat
      obtain ⟨rfl, rfl⟩ := hat
      rw [hp]
      obtain ⟨ad, g1, el, _⟩ := elt_at (P := Try.prog) (k := .i64) (t := 59) hsL hi' (e := 70) (by kernel_rfl) (by kernel_rfl)
      refine brB (fun e => by simp at e) (fun _ => ⟨fun _ => ⟨ad, g1, _, (el.sub (o := 3) (by decide)).one (by kernel_rfl) (by simp), brN (fun e => absurd rfl e) (fun _ => brB (fun e => by cases e) (fun _ => next))⟩, fun e => by (first | cases e | simp at e)⟩)
  · exact at_callb hA (c25 w10) fun w54 hA _ _ => ⟨_, rfl, leaf h hA rfl⟩
end Go.Vc.A

/- The law of AlarmForgets. -/
set_option maxRecDepth 20000
set_option maxHeartbeats 1000000
namespace Go.Vc.A
open Go Go.Vc Go.RowKit Go.Proofs Go.Vc.H Vcc

variable {w W W' : World} {M N F F' : Nat → Prop} {gs : List Nat} {g : Nat} {L : List Im} {m : Nat} {q : Int}

theorem c40nil (W : World) : Ret Try.prog 40 #[.pointer none] W (.bool false) := by
  intro R h
  refine f40_calls _ W R ?_
  unfold f40_vc
  exact ⟨false, (fun W => rfl), brB (fun e => by cases e) (fun _ => leaf h (At.refl W) rfl)⟩
abbrev plC : List Value := [.pointer none, .map none, .map none, .int .i64 0]
theorem c40pl {b : Nat} (hb : W.heap[b]? = some (.cells plC.toArray 76 (0, 0))) : Ret Try.prog 40 #[alV b] W (.bool false) := by
  intro R h
  refine f40_calls _ W R ?_
  unfold f40_vc
  exact ⟨true, (fun W => rfl), brB (fun _ => ⟨_, rfl, _, rd_f0 hb (by kernel_rfl) (by simp), false, (fun W => rfl), leaf h (At.refl W) rfl⟩) (fun e => by cases e)⟩
theorem n22 {a : Option Addr} (h40 : ∀ W', Bel W W' → Ret Try.prog 40 #[.pointer a] W' (.bool false)) (k : Ky) (t : Int) : Ret Try.prog 22 #[.pointer a, kyV k, .int .i64 t] W (.bool false) := by
  intro R h
  refine f22_calls _ k.1 k.2.1 k.2.2 t W R ?_
  unfold f22_vc
  intro n1 _
  refine go_below (gs' := [n1]) (At.refl W) fun w2 hA => ?_
  exact at_callb hA (h40 w2 hA.below) fun w4 hA hk _ => ⟨_, rfl, hk, brB (fun _ => leaf h hA rfl) (fun e => by cases e)⟩
theorem n31 {a : Option Addr} (h40 : ∀ W', Bel W W' → Ret Try.prog 40 #[.pointer a] W' (.bool false)) (x y : Int) : Ret Try.prog 31 #[.pointer a, .int .i64 x, .int .i64 y] W (.int .i64 0) := by
  intro R h
  refine f31_calls _ x y W R ?_
  unfold f31_vc
  exact at_callb (At.refl W) (h40 W (At.refl W).below) fun w4 hA hk _ => ⟨_, rfl, brB (fun _ => leaf h hA rfl) (fun e => by cases e)⟩
theorem n24 {a : Option Addr} (h40 : ∀ W', Bel W W' → Ret Try.prog 40 #[.pointer a] W' (.bool false)) (x : Int) : Ret Try.prog 24 #[.pointer a, .int .i64 x] W (.slice none 0 0) := by
  intro R h
  refine f24_calls _ x W R ?_
  unfold f24_vc
  exact at_callb (At.refl W) (h40 W (At.refl W).below) fun w4 hA hk _ => ⟨_, rfl, brB (fun _ => leaf h hA rfl) (fun e => by cases e)⟩

theorem filter_at {α : Type} {p : α → Bool} {l : List α} {i : Nat} {x : α} (hx : l[i]? = some x) (hp : p x = true) : (l.filter p)[((l.take i).filter p).length]? = some x := by
  have e : l = l.take i ++ x :: l.drop (i + 1) := by
    conv => lhs; rw [← List.take_append_drop i l, drop_next hx]
  have e2 : l.filter p = (l.take i).filter p ++ x :: (l.drop (i + 1)).filter p := by
    conv => lhs; rw [e, List.filter_append, List.filter_cons, if_pos hp]
  rw [e2, List.getElem?_append_right (Nat.le_refl _), Nat.sub_self]; rfl
theorem filter_next {α : Type} {p : α → Bool} {l : List α} {i : Nat} {x : α} (hx : l[i]? = some x) : ((l.take (i + 1)).filter p).length = ((l.take i).filter p).length + (if p x then 1 else 0) := by
  rw [take_next hx, List.filter_append, List.length_append, List.filter_cons]
  cases p x <;> simp
theorem filter_le {α : Type} {p : α → Bool} {l : List α} (i : Nat) : ((l.take i).filter p).length ≤ (l.filter p).length := ((List.take_sublist i l).filter p).length_le
theorem filter_two {α : Type} (p : α → Bool) (l : List α) : (l.filter p).length + (l.filter fun x => !p x).length = l.length := by
  induction l with
  | nil => rfl
  | cons x l ih =>
    rw [List.filter_cons, List.filter_cons]
    cases p x <;> simp <;> omega

theorem law8 {keys : List Ky} {a : Option Addr} {n c : Nat} (what first : Int) (w : World) (hs : SlE w 3 kyE keys a n c) : Ret Try.prog 8 #[.slice a n c, .int .i64 what, .int .i64 first] w (.bool true) := by
  intro R h
  refine f8_calls _ _ _ what first w R ?_
  unfold f8_vc
  have hn := hs.len_le.1
  refine brD (fun _ => leaf h (At.refl w) rfl) (fun hle => ?_)
  refine at_newT (At.refl w) fun g F w2 hA _ hb2 H hF => ⟨_, rfl, ?_⟩
  refine ⟨fun v W => ∃ i : Nat, v.1 = i ∧ i ≤ n ∧ At w [] W ∧ ∃ L m q F, AlT w W g L m q F ∧ L.length ≤ i ∧ m ≤ i ∧ q ≤ 2000000 * i, fun v _ => (n - v.1).toNat,
    ⟨0, rfl, by omega, hA, [], 0, 0, F, H, by simp, by omega, by simp⟩, ?_⟩
  rintro x6 w7 ⟨i, hi, hin, hA, L, m, q, F, H, hLi, hmi, hqi⟩
  simp only at hi
  subst hi
  refine brD (fun hlt => ?_) (fun hge => ?_)
  · obtain ⟨x, hx⟩ : ∃ x, keys[i]? = some x := ⟨_, List.getElem?_eq_getElem (by omega)⟩
    obtain ⟨ad, g1, el, _⟩ := elt_at (P := Try.prog) (k := .i64) (t := 49) (hs.call hA.below) hx (e := 54) (by kernel_rfl) (by kernel_rfl)
    refine ⟨ad, g1, _, _, _, el.agg 3 (by kernel_rfl) (by kernel_rfl) (by simp) (by simp), ?_⟩
    refine at_setT hA H (by simp) (by omega) (by omega) (by omega) x i fun F' w13 hA _ _ H _ => ⟨_, rfl, ?_⟩
    have := setL_len (x, (i : Int)) L
    rw [succ_i64 i (by omega)]
    exact ⟨⟨i + 1, rfl, by omega, hA, _, _, _, _, H, by omega, by omega, by omega⟩, by simp only; omega⟩
  refine at_allT hA H (by omega) fun a17 c17 w16 hA _ hb16 H ho17 hs17 hf17 => ⟨_, _, _, rfl, ?_⟩
  have hlt17 := H.lt
  refine at_fgtT hA H (by simp) (by omega) (by omega) what first fun F' w21 hA _ hch H hF' => ⟨_, rfl, ?_⟩
  have hs17 := hs17.chg hch fun b e hf => by
    have h1 := hf17 b e
    have := ‹AlT w w7 g L m q F›.lt _ hf
    omega
  have hfl : (fgtL what first L).length ≤ L.length := List.length_filter_le ..
  refine at_allT hA H (by omega) fun a25 c25 w24 hA _ hb24 _ ho25 hs25 _ => ⟨_, _, _, rfl, ?_⟩
  have hs17 := hs17.call hb24
  have hkk : (fgtL what first L).map (·.1) = (L.map (·.1)).filter fun k => !fgt what first k := by
    unfold fgtL
    rw [List.filter_map]; rfl
  have hnl : ((L.map (·.1)).filter fun k => !fgt what first k).length = (fgtL what first L).length := by rw [← hkk, List.length_map]
  rw [hkk] at hs25
  have h2 := filter_two (fgt what first) (L.map (·.1))
  rw [hnl, List.length_map] at h2
  generalize hK : L.map (·.1) = ks at hs17 hs25 hnl h2
  have hkl : ks.length = L.length := by rw [← hK, List.length_map]
  generalize hNF : (fgtL what first L).length = nf at hs25 hnl h2 hfl ⊢
  refine ⟨fun v W => v.1 = 0 ∧ v.2.1 = nf ∧ At w [] W, ⟨?_, ?_⟩⟩
  · refine ⟨fun v W => ∃ j : Nat, v.2.2.1 = j ∧ j ≤ ks.length ∧ v.1 = ((ks.filter (fgt what first)).length : Int) - ((ks.take j).filter (fgt what first)).length ∧ v.2.1 = ((ks.take j).filter fun k => !fgt what first k).length ∧ At w [] W ∧ Bel w24 W, fun v _ => (ks.length - v.2.2.1).toNat, ⟨0, rfl, by omega, by simp; omega, by simp, hA, (At.refl w24).below⟩, ?_⟩
    rintro x31 x32 x33 w34 ⟨j, hj, hjl, e1, e2, hA, hb⟩
    simp only at hj e1 e2
    subst hj e1 e2
    have hs17 := hs17.call hb
    have hs25 := hs25.call hb
    refine brD (fun hlt => ?_) (fun hge => ?_)
    · obtain ⟨k, hk⟩ : ∃ x, ks[j]? = some x := ⟨_, List.getElem?_eq_getElem (by omega)⟩
      obtain ⟨ad, g1, el, _⟩ := elt_at (P := Try.prog) (k := .i64) (t := 49) hs17 hk (e := 54) (by kernel_rfl) (by kernel_rfl)
      have f1 := filter_next (p := fgt what first) hk
      have f2 := filter_next (p := fun k => !fgt what first k) hk
      have f3 := filter_le (p := fgt what first) (l := ks) (j + 1)
      have f4 := filter_le (p := fun k => !fgt what first k) (l := ks) (j + 1)
      refine ⟨fun v W => fgt what first k = false ∧ v.1 = ((ks.filter (fgt what first)).length : Int) - ((ks.take j).filter (fgt what first)).length ∧ At w [] W ∧ Bel w24 W, ⟨⟨ad, g1, _, el.one (by kernel_rfl) (by simp), brE (fun hw => ⟨ad, g1, _, (el.sub (o := 1) (by decide)).one (by kernel_rfl) (by simp), brE (fun hf => ?_) (fun hf => ⟨by simp [fgt, hf], rfl, hA, hb⟩)⟩) (fun hw => ⟨by simp [fgt, hw], rfl, hA, hb⟩)⟩, ?_⟩⟩
      · have hft : fgt what first k = true := by simp [fgt, hw, hf]
        rw [hft] at f1 f2
        simp only [if_true, Bool.not_true, Bool.false_eq_true, if_false, Nat.add_zero] at f1 f2
        have e3 : IntKind.i64.wrap (((ks.filter (fgt what first)).length : Int) - ((ks.take j).filter (fgt what first)).length - 1) = ((ks.filter (fgt what first)).length : Int) - ((ks.take (j + 1)).filter (fgt what first)).length := by
          rw [wrap_i64 (by omega) (by omega)]; omega
        rw [e3, succ_i64 j (by omega)]
        exact ⟨⟨j + 1, rfl, by omega, rfl, by simp only; rw [f2], hA, hb⟩, by simp only; omega⟩
      · rintro x40 w41 ⟨hft, e1, hA, hb⟩
        simp only at e1
        subst e1
        rw [hft] at f1 f2
        simp only [if_true, Bool.not_false, Bool.false_eq_true, if_false, Nat.add_zero] at f1 f2
        have hs17 := ‹SlE w24 3 kyE ks a17 L.length c17›.call hb
        have hs25 := ‹SlE w24 3 kyE (ks.filter fun k => !fgt what first k) a25 nf c25›.call hb
        have hat := filter_at (p := fun k => !fgt what first k) hk (by simp [hft])
        obtain ⟨ad2, g2, el2, _⟩ := elt_at (P := Try.prog) (k := .i64) (t := 49) hs25 hat (e := 54) (by kernel_rfl) (by kernel_rfl)
        obtain ⟨ad, g1, el, _⟩ := elt_at (P := Try.prog) (k := .i64) (t := 49) hs17 hk (e := 54) (by kernel_rfl) (by kernel_rfl)
        refine brD (fun hge => by omega) (fun _ => ⟨ad2, g2, _, _, _, el2.agg 3 (by kernel_rfl) (by kernel_rfl) (by simp) (by simp), ad, g1, _, _, _, el.agg 3 (by kernel_rfl) (by kernel_rfl) (by simp) (by simp), ?_⟩)
        rw [key_cond k k]
        refine brND (fun e => absurd rfl e) (fun _ => go_below0_too hA fun w52 hA hb2 => ?_)
        rw [succ_i64 j (by omega), succ_i64 _ (by omega)]
        exact ⟨⟨j + 1, rfl, by omega, by simp only; rw [f1], by simp only; rw [f2], hA, hb.trans hb2⟩, by simp only; omega⟩
    · have hje : j = ks.length := by omega
      subst hje
      rw [List.take_length]
      exact ⟨by simp only; omega, by simp only; rw [hnl], hA⟩
  · rintro x53 x54 w55 ⟨e1, e2, hA⟩
    simp only at e1 e2
    subst e1 e2
    refine opw_allocS plC (zv := .agg plC.toArray) (by kernel_rfl) rfl hA fun b w57 hbe hA _ _ hblk => ⟨_, rfl, ?_⟩
    have pl : ∀ {W}, Bel w57 W → Ret Try.prog 40 #[alV b] W (.bool false) := fun hb => c40pl (by rw [hb.block (Array.getElem?_eq_some_iff.1 hblk).1, hblk])
    refine brE (fun _ => brE (fun _ => ?_) (fun e => absurd rfl e)) (fun e => absurd rfl e)
    refine at_callb hA (n22 (fun W' _ => c40nil W') (0, 0, 0) 1) fun w60 hA _ hb60 => ⟨_, rfl, brB (fun _ => ?_) (fun e => by cases e)⟩
    refine at_callb hA (n31 (fun W' _ => c40nil W') 0 0) fun w63 hA _ hb63 => ⟨_, rfl, brE (fun _ => ?_) (fun e => absurd rfl e)⟩
    refine at_callb hA (n22 (fun W' hb => pl ((hb60.trans hb63).trans hb)) (0, 0, 0) 1) fun w66 hA _ hb66 => ⟨_, rfl, brB (fun _ => ?_) (fun e => by cases e)⟩
    refine at_callb hA (n24 (fun W' hb => pl ((hb60.trans (hb63.trans hb66)).trans hb)) 9) fun w69 hA _ _ => ⟨_, _, _, rfl, brE (fun _ => ?_) (fun e => absurd rfl e)⟩
    exact at_callb hA (Go.Vc.A.c25 w69) fun w74 hA _ _ => ⟨_, rfl, leaf h hA rfl⟩
end Go.Vc.A

/- The law of AlarmCuts. -/
set_option maxRecDepth 20000
set_option maxHeartbeats 1000000
namespace Go.Vc.A
open Go Go.Vc Go.RowKit Go.Proofs Go.Vc.H Vcc

variable {w W W' : World} {M N F F' : Nat → Prop} {gs : List Nat} {g : Nat} {L : List Im} {m : Nat} {q : Int}

/-- The time that a key was last set to, in the first rounds. -/
def fvL (ks : List Ky) (ts : List Int) (k : Ky) : Nat → Option Int
  | 0 => none
  | i + 1 => if ks[i]? = some k then ts[i]? else fvL ks ts k i
theorem fvL_next {ks : List Ky} {ts : List Int} {x : Ky} {t : Int} {i : Nat} (hx : ks[i]? = some x) (ht : ts[i]? = some t) (k : Ky) : fvL ks ts k (i + 1) = if k = x then some t else fvL ks ts k i := by
  rw [fvL, hx, ht]
  by_cases h : k = x
  · subst h; simp
  · rw [if_neg h, if_neg fun e => h (Option.some.inj e).symm]

theorem law6 {keys : List Ky} {ts cuts : List Int} {a a2 a3 : Option Addr} {n c n2 c2 n3 c3 : Nat} (w : World) (hs : SlE w 3 kyE keys a n c) (ht : SlE w 1 (fun x => [Value.int .i64 x]) ts a2 n2 c2) (hc : SlE w 1 (fun x => [Value.int .i64 x]) cuts a3 n3 c3) :
    Ret Try.prog 6 #[.slice a n c, .slice a2 n2 c2, .slice a3 n3 c3] w (.bool true) := by
  intro R h
  refine f6_calls _ _ _ _ _ _ _ _ _ w R ?_
  unfold f6_vc
  have hn := hs.len_le.1
  have hn2 := ht.len_le.1
  have hn3 := hc.len_le.1
  refine brD (fun _ => leaf h (At.refl w) rfl) (fun hle => brD (fun _ => leaf h (At.refl w) rfl) (fun hle2 => brD (fun _ => leaf h (At.refl w) rfl) (fun hle3 => ?_)))
  refine at_newT (At.refl w) fun g F w2 hA _ hb2 H hF => ⟨_, rfl, ?_⟩
  have rdK : ∀ {W : World} {i : Nat} {x : Ky}, At w [] W → keys[i]? = some x → ∃ ad, Gives Try.prog (Instr.indexAt 49 (.slice a n c) (.int .i64 (i : Int))) (.pointer (some ad)) ∧ Elt W ad (kyE x) := fun hA hx => by
    obtain ⟨ad, g1, el, _⟩ := elt_at (P := Try.prog) (k := .i64) (t := 49) (hs.call hA.below) hx (e := 54) (by kernel_rfl) (by kernel_rfl)
    exact ⟨ad, g1, el⟩
  have rdT : ∀ {W : World} {i : Nat} {x : Int}, At w [] W → ts[i]? = some x → ∃ ad, Gives Try.prog (Instr.indexAt 22 (.slice a2 n2 c2) (.int .i64 (i : Int))) (.pointer (some ad)) ∧ Elt W ad [.int .i64 x] := fun hA hx => by
    obtain ⟨ad, g1, el, _⟩ := elt_at (P := Try.prog) (k := .i64) (t := 22) (ht.call hA.below) hx (e := 2) (by kernel_rfl) (by kernel_rfl)
    exact ⟨ad, g1, el⟩
  have rdC : ∀ {W : World} {i : Nat} {x : Int}, At w [] W → cuts[i]? = some x → ∃ ad, Gives Try.prog (Instr.indexAt 22 (.slice a3 n3 c3) (.int .i64 (i : Int))) (.pointer (some ad)) ∧ Elt W ad [.int .i64 x] := fun hA hx => by
    obtain ⟨ad, g1, el, _⟩ := elt_at (P := Try.prog) (k := .i64) (t := 22) (hc.call hA.below) hx (e := 2) (by kernel_rfl) (by kernel_rfl)
    exact ⟨ad, g1, el⟩
  refine ⟨fun v W => ∃ i : Nat, v.1 = i ∧ i ≤ n ∧ At w [] W ∧ ∃ L m q F, AlT w W g L m q F ∧ L.length ≤ i ∧ m ≤ i ∧ q ≤ 2000000 * i ∧ ∀ k, mget k L = fvL keys ts k i, fun v _ => (n - v.1).toNat,
    ⟨0, rfl, by omega, hA, [], 0, 0, F, H, by simp, by omega, by simp, fun _ => rfl⟩, ?_⟩
  rintro x6 w7 ⟨i, hi, hin, hA, L, m, q, F, H, hLi, hmi, hqi, hfv⟩
  simp only at hi
  subst hi
  refine brD (fun hlt => ?_) (fun hge => ?_)
  · obtain ⟨x, hx⟩ : ∃ x, keys[i]? = some x := ⟨_, List.getElem?_eq_getElem (by omega)⟩
    obtain ⟨t, htx⟩ : ∃ x, ts[i]? = some x := ⟨_, List.getElem?_eq_getElem (by omega)⟩
    obtain ⟨ad, g1, el⟩ := rdK hA hx
    obtain ⟨ad2, g2, el2⟩ := rdT hA htx
    refine ⟨ad, g1, _, _, _, el.agg 3 (by kernel_rfl) (by kernel_rfl) (by simp) (by simp), ad2, g2, _, el2.one (by kernel_rfl) (by simp), go_below0_too hA fun w14 hA hb => ?_⟩
    refine at_setT hA (H.call hb) (by simp) (by omega) (by omega) (by omega) x t fun F' w16 hA _ _ H _ => ⟨_, rfl, ?_⟩
    have := setL_len (x, t) L
    rw [succ_i64 i (by omega)]
    exact ⟨⟨i + 1, rfl, by omega, hA, _, _, _, _, H, by omega, by omega, by omega, fun k => by rw [mget_setL, fvL_next hx htx, hfv]⟩, by simp only; omega⟩
  have hin' : i = n := by omega
  subst hin'
  refine at_allT hA H (by omega) fun a20 c20 w19 hA _ hb19 H _ _ _ => ⟨_, _, _, rfl, ?_⟩
  refine ⟨fun v W => ∃ j : Nat, v.2.1 = j ∧ j ≤ n3 ∧ At w [] W ∧ ∃ L m q F, v.1 = L.length ∧ AlT w W g L m q F ∧ L.length ≤ 60 ∧ m ≤ 60 ∧ q ≤ 2000000 * (60 + j) ∧ (∀ x ∈ L, fvL keys ts x.1 i = some x.2) ∧ (∀ x ∈ L, ∀ p, p < j → ∀ y, cuts[p]? = some y → ¬ x.2 ≤ y), fun v _ => (n3 - v.2.1).toNat,
    ⟨0, rfl, by omega, hA, L, m, q, F, rfl, H, by omega, by omega, by omega, fun x hx => by rw [← hfv]; exact H.ok.get x hx, fun x hx p hp => by omega⟩, ?_⟩
  clear hfv H
  rintro x25 x26 w27 ⟨j, hj, hjn, hA, L, m, q, F, e1, H, hL60, hm60, hq, hfv, hcut⟩
  simp only at hj e1
  subst hj e1
  refine brD (fun hlt => ?_) (fun hge => at_callb hA (Go.Vc.A.c25 w27) fun w80 hA _ _ => ⟨_, rfl, leaf h hA rfl⟩)
  obtain ⟨now, hnow⟩ : ∃ x, cuts[j]? = some x := ⟨_, List.getElem?_eq_getElem (by omega)⟩
  obtain ⟨ad, g1, el⟩ := rdC hA hnow
  refine ⟨ad, g1, _, el.one (by kernel_rfl) (by simp), ?_⟩
  refine at_dueT hA H (by simp) (by omega) (by omega) now fun a32 c32 F' w31 hA _ hch H2 hF' hrow hsd _ => ⟨_, _, _, rfl, ?_⟩
  have hsplit := due_split now H.ok.srt
  have hdl : (dueL now L).length + (restL now L).length = L.length := by
    conv => rhs; rw [← hsplit]
    rw [List.length_append]
  have hdm : ∀ x ∈ dueL now L, x ∈ L ∧ x.2 ≤ now := fun x hx => by
    have := List.mem_filter.1 hx
    exact ⟨this.1, by simpa using this.2⟩
  have hrm : ∀ x ∈ restL now L, x ∈ L ∧ ¬ x.2 ≤ now := fun x hx => by
    have := List.mem_filter.1 hx
    exact ⟨this.1, by simpa using this.2⟩
  have hds : (dueL now L).Pairwise ahd := H.ok.srt.filter _
  generalize hD : dueL now L = D at hrow hsd hdl hdm hds ⊢
  refine ⟨fun _ W => At w [] W ∧ Bel w31 W, ⟨?_, ?_⟩⟩
  · refine ⟨fun v W => ∃ k : Nat, v.2.1 = k ∧ k ≤ D.length ∧ At w [] W ∧ Bel w31 W ∧ (∀ k', k = k' + 1 → ∀ y, D[k']? = some y → v.1 = y.2), fun v _ => (D.length - v.2.1).toNat, ⟨0, rfl, by omega, hA, (At.refl w31).below, fun k' e => by omega⟩, ?_⟩
    rintro x38 x39 w40 ⟨k, hk, hkn, hA, hb, hlast⟩
    simp only at hk hlast
    subst hk
    refine brD (fun hlt => ?_) (fun hge => ⟨hA, hb⟩)
    obtain ⟨x, hx⟩ : ∃ x, D[k]? = some x := ⟨_, List.getElem?_eq_getElem (by omega)⟩
    have hxm := hdm x (List.mem_of_getElem? hx)
    refine ⟨fun v W => v.1 = x.2 ∧ v.2.1 = true ∧ At w [] W ∧ Bel w31 W, ⟨?_, ?_⟩⟩
    · refine ⟨fun v W => ∃ p : Nat, v.2.2.1 = p ∧ p ≤ i ∧ At w [] W ∧ Bel w31 W ∧ (match fvL keys ts x.1 p with
        | some t => v.1 = t ∧ v.2.1 = true
        | none => v.1 = 0 ∧ v.2.1 = false), fun v _ => (i - v.2.2.1).toNat, ⟨0, rfl, by omega, hA, hb, ⟨rfl, rfl⟩⟩, ?_⟩
      rintro x44 b45 x46 w47 ⟨p, hp, hpn, hA, hb, hm⟩
      simp only at hp hm
      subst hp
      refine brD (fun hlt => ?_) (fun hge => ?_)
      · obtain ⟨y, hy⟩ : ∃ x, keys[p]? = some x := ⟨_, List.getElem?_eq_getElem (by omega)⟩
        obtain ⟨t, hty⟩ : ∃ x, ts[p]? = some x := ⟨_, List.getElem?_eq_getElem (by omega)⟩
        obtain ⟨ad, g1, el⟩ := rdK hA hy
        obtain ⟨ad2, g2, el2, _⟩ := elt_at (P := Try.prog) (k := .i64) (t := 49) (hsd.call hb) (i := k) (x := x.1) (by rw [List.getElem?_map, hx]; rfl) (e := 54) (by kernel_rfl) (by kernel_rfl)
        refine ⟨ad, g1, _, _, _, el.agg 3 (by kernel_rfl) (by kernel_rfl) (by simp) (by simp), ad2, g2, _, _, _, el2.agg 3 (by kernel_rfl) (by kernel_rfl) (by simp) (by simp), ?_⟩
        rw [key_cond y x.1]
        have hnx := fvL_next hy hty x.1
        refine brD (fun he => ?_) (fun hne => ?_)
        · obtain ⟨ad3, g3, el3⟩ := rdT hA hty
          refine ⟨ad3, g3, _, el3.one (by kernel_rfl) (by simp), go_below0_too hA fun w58 hA hb2 => ?_⟩
          rw [succ_i64 p (by omega)]
          refine ⟨⟨p + 1, rfl, by omega, hA, hb.trans hb2, ?_⟩, by simp only; omega⟩
          rw [hnx, if_pos he.symm]
          exact ⟨rfl, rfl⟩
        · refine go_below0_too hA fun w59 hA hb2 => ?_
          rw [succ_i64 p (by omega)]
          refine ⟨⟨p + 1, rfl, by omega, hA, hb.trans hb2, ?_⟩, by simp only; omega⟩
          rw [hnx, if_neg fun e => hne e.symm]
          exact hm
      · have hpe : p = i := by omega
        subst hpe
        rw [hfv x hxm.1] at hm
        exact ⟨hm.1, hm.2, hA, hb⟩
    · rintro x60 b61 w62 ⟨e1, e2, hA, hb⟩
      simp only at e1 e2
      subst e1 e2
      refine ⟨fun _ W => At w [] W ∧ Bel w31 W, ⟨?_, ?_⟩⟩
      · refine brB (fun e => by cases e) (fun _ => ?_)
        obtain ⟨ad, g1, el⟩ := rdC hA hnow
        refine ⟨ad, g1, _, el.one (by kernel_rfl) (by simp), brD (fun hgt => absurd hxm.2 (by omega)) (fun _ => brD (fun hk0 => brD (fun hlt2 => ?_) (fun _ => ⟨hA, hb⟩)) (fun _ => ⟨hA, hb⟩))⟩
        exfalso
        obtain ⟨k', rfl⟩ : ∃ k', k = k' + 1 := ⟨k - 1, by omega⟩
        obtain ⟨y, hy⟩ : ∃ x, D[k']? = some x := ⟨_, List.getElem?_eq_getElem (by omega)⟩
        have hl := hlast k' rfl y hy
        obtain ⟨q1, rfl⟩ := List.getElem?_eq_some_iff.1 hy
        obtain ⟨q2, rfl⟩ := List.getElem?_eq_some_iff.1 hx
        have := (List.pairwise_iff_getElem.1 hds) k' (k' + 1) q1 q2 (by omega)
        unfold ahd at this
        omega
      · rintro w66 ⟨hA, hb⟩
        refine ⟨fun v W => ∃ p : Nat, v.1 = p ∧ p ≤ j ∧ At w [] W ∧ Bel w31 W, fun v _ => (j - v.1).toNat, ⟨0, rfl, by omega, hA, hb⟩, ?_⟩
        rintro x69 w70 ⟨p, hp, hpj, hA, hb⟩
        simp only at hp
        subst hp
        refine brD (fun hlt => ?_) (fun hge => ?_)
        · obtain ⟨y, hy⟩ : ∃ x, cuts[p]? = some x := ⟨_, List.getElem?_eq_getElem (by omega)⟩
          obtain ⟨ad, g1, el⟩ := rdC hA hy
          refine ⟨ad, g1, _, el.one (by kernel_rfl) (by simp), brD (fun hge => ?_) (fun _ => ?_)⟩
          · exact absurd (by omega) (hcut x hxm.1 p (by omega) y hy)
          · rw [succ_i64 p (by omega)]
            exact ⟨⟨p + 1, rfl, by omega, hA, hb⟩, by simp only; omega⟩
        · rw [succ_i64 k (by omega)]
          exact ⟨⟨k + 1, rfl, by omega, hA, hb, fun k' e y hy => by
            have : k' = k := by omega
            subst this
            rw [hx] at hy
            cases hy
            rfl⟩, by simp only; omega⟩
  · rintro w73 ⟨hA, hb⟩
    have H2 := H2.call hb
    refine at_allT hA H2 (by omega) fun a76 c76 w75 hA _ hb75 H2 _ _ _ => ⟨_, _, _, rfl, ?_⟩
    have e3 : IntKind.i64.wrap ((L.length : Int) - (D.length : Int)) = ((restL now L).length : Int) := by rw [wrap_i64 (by omega) (by omega)]; omega
    rw [e3]
    refine brN (fun e => absurd rfl e) (fun _ => ?_)
    rw [succ_i64 j (by omega)]
    refine ⟨⟨j + 1, rfl, by omega, hA, _, _, _, _, rfl, H2, by omega, by omega, by omega, fun x hx => hfv x (hrm x hx).1, fun x hx p hp y hy => ?_⟩, by simp only; omega⟩
    by_cases hpj : p = j
    · subst hpj
      rw [hnow] at hy
      cases hy
      exact (hrm x hx).2
    · exact hcut x (hrm x hx).1 p (by omega) y hy
end Go.Vc.A

