/- The formulas of functions, printed by a program (VcTool.lean): each is what the generator's formula comes to, by the kernel's reckoning; whoever proves one has the function's contract. -/
import Derived.Test.YtjpmpdckkdhidaaVcFn
import Derived.Test.YtjpmpdckkdhidaaProg
set_option maxRecDepth 100000
set_option maxHeartbeats 1000000
set_option linter.unusedVariables false
namespace Vca
open Go Go.Vc Go.RowKit
/-! manciple/manciplelaw02.RatioTexts -/
def h9 : Hints := ⟨[2, 5, 7], [], [11, 27, 32, 37], [(5, [0, 2, 1, 3, 4, 5, 6, 7, 8, 9, 10, 11, 12, 13, 14, 15, 16, 17, 18])], [], [], [], []⟩
def f9_vc (f_0 : Int) (f_1 : Int) (s : ByteArray) (w : World) (R : Ending → World → Prop) : Prop :=
 ∀ (n1 : Nat),
 w.heap.size ≤ n1 →
 (decide ((↑s.size : Int) > 100) = true → ∀ (w2 : World), Below w.heap.size w w2 → Under [n1] w2 → R (Ending.returned (Value.bool true)) w2) ∧
 (decide ((↑s.size : Int) > 100) = false →
 ∀ (w3 : World),
 Below w.heap.size w w3 →
 Under [n1] w3 →
 Calls Proofs.Try.prog 30 #[Value.string s] w3 fun (e4 : Ending) (w5 : World) =>
 ∃ (x6 : Int),
 ∃ (x7 : Int),
 ∃ (b8 : Bool),
 e4 = Ending.returned (Value.tuple #[Value.agg #[Value.int IntKind.i64 x6, Value.int IntKind.i64 x7], Value.bool b8]) ∧
 Keeps [n1] w3 w5 ∧
 ∀ (n9 : Nat),
 w5.heap.size ≤ n9 →
 ∀ (w10 : World),
 Evo [n9] w5 w10 →
 Under [n1, n9] w10 →
 Calls Proofs.Try.prog 31 #[Value.string s] w10 fun (e11 : Ending) (w12 : World) =>
 ∃ (x13 : Int),
 ∃ (x14 : Int),
 ∃ (b15 : Bool),
 e11 = Ending.returned (Value.tuple #[Value.agg #[Value.int IntKind.i64 x13, Value.int IntKind.i64 x14], Value.bool b15]) ∧
 Keeps [n1, n9] w10 w12 ∧
 ∀ (n16 : Nat),
 w12.heap.size ≤ n16 →
 ∀ (w17 : World),
 Evo [n16] w12 w17 →
 Under [n1, n9, n16] w17 →
 Calls Proofs.Try.prog 32 #[Value.agg #[Value.int IntKind.i64 f_0, Value.int IntKind.i64 f_1]] w17 fun (e18 : Ending) (w19 : World) =>
 ∃ (s20 : ByteArray),
 e18 = Ending.returned (Value.string s20) ∧
 Keeps [n1, n9, n16] w17 w19 ∧
 Calls Proofs.Try.prog 33 #[Value.agg #[Value.int IntKind.i64 f_0, Value.int IntKind.i64 f_1]] w19 fun (e21 : Ending) (w22 : World) =>
 ∃ (s23 : ByteArray),
 e21 = Ending.returned (Value.string s23) ∧
 Keeps [n1, n9, n16] w19 w22 ∧
 ((s20.toList == s23.toList) = true →
 ((x6 == x13 && (x7 == x14 && true)) = true →
 ((b8 == b15) = true →
 Calls Proofs.Try.prog 16 #[] w22 fun (e24 : Ending) (w25 : World) =>
 ∃ (b26 : Bool), e24 = Ending.returned (Value.bool b26) ∧ Keeps [n1, n9, n16] w22 w25 ∧ R (Ending.returned (Value.bool b26)) w25) ∧
 ((b8 == b15) = false → R (Ending.returned (Value.bool false)) w22)) ∧
 ((x6 == x13 && (x7 == x14 && true)) = false → R (Ending.returned (Value.bool false)) w22)) ∧
 ((s20.toList == s23.toList) = false → R (Ending.returned (Value.bool false)) w22))
theorem f9_eq (f_0 : Int) (f_1 : Int) (s : ByteArray) (w : World) (R : Ending → World → Prop) : (fnF Go.Proofs.Try.prog h9 Go.Proofs.Try.f9 [Value.agg #[Value.int IntKind.i64 f_0, Value.int IntKind.i64 f_1], Value.string s] w R).den = f9_vc f_0 f_1 s w R := by kernel_rfl
theorem f9_calls (f_0 : Int) (f_1 : Int) (s : ByteArray) (w : World) (R : Ending → World → Prop) (h : f9_vc f_0 f_1 s w R) : Calls Go.Proofs.Try.prog 9 (List.toArray [Value.agg #[Value.int IntKind.i64 f_0, Value.int IntKind.i64 f_1], Value.string s]) w R :=
 fn_sound (H := h9) (fn := Go.Proofs.Try.f9) (by kernel_rfl) (by kernel_rfl) (by kernel_rfl) ((f9_eq f_0 f_1 s w R).mpr h)


/-! manciple/ratio.Parse -/
def h30 : Hints := ⟨[2], [16, 21, 29], [12, 17, 42, 35, 39], [], [], [(2, ⟨[(11, .int .i64)], [(2, .cons (.int .i64) (.cons (.int .i64) (.nil)))]⟩)], [], []⟩
def f30_vc (s : ByteArray) (w : World) (R : Ending → World → Prop) : Prop :=
 ∀ (n1 : Nat),
 w.heap.size ≤ n1 →
 ∃ (J2 : Int × Int × Int × Unit → World → Prop),
 ∃ (J3 : Int × Int × Int × Unit → World → Nat),
 (∀ (w4 : World), Below w.heap.size w w4 → Under [n1] w4 → J2 (0, 0, 0, ()) w4) ∧
 ∀ (x5 x6 x7 : Int) (w8 : World),
 J2 (x5, x6, x7, ()) w8 →
 (decide (x5 < (↑s.size : Int)) = true →
 ∃ (x9 : Int),
 Gives Proofs.Try.prog (Instr.index 9 (Value.string s) (Value.int IntKind.i64 x5)) (Value.int IntKind.u8 x9) ∧
 ((x9 != 47) = true → J2 (IntKind.i64.wrap (x5 + 1), x6, x7, ()) w8 ∧ J3 (IntKind.i64.wrap (x5 + 1), x6, x7, ()) w8 < J3 (x5, x6, x7, ()) w8) ∧
 ((x9 != 47) = false →
 ∃ (s10 : ByteArray),
 Gives Proofs.Try.prog (Instr.sliceAt 9 (Value.string s) none (some (Value.int IntKind.i64 x5)) none) (Value.string s10) ∧
 Calls Proofs.Try.prog 41 #[Value.string s10] w8 fun (e11 : Ending) (w12 : World) =>
 ∃ (x13 : Int),
 ∃ (b14 : Bool),
 e11 = Ending.returned (Value.tuple #[Value.int IntKind.i64 x13, Value.bool b14]) ∧
 Keeps [n1] w8 w12 ∧
 ∃ (s15 : ByteArray),
 Gives Proofs.Try.prog (Instr.sliceAt 9 (Value.string s) (some (Value.int IntKind.i64 (IntKind.i64.wrap (x5 + 1)))) none none) (Value.string s15) ∧
 Calls Proofs.Try.prog 41 #[Value.string s15] w12 fun (e16 : Ending) (w17 : World) =>
 ∃ (x18 : Int),
 ∃ (b19 : Bool),
 e16 = Ending.returned (Value.tuple #[Value.int IntKind.i64 x18, Value.bool b19]) ∧
 Keeps [n1] w12 w17 ∧
 ((!b14) = true →
 ∀ (w20 : World), Evo [n1] w17 w20 → Under [n1] w20 → R (Ending.returned (Value.tuple #[Value.agg #[Value.int IntKind.i64 0, Value.int IntKind.i64 0], Value.bool false])) w20) ∧
 ((!b14) = false →
 ((!b19) = true →
 ∀ (w21 : World), Evo [n1] w17 w21 → Under [n1] w21 → R (Ending.returned (Value.tuple #[Value.agg #[Value.int IntKind.i64 0, Value.int IntKind.i64 0], Value.bool false])) w21) ∧
 ((!b19) = false →
 (decide (x18 < 1) = true →
 ∀ (w22 : World),
 Evo [n1] w17 w22 → Under [n1] w22 → R (Ending.returned (Value.tuple #[Value.agg #[Value.int IntKind.i64 0, Value.int IntKind.i64 0], Value.bool false])) w22) ∧
 (decide (x18 < 1) = false →
 ∀ (w23 : World),
 Evo [n1] w17 w23 → Under [n1] w23 → R (Ending.returned (Value.tuple #[Value.agg #[Value.int IntKind.i64 x13, Value.int IntKind.i64 x18], Value.bool true])) w23))))) ∧
 (decide (x5 < (↑s.size : Int)) = false → ∀ (w24 : World), Evo [n1] w8 w24 → Under [n1] w24 → R (Ending.returned (Value.tuple #[Value.agg #[Value.int IntKind.i64 0, Value.int IntKind.i64 0], Value.bool false])) w24)
theorem f30_eq (s : ByteArray) (w : World) (R : Ending → World → Prop) : (fnF Go.Proofs.Try.prog h30 Go.Proofs.Try.f30 [Value.string s] w R).den = f30_vc s w R := by kernel_rfl
theorem f30_calls (s : ByteArray) (w : World) (R : Ending → World → Prop) (h : f30_vc s w R) : Calls Go.Proofs.Try.prog 30 (List.toArray [Value.string s]) w R :=
 fn_sound (H := h30) (fn := Go.Proofs.Try.f30) (by kernel_rfl) (by kernel_rfl) (by kernel_rfl) ((f30_eq s w R).mpr h)


/-! manciple/mancipleref02.Parse -/
def h31 : Hints := ⟨[2], [17, 22, 30], [12, 18, 41, 35, 38], [], [], [(2, ⟨[(4, .int .i64)], [(2, .cons (.int .i64) (.cons (.int .i64) (.nil)))]⟩)], [], []⟩
def f31_vc (s : ByteArray) (w : World) (R : Ending → World → Prop) : Prop :=
 ∀ (n1 : Nat),
 w.heap.size ≤ n1 →
 ∃ (J2 : Int × Int × Int × Unit → World → Prop),
 ∃ (J3 : Int × Int × Int × Unit → World → Nat),
 (∀ (w4 : World), Below w.heap.size w w4 → Under [n1] w4 → J2 (0, 0, 0, ()) w4) ∧
 ∀ (x5 x6 x7 : Int) (w8 : World),
 J2 (x5, x6, x7, ()) w8 →
 (decide (x5 < (↑s.size : Int)) = true →
 ∃ (x9 : Int),
 Gives Proofs.Try.prog (Instr.index 9 (Value.string s) (Value.int IntKind.i64 x5)) (Value.int IntKind.u8 x9) ∧
 ((x9 == 47) = true →
 ∃ (s10 : ByteArray),
 Gives Proofs.Try.prog (Instr.sliceAt 9 (Value.string s) none (some (Value.int IntKind.i64 x5)) none) (Value.string s10) ∧
 Calls Proofs.Try.prog 42 #[Value.string s10] w8 fun (e11 : Ending) (w12 : World) =>
 ∃ (x13 : Int),
 ∃ (b14 : Bool),
 e11 = Ending.returned (Value.tuple #[Value.int IntKind.i64 x13, Value.bool b14]) ∧
 Keeps [n1] w8 w12 ∧
 ∃ (s15 : ByteArray),
 Gives Proofs.Try.prog (Instr.sliceAt 9 (Value.string s) (some (Value.int IntKind.i64 (IntKind.i64.wrap (x5 + 1)))) none none) (Value.string s15) ∧
 Calls Proofs.Try.prog 42 #[Value.string s15] w12 fun (e16 : Ending) (w17 : World) =>
 ∃ (x18 : Int),
 ∃ (b19 : Bool),
 e16 = Ending.returned (Value.tuple #[Value.int IntKind.i64 x18, Value.bool b19]) ∧
 Keeps [n1] w12 w17 ∧
 (b14 = true →
 (b19 = true →
 (decide (x18 ≥ 1) = true →
 ∀ (w20 : World),
 Evo [n1] w17 w20 → Under [n1] w20 → R (Ending.returned (Value.tuple #[Value.agg #[Value.int IntKind.i64 x13, Value.int IntKind.i64 x18], Value.bool true])) w20) ∧
 (decide (x18 ≥ 1) = false →
 ∀ (w21 : World),
 Evo [n1] w17 w21 → Under [n1] w21 → R (Ending.returned (Value.tuple #[Value.agg #[Value.int IntKind.i64 0, Value.int IntKind.i64 0], Value.bool false])) w21)) ∧
 (b19 = false →
 ∀ (w22 : World), Evo [n1] w17 w22 → Under [n1] w22 → R (Ending.returned (Value.tuple #[Value.agg #[Value.int IntKind.i64 0, Value.int IntKind.i64 0], Value.bool false])) w22)) ∧
 (b14 = false →
 ∀ (w23 : World), Evo [n1] w17 w23 → Under [n1] w23 → R (Ending.returned (Value.tuple #[Value.agg #[Value.int IntKind.i64 0, Value.int IntKind.i64 0], Value.bool false])) w23)) ∧
 ((x9 == 47) = false → J2 (IntKind.i64.wrap (x5 + 1), x6, x7, ()) w8 ∧ J3 (IntKind.i64.wrap (x5 + 1), x6, x7, ()) w8 < J3 (x5, x6, x7, ()) w8)) ∧
 (decide (x5 < (↑s.size : Int)) = false → ∀ (w24 : World), Evo [n1] w8 w24 → Under [n1] w24 → R (Ending.returned (Value.tuple #[Value.agg #[Value.int IntKind.i64 0, Value.int IntKind.i64 0], Value.bool false])) w24)
theorem f31_eq (s : ByteArray) (w : World) (R : Ending → World → Prop) : (fnF Go.Proofs.Try.prog h31 Go.Proofs.Try.f31 [Value.string s] w R).den = f31_vc s w R := by kernel_rfl
theorem f31_calls (s : ByteArray) (w : World) (R : Ending → World → Prop) (h : f31_vc s w R) : Calls Go.Proofs.Try.prog 31 (List.toArray [Value.string s]) w R :=
 fn_sound (H := h31) (fn := Go.Proofs.Try.f31) (by kernel_rfl) (by kernel_rfl) (by kernel_rfl) ((f31_eq s w R).mpr h)


/-! manciple/ratio.Text -/
def h32 : Hints := ⟨[1], [9, 13], [5], [(3, [0, 1, 4, 5, 2, 3, 6, 7, 8])], [], [], [], []⟩
def f32_vc (f_0 : Int) (f_1 : Int) (w : World) (R : Ending → World → Prop) : Prop :=
 ∀ (n1 : Nat),
 w.heap.size ≤ n1 →
 ∀ (w2 : World),
 Below w.heap.size w w2 →
 Under [n1] w2 →
 Calls Proofs.Try.prog 14 #[Value.agg #[Value.int IntKind.i64 f_0, Value.int IntKind.i64 f_1]] w2 fun (e3 : Ending) (w4 : World) =>
 ∃ (b5 : Bool),
 e3 = Ending.returned (Value.bool b5) ∧
 Keeps [n1] w2 w4 ∧
 ((!b5) = true → R (Ending.returned (Value.string (ByteArray.mk #[]))) w4) ∧
 ((!b5) = false →
 ∀ (w6 : World),
 Below w4.heap.size w4 w6 →
 Under [n1] w6 →
 Calls Proofs.Try.prog 43 #[Value.int IntKind.i64 f_0] w6 fun (e7 : Ending) (w8 : World) =>
 ∃ (s9 : ByteArray),
 e7 = Ending.returned (Value.string s9) ∧
 Keeps [n1] w6 w8 ∧
 ∃ (s10 : ByteArray),
 Gives Proofs.Try.prog (binOpS BinOp.add 9 (Operand.tmp 8) (Operand.const (Value.string (ByteArray.mk #[47]))) (Value.string s9) (Value.string (ByteArray.mk #[47]))) (Value.string s10) ∧
 Calls Proofs.Try.prog 43 #[Value.int IntKind.i64 f_1] w8 fun (e11 : Ending) (w12 : World) =>
 ∃ (s13 : ByteArray),
 e11 = Ending.returned (Value.string s13) ∧
 Keeps [n1] w8 w12 ∧
 ∃ (s14 : ByteArray),
 Gives Proofs.Try.prog (binOpS BinOp.add 9 (Operand.tmp 9) (Operand.tmp 12) (Value.string s10) (Value.string s13)) (Value.string s14) ∧ R (Ending.returned (Value.string s14)) w12)
theorem f32_eq (f_0 : Int) (f_1 : Int) (w : World) (R : Ending → World → Prop) : (fnF Go.Proofs.Try.prog h32 Go.Proofs.Try.f32 [Value.agg #[Value.int IntKind.i64 f_0, Value.int IntKind.i64 f_1]] w R).den = f32_vc f_0 f_1 w R := by kernel_rfl
theorem f32_calls (f_0 : Int) (f_1 : Int) (w : World) (R : Ending → World → Prop) (h : f32_vc f_0 f_1 w R) : Calls Go.Proofs.Try.prog 32 (List.toArray [Value.agg #[Value.int IntKind.i64 f_0, Value.int IntKind.i64 f_1]]) w R :=
 fn_sound (H := h32) (fn := Go.Proofs.Try.f32) (by kernel_rfl) (by kernel_rfl) (by kernel_rfl) ((f32_eq f_0 f_1 w R).mpr h)


/-! manciple/mancipleref02.Text -/
def h33 : Hints := ⟨[1], [9, 13], [5], [(3, [0, 1, 4, 5, 2, 3, 6, 7, 8])], [], [], [], []⟩
def f33_vc (f_0 : Int) (f_1 : Int) (w : World) (R : Ending → World → Prop) : Prop :=
 ∀ (n1 : Nat),
 w.heap.size ≤ n1 →
 ∀ (w2 : World),
 Below w.heap.size w w2 →
 Under [n1] w2 →
 Calls Proofs.Try.prog 15 #[Value.agg #[Value.int IntKind.i64 f_0, Value.int IntKind.i64 f_1]] w2 fun (e3 : Ending) (w4 : World) =>
 ∃ (b5 : Bool),
 e3 = Ending.returned (Value.bool b5) ∧
 Keeps [n1] w2 w4 ∧
 ((!b5) = true → R (Ending.returned (Value.string (ByteArray.mk #[]))) w4) ∧
 ((!b5) = false →
 ∀ (w6 : World),
 Below w4.heap.size w4 w6 →
 Under [n1] w6 →
 Calls Proofs.Try.prog 39 #[Value.int IntKind.i64 f_0] w6 fun (e7 : Ending) (w8 : World) =>
 ∃ (s9 : ByteArray),
 e7 = Ending.returned (Value.string s9) ∧
 Keeps [n1] w6 w8 ∧
 ∃ (s10 : ByteArray),
 Gives Proofs.Try.prog (binOpS BinOp.add 9 (Operand.tmp 8) (Operand.const (Value.string (ByteArray.mk #[47]))) (Value.string s9) (Value.string (ByteArray.mk #[47]))) (Value.string s10) ∧
 Calls Proofs.Try.prog 39 #[Value.int IntKind.i64 f_1] w8 fun (e11 : Ending) (w12 : World) =>
 ∃ (s13 : ByteArray),
 e11 = Ending.returned (Value.string s13) ∧
 Keeps [n1] w8 w12 ∧
 ∃ (s14 : ByteArray),
 Gives Proofs.Try.prog (binOpS BinOp.add 9 (Operand.tmp 9) (Operand.tmp 12) (Value.string s10) (Value.string s13)) (Value.string s14) ∧ R (Ending.returned (Value.string s14)) w12)
theorem f33_eq (f_0 : Int) (f_1 : Int) (w : World) (R : Ending → World → Prop) : (fnF Go.Proofs.Try.prog h33 Go.Proofs.Try.f33 [Value.agg #[Value.int IntKind.i64 f_0, Value.int IntKind.i64 f_1]] w R).den = f33_vc f_0 f_1 w R := by kernel_rfl
theorem f33_calls (f_0 : Int) (f_1 : Int) (w : World) (R : Ending → World → Prop) (h : f33_vc f_0 f_1 w R) : Calls Go.Proofs.Try.prog 33 (List.toArray [Value.agg #[Value.int IntKind.i64 f_0, Value.int IntKind.i64 f_1]]) w R :=
 fn_sound (H := h33) (fn := Go.Proofs.Try.f33) (by kernel_rfl) (by kernel_rfl) (by kernel_rfl) ((f33_eq f_0 f_1 w R).mpr h)


/-! manciple/ratio.number -/
def h41 : Hints := ⟨[], [12, 25], [19, 24, 32, 40, 10, 14, 29], [], [], [(5, ⟨[(4, .int .i64), (23, .int .i64)], []⟩)], [(3, ⟨[], []⟩)], []⟩
def f41_vc (s : ByteArray) (w : World) (R : Ending → World → Prop) : Prop :=
 ∃ (J1 : Unit → World → Prop),
 (((s.toList == (ByteArray.mk #[]).toList) = true → R (Ending.returned (Value.tuple #[Value.int IntKind.i64 0, Value.bool false])) w) ∧
 ((s.toList == (ByteArray.mk #[]).toList) = false →
 ∃ (x2 : Int),
 Gives Proofs.Try.prog (Instr.index 9 (Value.string s) (Value.int IntKind.i64 0)) (Value.int IntKind.u8 x2) ∧
 ((x2 == 48) = true → (decide ((↑s.size : Int) > 1) = true → R (Ending.returned (Value.tuple #[Value.int IntKind.i64 0, Value.bool false])) w) ∧ (decide ((↑s.size : Int) > 1) = false → J1 () w)) ∧
 ((x2 == 48) = false → J1 () w))) ∧
 ∀ (w3 : World),
 J1 () w3 →
 OpW Proofs.Try.prog (valueS (convert 9 61 (Value.string s))) w3 fun (v4 : Value) (w5 : World) =>
 ∃ (a6 : Option Addr),
 ∃ (n7 : Nat),
 ∃ (n8 : Nat),
 v4 = Value.slice a6 n7 n8 ∧
 ∃ (J9 : Int × Int × Unit → World → Prop),
 ∃ (J10 : Int × Int × Unit → World → Nat),
 J9 (0, 0, ()) w5 ∧
 ∀ (x11 x12 : Int) (w13 : World),
 J9 (x11, x12, ()) w13 →
 (decide (x12 < (↑n7 : Int)) = true →
 ∃ (a14 : Option Addr),
 Gives Proofs.Try.prog (Instr.indexAt 61 (Value.slice a6 n7 n8) (Value.int IntKind.i64 x12)) (Value.pointer a14) ∧
 ∃ (x15 : Int),
 Reads Proofs.Try.prog [] (Instr.loadAt 5 (Value.pointer a14)) w13 (Value.int IntKind.u8 x15) ∧
 (decide (x15 < 48) = true → R (Ending.returned (Value.tuple #[Value.int IntKind.i64 0, Value.bool false])) w13) ∧
 (decide (x15 < 48) = false →
 (decide (x15 > 57) = true → R (Ending.returned (Value.tuple #[Value.int IntKind.i64 0, Value.bool false])) w13) ∧
 (decide (x15 > 57) = false →
 (decide (x11 > IntKind.i64.wrap ((IntKind.i64.wrap (9223372036854775807 - IntKind.i64.wrap (IntKind.u8.wrap (x15 - 48)))).tdiv 10)) = true →
 R (Ending.returned (Value.tuple #[Value.int IntKind.i64 0, Value.bool false])) w13) ∧
 (decide (x11 > IntKind.i64.wrap ((IntKind.i64.wrap (9223372036854775807 - IntKind.i64.wrap (IntKind.u8.wrap (x15 - 48)))).tdiv 10)) = false →
 J9 (IntKind.i64.wrap (IntKind.i64.wrap (x11 * 10) + IntKind.i64.wrap (IntKind.u8.wrap (x15 - 48))), IntKind.i64.wrap (x12 + 1), ()) w13 ∧
 J10 (IntKind.i64.wrap (IntKind.i64.wrap (x11 * 10) + IntKind.i64.wrap (IntKind.u8.wrap (x15 - 48))), IntKind.i64.wrap (x12 + 1), ()) w13 < J10 (x11, x12, ()) w13)))) ∧
 (decide (x12 < (↑n7 : Int)) = false → R (Ending.returned (Value.tuple #[Value.int IntKind.i64 x11, Value.bool true])) w13)
theorem f41_eq (s : ByteArray) (w : World) (R : Ending → World → Prop) : (fnF Go.Proofs.Try.prog h41 Go.Proofs.Try.f41 [Value.string s] w R).den = f41_vc s w R := by kernel_rfl
theorem f41_calls (s : ByteArray) (w : World) (R : Ending → World → Prop) (h : f41_vc s w R) : Calls Go.Proofs.Try.prog 41 (List.toArray [Value.string s]) w R :=
 fn_sound (H := h41) (fn := Go.Proofs.Try.f41) (by kernel_rfl) (by kernel_rfl) (by kernel_rfl) ((f41_eq s w R).mpr h)


/-! manciple/mancipleref02.Number -/
def h42 : Hints := ⟨[], [17, 33, 38, 43], [24, 28, 40, 55, 10, 15, 19, 35, 48, 51], [], [], [(5, ⟨[(4, .int .i64), (5, .int .i64)], []⟩)], [(3, ⟨[], []⟩)], []⟩
def f42_vc (s : ByteArray) (w : World) (R : Ending → World → Prop) : Prop :=
 ∃ (J1 : Unit → World → Prop),
 ((decide ((↑s.size : Int) < 1) = true → R (Ending.returned (Value.tuple #[Value.int IntKind.i64 0, Value.bool false])) w) ∧
 (decide ((↑s.size : Int) < 1) = false →
 (decide ((↑s.size : Int) > 19) = true → R (Ending.returned (Value.tuple #[Value.int IntKind.i64 0, Value.bool false])) w) ∧
 (decide ((↑s.size : Int) > 19) = false →
 ∃ (x2 : Int),
 Gives Proofs.Try.prog (Instr.index 9 (Value.string s) (Value.int IntKind.i64 0)) (Value.int IntKind.u8 x2) ∧
 ((x2 == 48) = true → (decide ((↑s.size : Int) > 1) = true → R (Ending.returned (Value.tuple #[Value.int IntKind.i64 0, Value.bool false])) w) ∧ (decide ((↑s.size : Int) > 1) = false → J1 () w)) ∧
 ((x2 == 48) = false → J1 () w)))) ∧
 ∀ (w3 : World),
 J1 () w3 →
 ∃ (J4 : Int × Int × Unit → World → Prop),
 ∃ (J5 : Int × Int × Unit → World → Nat),
 J4 (0, 0, ()) w3 ∧
 ∀ (x6 x7 : Int) (w8 : World),
 J4 (x6, x7, ()) w8 →
 (decide (x7 < (↑s.size : Int)) = true →
 ∃ (x9 : Int),
 Gives Proofs.Try.prog (Instr.index 9 (Value.string s) (Value.int IntKind.i64 x7)) (Value.int IntKind.u8 x9) ∧
 (decide (x9 < 48) = true → R (Ending.returned (Value.tuple #[Value.int IntKind.i64 0, Value.bool false])) w8) ∧
 (decide (x9 < 48) = false →
 ∃ (x10 : Int),
 Gives Proofs.Try.prog (Instr.index 9 (Value.string s) (Value.int IntKind.i64 x7)) (Value.int IntKind.u8 x10) ∧
 (decide (x10 > 57) = true → R (Ending.returned (Value.tuple #[Value.int IntKind.i64 0, Value.bool false])) w8) ∧
 (decide (x10 > 57) = false →
 ∃ (x11 : Int),
 Gives Proofs.Try.prog (Instr.index 9 (Value.string s) (Value.int IntKind.i64 x7)) (Value.int IntKind.u8 x11) ∧
 (decide (x6 > 922337203685477580) = true → R (Ending.returned (Value.tuple #[Value.int IntKind.i64 0, Value.bool false])) w8) ∧
 (decide (x6 > 922337203685477580) = false →
 ((x6 == 922337203685477580) = true →
 (decide (IntKind.i64.wrap (IntKind.i64.wrap x11 - 48) > 7) = true → R (Ending.returned (Value.tuple #[Value.int IntKind.i64 0, Value.bool false])) w8) ∧
 (decide (IntKind.i64.wrap (IntKind.i64.wrap x11 - 48) > 7) = false →
 J4 (IntKind.i64.wrap (IntKind.i64.wrap (x6 * 10) + IntKind.i64.wrap (IntKind.i64.wrap x11 - 48)), IntKind.i64.wrap (x7 + 1), ()) w8 ∧
 J5 (IntKind.i64.wrap (IntKind.i64.wrap (x6 * 10) + IntKind.i64.wrap (IntKind.i64.wrap x11 - 48)), IntKind.i64.wrap (x7 + 1), ()) w8 < J5 (x6, x7, ()) w8)) ∧
 ((x6 == 922337203685477580) = false →
 J4 (IntKind.i64.wrap (IntKind.i64.wrap (x6 * 10) + IntKind.i64.wrap (IntKind.i64.wrap x11 - 48)), IntKind.i64.wrap (x7 + 1), ()) w8 ∧
 J5 (IntKind.i64.wrap (IntKind.i64.wrap (x6 * 10) + IntKind.i64.wrap (IntKind.i64.wrap x11 - 48)), IntKind.i64.wrap (x7 + 1), ()) w8 < J5 (x6, x7, ()) w8))))) ∧
 (decide (x7 < (↑s.size : Int)) = false → R (Ending.returned (Value.tuple #[Value.int IntKind.i64 x6, Value.bool true])) w8)
theorem f42_eq (s : ByteArray) (w : World) (R : Ending → World → Prop) : (fnF Go.Proofs.Try.prog h42 Go.Proofs.Try.f42 [Value.string s] w R).den = f42_vc s w R := by kernel_rfl
theorem f42_calls (s : ByteArray) (w : World) (R : Ending → World → Prop) (h : f42_vc s w R) : Calls Go.Proofs.Try.prog 42 (List.toArray [Value.string s]) w R :=
 fn_sound (H := h42) (fn := Go.Proofs.Try.f42) (by kernel_rfl) (by kernel_rfl) (by kernel_rfl) ((f42_eq s w R).mpr h)


/-! manciple/ratio.digits -/
def h43 : Hints := ⟨[], [19, 27], [11, 8], [], [], [(4, ⟨[(0, .int .i64), (4, .int .i64), (5, .bool)], []⟩)], [], []⟩
def f43_vc (n : Int) (w : World) (R : Ending → World → Prop) : Prop :=
 OpW Proofs.Try.prog (valueS (Instr.alloc 64 true (Value.tuple #[]))) w fun (v1 : Value) (w2 : World) =>
 ∃ (a3 : Option Addr),
 v1 = Value.pointer a3 ∧
 ∃ (J4 : Int × Int × Bool × Unit → World → Prop),
 ∃ (J5 : Int × Int × Bool × Unit → World → Nat),
 J4 (n, 20, true, ()) w2 ∧
 ∀ (x6 x7 : Int) (b8 : Bool) (w9 : World),
 J4 (x6, x7, b8, ()) w9 →
 (b8 = true →
 ∃ (a10 : Option Addr),
 Gives Proofs.Try.prog (Instr.indexAt 64 (Value.pointer a3) (Value.int IntKind.i64 (IntKind.i64.wrap (x7 - 1)))) (Value.pointer a10) ∧
 OpW Proofs.Try.prog (skipS (Instr.storeAt 5 (Value.pointer a10) (Value.int IntKind.u8 (IntKind.u8.wrap (IntKind.i64.wrap (48 + x6.tmod 10)))))) w9 fun (v11 : Value) (w12 : World) =>
 J4 (IntKind.i64.wrap (x6.tdiv 10), IntKind.i64.wrap (x7 - 1), false, ()) w12 ∧ J5 (IntKind.i64.wrap (x6.tdiv 10), IntKind.i64.wrap (x7 - 1), false, ()) w12 < J5 (x6, x7, b8, ()) w9) ∧
 (b8 = false →
 (decide (x6 > 0) = true →
 ∃ (a13 : Option Addr),
 Gives Proofs.Try.prog (Instr.indexAt 64 (Value.pointer a3) (Value.int IntKind.i64 (IntKind.i64.wrap (x7 - 1)))) (Value.pointer a13) ∧
 OpW Proofs.Try.prog (skipS (Instr.storeAt 5 (Value.pointer a13) (Value.int IntKind.u8 (IntKind.u8.wrap (IntKind.i64.wrap (48 + x6.tmod 10)))))) w9 fun (v14 : Value) (w15 : World) =>
 J4 (IntKind.i64.wrap (x6.tdiv 10), IntKind.i64.wrap (x7 - 1), false, ()) w15 ∧ J5 (IntKind.i64.wrap (x6.tdiv 10), IntKind.i64.wrap (x7 - 1), false, ()) w15 < J5 (x6, x7, b8, ()) w9) ∧
 (decide (x6 > 0) = false →
 OpW Proofs.Try.prog (valueS (Instr.makeSlice 61 (Value.int IntKind.i64 (IntKind.i64.wrap (20 - x7))) (Value.int IntKind.i64 (IntKind.i64.wrap (20 - x7))))) w9 fun (v16 : Value) (w17 : World) =>
 ∃ (a18 : Option Addr),
 ∃ (n19 : Nat),
 ∃ (n20 : Nat),
 v16 = Value.slice a18 n19 n20 ∧
 ∃ (a21 : Option Addr),
 ∃ (n22 : Nat),
 ∃ (n23 : Nat),
 Gives Proofs.Try.prog (Instr.sliceAt 64 (Value.pointer a3) (some (Value.int IntKind.i64 x7)) none none) (Value.slice a21 n22 n23) ∧
 OpW Proofs.Try.prog (builtin Builtin.copy #[61, 61] 3 #[false, false] #[Value.slice a18 n19 n20, Value.slice a21 n22 n23]) w17 fun (v24 : Value) (w25 : World) =>
 ∃ (x26 : Int),
 v24 = Value.int IntKind.i64 x26 ∧
 OpW Proofs.Try.prog (valueS (convert 61 9 (Value.slice a18 n19 n20))) w25 fun (v27 : Value) (w28 : World) =>
 ∃ (s29 : ByteArray), v27 = Value.string s29 ∧ R (Ending.returned (Value.string s29)) w28))
theorem f43_eq (n : Int) (w : World) (R : Ending → World → Prop) : (fnF Go.Proofs.Try.prog h43 Go.Proofs.Try.f43 [Value.int IntKind.i64 n] w R).den = f43_vc n w R := by kernel_rfl
theorem f43_calls (n : Int) (w : World) (R : Ending → World → Prop) (h : f43_vc n w R) : Calls Go.Proofs.Try.prog 43 (List.toArray [Value.int IntKind.i64 n]) w R :=
 fn_sound (H := h43) (fn := Go.Proofs.Try.f43) (by kernel_rfl) (by kernel_rfl) (by kernel_rfl) ((f43_eq n w R).mpr h)

end Vca
