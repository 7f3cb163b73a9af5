/- The formulas of functions, printed by a program (VcTool.lean): each is what the generator's formula comes to, by the kernel's reckoning; whoever proves one has the function's contract. -/
import Derived.Test.YtjpmpdckkdhidaaVcFn
import Derived.Test.YtjpmpdckkdhidaaProg
set_option maxRecDepth 100000
set_option maxHeartbeats 1000000
set_option linter.unusedVariables false
namespace Vca
open Go Go.Vc Go.RowKit
/-! manciple/manciplelaw02.RatioCmp -/
def h3 : Hints := ⟨[3, 4, 7, 9], [], [13, 31, 38, 43, 48], [(5, [0, 1, 3, 4, 2, 5, 6, 7, 8, 10, 9, 11, 12, 13, 14, 15, 16, 17, 18, 19, 20, 21, 22, 23, 24, 25, 26, 27])], [], [], [], []⟩
def f3_vc (a_0 : Int) (a_1 : Int) (b_0 : Int) (b_1 : Int) (la : Option Addr) (ln : Nat) (lc : Nat) (w : World) (R : Ending → World → Prop) : Prop :=
 ∀ (n1 : Nat),
 w.heap.size ≤ n1 →
 ∀ (n2 : Nat),
 w.heap.size ≤ n2 →
 (decide ((↑ln : Int) > 60) = true → ∀ (w3 : World), Below w.heap.size w w3 → Under [n1, n2] w3 → R (Ending.returned (Value.bool true)) w3) ∧
 (decide ((↑ln : Int) > 60) = false →
 ∀ (w4 : World),
 Below w.heap.size w w4 →
 Under [n1, n2] w4 →
 Calls Proofs.Try.prog 10 #[Value.slice la ln lc] w4 fun (e5 : Ending) (w6 : World) =>
 ∃ (x7 : Int),
 ∃ (x8 : Int),
 ∃ (x9 : Int),
 e5 = Ending.returned (Value.tuple #[Value.agg #[Value.int IntKind.i64 x7, Value.int IntKind.i64 x8], Value.int IntKind.i64 x9]) ∧
 Keeps [n1, n2] w4 w6 ∧
 ∀ (n10 : Nat),
 w6.heap.size ≤ n10 →
 ∀ (w11 : World),
 Evo [n10] w6 w11 →
 Under [n1, n2, n10] w11 →
 Calls Proofs.Try.prog 11 #[Value.slice la ln lc] w11 fun (e12 : Ending) (w13 : World) =>
 ∃ (x14 : Int),
 ∃ (x15 : Int),
 ∃ (x16 : Int),
 e12 = Ending.returned (Value.tuple #[Value.agg #[Value.int IntKind.i64 x14, Value.int IntKind.i64 x15], Value.int IntKind.i64 x16]) ∧
 Keeps [n1, n2, n10] w11 w13 ∧
 ∀ (n17 : Nat),
 w13.heap.size ≤ n17 →
 ∀ (w18 : World),
 Evo [n17] w13 w18 →
 Under [n1, n2, n10, n17] w18 →
 Calls Proofs.Try.prog 12 #[Value.agg #[Value.int IntKind.i64 a_0, Value.int IntKind.i64 a_1], Value.agg #[Value.int IntKind.i64 b_0, Value.int IntKind.i64 b_1]] w18
 fun (e19 : Ending) (w20 : World) =>
 ∃ (x21 : Int),
 e19 = Ending.returned (Value.int IntKind.i64 x21) ∧
 Keeps [n1, n2, n10, n17] w18 w20 ∧
 Calls Proofs.Try.prog 13 #[Value.agg #[Value.int IntKind.i64 a_0, Value.int IntKind.i64 a_1], Value.agg #[Value.int IntKind.i64 b_0, Value.int IntKind.i64 b_1]] w20
 fun (e22 : Ending) (w23 : World) =>
 ∃ (x24 : Int),
 e22 = Ending.returned (Value.int IntKind.i64 x24) ∧
 Keeps [n1, n2, n10, n17] w20 w23 ∧
 ((x21 == x24) = true →
 Calls Proofs.Try.prog 14 #[Value.agg #[Value.int IntKind.i64 a_0, Value.int IntKind.i64 a_1]] w23 fun (e25 : Ending) (w26 : World) =>
 ∃ (b27 : Bool),
 e25 = Ending.returned (Value.bool b27) ∧
 Keeps [n1, n2, n10, n17] w23 w26 ∧
 Calls Proofs.Try.prog 15 #[Value.agg #[Value.int IntKind.i64 a_0, Value.int IntKind.i64 a_1]] w26 fun (e28 : Ending) (w29 : World) =>
 ∃ (b30 : Bool),
 e28 = Ending.returned (Value.bool b30) ∧
 Keeps [n1, n2, n10, n17] w26 w29 ∧
 ((b27 == b30) = true →
 ((x7 == x14 && (x8 == x15 && true)) = true →
 ((x9 == x16) = true →
 Calls Proofs.Try.prog 16 #[] w29 fun (e31 : Ending) (w32 : World) =>
 ∃ (b33 : Bool),
 e31 = Ending.returned (Value.bool b33) ∧ Keeps [n1, n2, n10, n17] w29 w32 ∧ R (Ending.returned (Value.bool b33)) w32) ∧
 ((x9 == x16) = false → R (Ending.returned (Value.bool false)) w29)) ∧
 ((x7 == x14 && (x8 == x15 && true)) = false → R (Ending.returned (Value.bool false)) w29)) ∧
 ((b27 == b30) = false → R (Ending.returned (Value.bool false)) w29)) ∧
 ((x21 == x24) = false → R (Ending.returned (Value.bool false)) w23))
theorem f3_eq (a_0 : Int) (a_1 : Int) (b_0 : Int) (b_1 : Int) (la : Option Addr) (ln : Nat) (lc : Nat) (w : World) (R : Ending → World → Prop) : (fnF Go.Proofs.Try.prog h3 Go.Proofs.Try.f3 [Value.agg #[Value.int IntKind.i64 a_0, Value.int IntKind.i64 a_1], Value.agg #[Value.int IntKind.i64 b_0, Value.int IntKind.i64 b_1], Value.slice la ln lc] w R).den = f3_vc a_0 a_1 b_0 b_1 la ln lc w R := by kernel_rfl
theorem f3_calls (a_0 : Int) (a_1 : Int) (b_0 : Int) (b_1 : Int) (la : Option Addr) (ln : Nat) (lc : Nat) (w : World) (R : Ending → World → Prop) (h : f3_vc a_0 a_1 b_0 b_1 la ln lc w R) : Calls Go.Proofs.Try.prog 3 (List.toArray [Value.agg #[Value.int IntKind.i64 a_0, Value.int IntKind.i64 a_1], Value.agg #[Value.int IntKind.i64 b_0, Value.int IntKind.i64 b_1], Value.slice la ln lc]) w R :=
 fn_sound (H := h3) (fn := Go.Proofs.Try.f3) (by kernel_rfl) (by kernel_rfl) (by kernel_rfl) ((f3_eq a_0 a_1 b_0 b_1 la ln lc w R).mpr h)


/-! manciple/manciplelaw02.RatioOrders -/
def h4 : Hints := ⟨[3, 4, 5], [], [30, 64, 25, 33, 37, 41, 45, 49, 52, 55, 58], [(1, [0, 1, 3, 4, 6, 7, 2, 5, 8, 9, 10, 11])], [], [], [], []⟩
def f4_vc (a_0 : Int) (a_1 : Int) (b_0 : Int) (b_1 : Int) (c_0 : Int) (c_1 : Int) (w : World) (R : Ending → World → Prop) : Prop :=
 ∀ (n1 : Nat),
 w.heap.size ≤ n1 →
 ∀ (n2 : Nat),
 w.heap.size ≤ n2 →
 ∀ (n3 : Nat),
 w.heap.size ≤ n3 →
 ∀ (w4 : World),
 Below w.heap.size w w4 →
 Under [n1, n2, n3] w4 →
 Calls Proofs.Try.prog 12 #[Value.agg #[Value.int IntKind.i64 a_0, Value.int IntKind.i64 a_1], Value.agg #[Value.int IntKind.i64 b_0, Value.int IntKind.i64 b_1]] w4 fun (e5 : Ending) (w6 : World) =>
 ∃ (x7 : Int),
 e5 = Ending.returned (Value.int IntKind.i64 x7) ∧
 Keeps [n1, n2, n3] w4 w6 ∧
 Calls Proofs.Try.prog 12 #[Value.agg #[Value.int IntKind.i64 b_0, Value.int IntKind.i64 b_1], Value.agg #[Value.int IntKind.i64 c_0, Value.int IntKind.i64 c_1]] w6 fun (e8 : Ending) (w9 : World) =>
 ∃ (x10 : Int),
 e8 = Ending.returned (Value.int IntKind.i64 x10) ∧
 Keeps [n1, n2, n3] w6 w9 ∧
 Calls Proofs.Try.prog 12 #[Value.agg #[Value.int IntKind.i64 a_0, Value.int IntKind.i64 a_1], Value.agg #[Value.int IntKind.i64 c_0, Value.int IntKind.i64 c_1]] w9 fun (e11 : Ending) (w12 : World) =>
 ∃ (x13 : Int),
 e11 = Ending.returned (Value.int IntKind.i64 x13) ∧
 Keeps [n1, n2, n3] w9 w12 ∧
 Calls Proofs.Try.prog 12 #[Value.agg #[Value.int IntKind.i64 b_0, Value.int IntKind.i64 b_1], Value.agg #[Value.int IntKind.i64 a_0, Value.int IntKind.i64 a_1]] w12
 fun (e14 : Ending) (w15 : World) =>
 ∃ (x16 : Int),
 e14 = Ending.returned (Value.int IntKind.i64 x16) ∧
 Keeps [n1, n2, n3] w12 w15 ∧
 ((x16 != IntKind.i64.wrap (0 - x7)) = true → R (Ending.returned (Value.bool false)) w15) ∧
 ((x16 != IntKind.i64.wrap (0 - x7)) = false →
 Calls Proofs.Try.prog 12 #[Value.agg #[Value.int IntKind.i64 a_0, Value.int IntKind.i64 a_1], Value.agg #[Value.int IntKind.i64 a_0, Value.int IntKind.i64 a_1]] w15
 fun (e17 : Ending) (w18 : World) =>
 ∃ (x19 : Int),
 e17 = Ending.returned (Value.int IntKind.i64 x19) ∧
 Keeps [n1, n2, n3] w15 w18 ∧
 ((x19 != 0) = true → R (Ending.returned (Value.bool false)) w18) ∧
 ((x19 != 0) = false →
 Calls Proofs.Try.prog 14 #[Value.agg #[Value.int IntKind.i64 a_0, Value.int IntKind.i64 a_1]] w18 fun (e20 : Ending) (w21 : World) =>
 ∃ (b22 : Bool),
 e20 = Ending.returned (Value.bool b22) ∧
 Keeps [n1, n2, n3] w18 w21 ∧
 (b22 = true →
 Calls Proofs.Try.prog 14 #[Value.agg #[Value.int IntKind.i64 b_0, Value.int IntKind.i64 b_1]] w21 fun (e23 : Ending) (w24 : World) =>
 ∃ (b25 : Bool),
 e23 = Ending.returned (Value.bool b25) ∧
 Keeps [n1, n2, n3] w21 w24 ∧
 (b25 = true →
 Calls Proofs.Try.prog 14 #[Value.agg #[Value.int IntKind.i64 c_0, Value.int IntKind.i64 c_1]] w24 fun (e26 : Ending) (w27 : World) =>
 ∃ (b28 : Bool),
 e26 = Ending.returned (Value.bool b28) ∧
 Keeps [n1, n2, n3] w24 w27 ∧
 (b28 = true →
 (decide (x7 ≤ 0) = true →
 (decide (x10 ≤ 0) = true →
 (decide (x13 > 0) = true → R (Ending.returned (Value.bool false)) w27) ∧
 (decide (x13 > 0) = false →
 ((x13 == 0) = true →
 (decide (x7 < 0) = true → R (Ending.returned (Value.bool false)) w27) ∧
 (decide (x7 < 0) = false →
 (decide (x10 < 0) = true → R (Ending.returned (Value.bool false)) w27) ∧
 (decide (x10 < 0) = false →
 Calls Proofs.Try.prog 16 #[] w27 fun (e29 : Ending) (w30 : World) =>
 ∃ (b31 : Bool),
 e29 = Ending.returned (Value.bool b31) ∧
 Keeps [n1, n2, n3] w27 w30 ∧ R (Ending.returned (Value.bool b31)) w30))) ∧
 ((x13 == 0) = false →
 Calls Proofs.Try.prog 16 #[] w27 fun (e32 : Ending) (w33 : World) =>
 ∃ (b34 : Bool),
 e32 = Ending.returned (Value.bool b34) ∧ Keeps [n1, n2, n3] w27 w33 ∧ R (Ending.returned (Value.bool b34)) w33))) ∧
 (decide (x10 ≤ 0) = false →
 Calls Proofs.Try.prog 16 #[] w27 fun (e35 : Ending) (w36 : World) =>
 ∃ (b37 : Bool),
 e35 = Ending.returned (Value.bool b37) ∧ Keeps [n1, n2, n3] w27 w36 ∧ R (Ending.returned (Value.bool b37)) w36)) ∧
 (decide (x7 ≤ 0) = false →
 Calls Proofs.Try.prog 16 #[] w27 fun (e38 : Ending) (w39 : World) =>
 ∃ (b40 : Bool), e38 = Ending.returned (Value.bool b40) ∧ Keeps [n1, n2, n3] w27 w39 ∧ R (Ending.returned (Value.bool b40)) w39)) ∧
 (b28 = false →
 Calls Proofs.Try.prog 16 #[] w27 fun (e41 : Ending) (w42 : World) =>
 ∃ (b43 : Bool), e41 = Ending.returned (Value.bool b43) ∧ Keeps [n1, n2, n3] w27 w42 ∧ R (Ending.returned (Value.bool b43)) w42)) ∧
 (b25 = false →
 Calls Proofs.Try.prog 16 #[] w24 fun (e44 : Ending) (w45 : World) =>
 ∃ (b46 : Bool), e44 = Ending.returned (Value.bool b46) ∧ Keeps [n1, n2, n3] w24 w45 ∧ R (Ending.returned (Value.bool b46)) w45)) ∧
 (b22 = false →
 Calls Proofs.Try.prog 16 #[] w21 fun (e47 : Ending) (w48 : World) =>
 ∃ (b49 : Bool), e47 = Ending.returned (Value.bool b49) ∧ Keeps [n1, n2, n3] w21 w48 ∧ R (Ending.returned (Value.bool b49)) w48)))
theorem f4_eq (a_0 : Int) (a_1 : Int) (b_0 : Int) (b_1 : Int) (c_0 : Int) (c_1 : Int) (w : World) (R : Ending → World → Prop) : (fnF Go.Proofs.Try.prog h4 Go.Proofs.Try.f4 [Value.agg #[Value.int IntKind.i64 a_0, Value.int IntKind.i64 a_1], Value.agg #[Value.int IntKind.i64 b_0, Value.int IntKind.i64 b_1], Value.agg #[Value.int IntKind.i64 c_0, Value.int IntKind.i64 c_1]] w R).den = f4_vc a_0 a_1 b_0 b_1 c_0 c_1 w R := by kernel_rfl
theorem f4_calls (a_0 : Int) (a_1 : Int) (b_0 : Int) (b_1 : Int) (c_0 : Int) (c_1 : Int) (w : World) (R : Ending → World → Prop) (h : f4_vc a_0 a_1 b_0 b_1 c_0 c_1 w R) : Calls Go.Proofs.Try.prog 4 (List.toArray [Value.agg #[Value.int IntKind.i64 a_0, Value.int IntKind.i64 a_1], Value.agg #[Value.int IntKind.i64 b_0, Value.int IntKind.i64 b_1], Value.agg #[Value.int IntKind.i64 c_0, Value.int IntKind.i64 c_1]]) w R :=
 fn_sound (H := h4) (fn := Go.Proofs.Try.f4) (by kernel_rfl) (by kernel_rfl) (by kernel_rfl) ((f4_eq a_0 a_1 b_0 b_1 c_0 c_1 w R).mpr h)


/-! manciple/manciplelaw02.RatioLow -/
def h5 : Hints := ⟨[2, 5], [62, 69, 78, 85, 91], [16, 71, 20, 24, 29, 34, 40, 46, 54, 58, 65, 74, 81, 88, 94], [], [], [], [], []⟩
def f5_vc (f_0 : Int) (f_1 : Int) (by' : Int) (w : World) (R : Ending → World → Prop) : Prop :=
 ∀ (n1 : Nat),
 w.heap.size ≤ n1 →
 ∀ (w2 : World),
 Below w.heap.size w w2 →
 Under [n1] w2 →
 Calls Proofs.Try.prog 17 #[Value.agg #[Value.int IntKind.i64 f_0, Value.int IntKind.i64 f_1]] w2 fun (e3 : Ending) (w4 : World) =>
 ∃ (x5 : Int),
 ∃ (x6 : Int),
 e3 = Ending.returned (Value.agg #[Value.int IntKind.i64 x5, Value.int IntKind.i64 x6]) ∧
 Keeps [n1] w2 w4 ∧
 ∀ (n7 : Nat),
 w4.heap.size ≤ n7 →
 ∀ (w8 : World),
 Evo [n7] w4 w8 →
 Under [n1, n7] w8 →
 Calls Proofs.Try.prog 18 #[Value.int IntKind.i64 f_0, Value.int IntKind.i64 f_1] w8 fun (e9 : Ending) (w10 : World) =>
 ∃ (x11 : Int),
 e9 = Ending.returned (Value.int IntKind.i64 x11) ∧
 Keeps [n1, n7] w8 w10 ∧
 Calls Proofs.Try.prog 14 #[Value.agg #[Value.int IntKind.i64 f_0, Value.int IntKind.i64 f_1]] w10 fun (e12 : Ending) (w13 : World) =>
 ∃ (b14 : Bool),
 e12 = Ending.returned (Value.bool b14) ∧
 Keeps [n1, n7] w10 w13 ∧
 ((!b14) = true →
 ((x5 == 0 && (x6 == 0 && true)) = true →
 (decide (f_0 ≥ 0) = true →
 (decide (f_1 ≥ 0) = true →
 Calls Proofs.Try.prog 16 #[] w13 fun (e15 : Ending) (w16 : World) =>
 ∃ (b17 : Bool), e15 = Ending.returned (Value.bool b17) ∧ Keeps [n1, n7] w13 w16 ∧ R (Ending.returned (Value.bool b17)) w16) ∧
 (decide (f_1 ≥ 0) = false →
 ((x11 == 0) = true →
 Calls Proofs.Try.prog 16 #[] w13 fun (e18 : Ending) (w19 : World) =>
 ∃ (b20 : Bool), e18 = Ending.returned (Value.bool b20) ∧ Keeps [n1, n7] w13 w19 ∧ R (Ending.returned (Value.bool b20)) w19) ∧
 ((x11 == 0) = false → R (Ending.returned (Value.bool false)) w13))) ∧
 (decide (f_0 ≥ 0) = false →
 ((x11 == 0) = true →
 Calls Proofs.Try.prog 16 #[] w13 fun (e21 : Ending) (w22 : World) =>
 ∃ (b23 : Bool), e21 = Ending.returned (Value.bool b23) ∧ Keeps [n1, n7] w13 w22 ∧ R (Ending.returned (Value.bool b23)) w22) ∧
 ((x11 == 0) = false → R (Ending.returned (Value.bool false)) w13))) ∧
 ((x5 == 0 && (x6 == 0 && true)) = false → R (Ending.returned (Value.bool false)) w13)) ∧
 ((!b14) = false →
 Calls Proofs.Try.prog 14 #[Value.agg #[Value.int IntKind.i64 x5, Value.int IntKind.i64 x6]] w13 fun (e24 : Ending) (w25 : World) =>
 ∃ (b26 : Bool),
 e24 = Ending.returned (Value.bool b26) ∧
 Keeps [n1, n7] w13 w25 ∧
 ((!b26) = true → R (Ending.returned (Value.bool false)) w25) ∧
 ((!b26) = false →
 Calls Proofs.Try.prog 12 #[Value.agg #[Value.int IntKind.i64 f_0, Value.int IntKind.i64 f_1], Value.agg #[Value.int IntKind.i64 x5, Value.int IntKind.i64 x6]] w25
 fun (e27 : Ending) (w28 : World) =>
 ∃ (x29 : Int),
 e27 = Ending.returned (Value.int IntKind.i64 x29) ∧
 Keeps [n1, n7] w25 w28 ∧
 ((x29 != 0) = true → R (Ending.returned (Value.bool false)) w28) ∧
 ((x29 != 0) = false →
 Calls Proofs.Try.prog 18 #[Value.int IntKind.i64 x5, Value.int IntKind.i64 x6] w28 fun (e30 : Ending) (w31 : World) =>
 ∃ (x32 : Int),
 e30 = Ending.returned (Value.int IntKind.i64 x32) ∧
 Keeps [n1, n7] w28 w31 ∧
 ((x32 != 1) = true → R (Ending.returned (Value.bool false)) w31) ∧
 ((x32 != 1) = false →
 (decide (x11 < 1) = true → R (Ending.returned (Value.bool false)) w31) ∧
 (decide (x11 < 1) = false →
 ∃ (x33 : Int),
 Gives Proofs.Try.prog (binOpS BinOp.rem 2 (Operand.tmp 60) (Operand.tmp 61) (Value.int IntKind.i64 f_0) (Value.int IntKind.i64 x11))
 (Value.int IntKind.i64 x33) ∧
 ((x33 != 0) = true → R (Ending.returned (Value.bool false)) w31) ∧
 ((x33 != 0) = false →
 ∃ (x34 : Int),
 Gives Proofs.Try.prog (binOpS BinOp.rem 2 (Operand.tmp 67) (Operand.tmp 68) (Value.int IntKind.i64 f_1) (Value.int IntKind.i64 x11))
 (Value.int IntKind.i64 x34) ∧
 ((x34 != 0) = true → R (Ending.returned (Value.bool false)) w31) ∧
 ((x34 != 0) = false →
 (decide (by' < 1) = true →
 Calls Proofs.Try.prog 16 #[] w31 fun (e35 : Ending) (w36 : World) =>
 ∃ (b37 : Bool), e35 = Ending.returned (Value.bool b37) ∧ Keeps [n1, n7] w31 w36 ∧ R (Ending.returned (Value.bool b37)) w36) ∧
 (decide (by' < 1) = false →
 ∃ (x38 : Int),
 Gives Proofs.Try.prog
 (binOpS BinOp.rem 2 (Operand.tmp 76) (Operand.tmp 77) (Value.int IntKind.i64 f_0) (Value.int IntKind.i64 by'))
 (Value.int IntKind.i64 x38) ∧
 ((x38 != 0) = true →
 Calls Proofs.Try.prog 16 #[] w31 fun (e39 : Ending) (w40 : World) =>
 ∃ (b41 : Bool),
 e39 = Ending.returned (Value.bool b41) ∧ Keeps [n1, n7] w31 w40 ∧ R (Ending.returned (Value.bool b41)) w40) ∧
 ((x38 != 0) = false →
 ∃ (x42 : Int),
 Gives Proofs.Try.prog
 (binOpS BinOp.rem 2 (Operand.tmp 83) (Operand.tmp 84) (Value.int IntKind.i64 f_1) (Value.int IntKind.i64 by'))
 (Value.int IntKind.i64 x42) ∧
 ((x42 != 0) = true →
 Calls Proofs.Try.prog 16 #[] w31 fun (e43 : Ending) (w44 : World) =>
 ∃ (b45 : Bool),
 e43 = Ending.returned (Value.bool b45) ∧ Keeps [n1, n7] w31 w44 ∧ R (Ending.returned (Value.bool b45)) w44) ∧
 ((x42 != 0) = false →
 ∃ (x46 : Int),
 Gives Proofs.Try.prog
 (binOpS BinOp.rem 2 (Operand.tmp 89) (Operand.tmp 90) (Value.int IntKind.i64 x11)
 (Value.int IntKind.i64 by'))
 (Value.int IntKind.i64 x46) ∧
 ((x46 == 0) = true →
 Calls Proofs.Try.prog 16 #[] w31 fun (e47 : Ending) (w48 : World) =>
 ∃ (b49 : Bool),
 e47 = Ending.returned (Value.bool b49) ∧
 Keeps [n1, n7] w31 w48 ∧ R (Ending.returned (Value.bool b49)) w48) ∧
 ((x46 == 0) = false → R (Ending.returned (Value.bool false)) w31)))))))))))
theorem f5_eq (f_0 : Int) (f_1 : Int) (by' : Int) (w : World) (R : Ending → World → Prop) : (fnF Go.Proofs.Try.prog h5 Go.Proofs.Try.f5 [Value.agg #[Value.int IntKind.i64 f_0, Value.int IntKind.i64 f_1], Value.int IntKind.i64 by'] w R).den = f5_vc f_0 f_1 by' w R := by kernel_rfl
theorem f5_calls (f_0 : Int) (f_1 : Int) (by' : Int) (w : World) (R : Ending → World → Prop) (h : f5_vc f_0 f_1 by' w R) : Calls Go.Proofs.Try.prog 5 (List.toArray [Value.agg #[Value.int IntKind.i64 f_0, Value.int IntKind.i64 f_1], Value.int IntKind.i64 by']) w R :=
 fn_sound (H := h5) (fn := Go.Proofs.Try.f5) (by kernel_rfl) (by kernel_rfl) (by kernel_rfl) ((f5_eq f_0 f_1 by' w R).mpr h)


/-! manciple/ratio.Max -/
def h10 : Hints := ⟨[2, 4, 7], [14], [12, 27, 18, 21], [], [], [(3, ⟨[(5, .int .i64), (11, .int .i64)], [(4, .cons (.int .i64) (.cons (.int .i64) (.nil)))]⟩)], [], []⟩
def f10_vc (la : Option Addr) (ln : Nat) (lc : Nat) (w : World) (R : Ending → World → Prop) : Prop :=
 ∀ (n1 : Nat),
 w.heap.size ≤ n1 →
 ∀ (n2 : Nat),
 w.heap.size ≤ n2 →
 ∃ (J3 : Int × Int × Int × Int × Unit → World → Prop),
 ∃ (J4 : Int × Int × Int × Int × Unit → World → Nat),
 (∀ (w5 : World), Evo [n2] w w5 → Under [n1, n2] w5 → J3 (-1, 0, 0, 0, ()) w5) ∧
 ∀ (x6 x7 x8 x9 : Int) (w10 : World),
 J3 (x6, x7, x8, x9, ()) w10 →
 (decide (x7 < (↑ln : Int)) = true →
 ∃ (a11 : Option Addr),
 Gives Proofs.Try.prog (Instr.indexAt 24 (Value.slice la ln lc) (Value.int IntKind.i64 x7)) (Value.pointer a11) ∧
 ∃ (x12 : Int),
 ∃ (x13 : Int),
 Reads Proofs.Try.prog [] (Instr.loadAt 23 (Value.pointer a11)) w10 (Value.agg #[Value.int IntKind.i64 x12, Value.int IntKind.i64 x13]) ∧
 ∀ (n14 : Nat),
 w10.heap.size ≤ n14 →
 ∀ (w15 : World),
 Evo [n14] w10 w15 →
 Under [n1, n2, n14] w15 →
 Calls Proofs.Try.prog 14 #[Value.agg #[Value.int IntKind.i64 x12, Value.int IntKind.i64 x13]] w15 fun (e16 : Ending) (w17 : World) =>
 ∃ (b18 : Bool),
 e16 = Ending.returned (Value.bool b18) ∧
 Keeps [n1, n2, n14] w15 w17 ∧
 (b18 = true →
 (decide (x6 < 0) = true →
 ∀ (w19 : World),
 Evo [n2] w17 w19 →
 Under [n1, n2, n14] w19 → J3 (x7, IntKind.i64.wrap (x7 + 1), x12, x13, ()) w19 ∧ J4 (x7, IntKind.i64.wrap (x7 + 1), x12, x13, ()) w19 < J4 (x6, x7, x8, x9, ()) w10) ∧
 (decide (x6 < 0) = false →
 Calls Proofs.Try.prog 12 #[Value.agg #[Value.int IntKind.i64 x12, Value.int IntKind.i64 x13], Value.agg #[Value.int IntKind.i64 x8, Value.int IntKind.i64 x9]] w17
 fun (e20 : Ending) (w21 : World) =>
 ∃ (x22 : Int),
 e20 = Ending.returned (Value.int IntKind.i64 x22) ∧
 Keeps [n1, n2, n14] w17 w21 ∧
 (decide (x22 > 0) = true →
 ∀ (w23 : World),
 Evo [n2] w21 w23 →
 Under [n1, n2, n14] w23 → J3 (x7, IntKind.i64.wrap (x7 + 1), x12, x13, ()) w23 ∧ J4 (x7, IntKind.i64.wrap (x7 + 1), x12, x13, ()) w23 < J4 (x6, x7, x8, x9, ()) w10) ∧
 (decide (x22 > 0) = false → J3 (x6, IntKind.i64.wrap (x7 + 1), x8, x9, ()) w21 ∧ J4 (x6, IntKind.i64.wrap (x7 + 1), x8, x9, ()) w21 < J4 (x6, x7, x8, x9, ()) w10))) ∧
 (b18 = false → J3 (x6, IntKind.i64.wrap (x7 + 1), x8, x9, ()) w17 ∧ J4 (x6, IntKind.i64.wrap (x7 + 1), x8, x9, ()) w17 < J4 (x6, x7, x8, x9, ()) w10)) ∧
 (decide (x7 < (↑ln : Int)) = false →
 ∀ (w24 : World), Evo [n1] w10 w24 → Under [n1, n2] w24 → R (Ending.returned (Value.tuple #[Value.agg #[Value.int IntKind.i64 x8, Value.int IntKind.i64 x9], Value.int IntKind.i64 x6])) w24)
theorem f10_eq (la : Option Addr) (ln : Nat) (lc : Nat) (w : World) (R : Ending → World → Prop) : (fnF Go.Proofs.Try.prog h10 Go.Proofs.Try.f10 [Value.slice la ln lc] w R).den = f10_vc la ln lc w R := by kernel_rfl
theorem f10_calls (la : Option Addr) (ln : Nat) (lc : Nat) (w : World) (R : Ending → World → Prop) (h : f10_vc la ln lc w R) : Calls Go.Proofs.Try.prog 10 (List.toArray [Value.slice la ln lc]) w R :=
 fn_sound (H := h10) (fn := Go.Proofs.Try.f10) (by kernel_rfl) (by kernel_rfl) (by kernel_rfl) ((f10_eq la ln lc w R).mpr h)


/-! manciple/mancipleref02.Max -/
def h11 : Hints := ⟨[2], [14, 23, 27, 39], [9, 32, 35, 17, 20], [(5, [0, 1, 2, 3, 4, 5, 6, 7, 8, 9, 10, 11, 12, 13, 14, 15, 16, 17, 18, 19, 20])], [], [(3, ⟨[(4, .int .i64), (5, .int .i64)], []⟩)], [], []⟩
def f11_vc (la : Option Addr) (ln : Nat) (lc : Nat) (w : World) (R : Ending → World → Prop) : Prop :=
 ∀ (n1 : Nat),
 w.heap.size ≤ n1 →
 ∃ (J2 : Int × Int × Unit → World → Prop),
 ∃ (J3 : Int × Int × Unit → World → Nat),
 (∀ (w4 : World), Below w.heap.size w w4 → Under [n1] w4 → J2 (-1, 0, ()) w4) ∧
 ∀ (x5 x6 : Int) (w7 : World),
 J2 (x5, x6, ()) w7 →
 (decide (x6 < (↑ln : Int)) = true →
 ∃ (a8 : Option Addr),
 Gives Proofs.Try.prog (Instr.indexAt 24 (Value.slice la ln lc) (Value.int IntKind.i64 x6)) (Value.pointer a8) ∧
 ∃ (x9 : Int),
 ∃ (x10 : Int),
 Reads Proofs.Try.prog [] (Instr.loadAt 23 (Value.pointer a8)) w7 (Value.agg #[Value.int IntKind.i64 x9, Value.int IntKind.i64 x10]) ∧
 ∀ (w11 : World),
 Below w7.heap.size w7 w11 →
 Under [n1] w11 →
 Calls Proofs.Try.prog 15 #[Value.agg #[Value.int IntKind.i64 x9, Value.int IntKind.i64 x10]] w11 fun (e12 : Ending) (w13 : World) =>
 ∃ (b14 : Bool),
 e12 = Ending.returned (Value.bool b14) ∧
 Keeps [n1] w11 w13 ∧
 (b14 = true →
 (decide (x5 < 0) = true → J2 (x6, IntKind.i64.wrap (x6 + 1), ()) w13 ∧ J3 (x6, IntKind.i64.wrap (x6 + 1), ()) w13 < J3 (x5, x6, ()) w7) ∧
 (decide (x5 < 0) = false →
 ∃ (a15 : Option Addr),
 Gives Proofs.Try.prog (Instr.indexAt 24 (Value.slice la ln lc) (Value.int IntKind.i64 x6)) (Value.pointer a15) ∧
 ∃ (x16 : Int),
 ∃ (x17 : Int),
 Reads Proofs.Try.prog [] (Instr.loadAt 23 (Value.pointer a15)) w13 (Value.agg #[Value.int IntKind.i64 x16, Value.int IntKind.i64 x17]) ∧
 ∃ (a18 : Option Addr),
 Gives Proofs.Try.prog (Instr.indexAt 24 (Value.slice la ln lc) (Value.int IntKind.i64 x5)) (Value.pointer a18) ∧
 ∃ (x19 : Int),
 ∃ (x20 : Int),
 Reads Proofs.Try.prog [] (Instr.loadAt 23 (Value.pointer a18)) w13 (Value.agg #[Value.int IntKind.i64 x19, Value.int IntKind.i64 x20]) ∧
 Calls Proofs.Try.prog 13 #[Value.agg #[Value.int IntKind.i64 x16, Value.int IntKind.i64 x17], Value.agg #[Value.int IntKind.i64 x19, Value.int IntKind.i64 x20]] w13
 fun (e21 : Ending) (w22 : World) =>
 ∃ (x23 : Int),
 e21 = Ending.returned (Value.int IntKind.i64 x23) ∧
 Keeps [n1] w13 w22 ∧
 (decide (x23 > 0) = true → J2 (x6, IntKind.i64.wrap (x6 + 1), ()) w22 ∧ J3 (x6, IntKind.i64.wrap (x6 + 1), ()) w22 < J3 (x5, x6, ()) w7) ∧
 (decide (x23 > 0) = false → J2 (x5, IntKind.i64.wrap (x6 + 1), ()) w22 ∧ J3 (x5, IntKind.i64.wrap (x6 + 1), ()) w22 < J3 (x5, x6, ()) w7))) ∧
 (b14 = false → J2 (x5, IntKind.i64.wrap (x6 + 1), ()) w13 ∧ J3 (x5, IntKind.i64.wrap (x6 + 1), ()) w13 < J3 (x5, x6, ()) w7)) ∧
 (decide (x6 < (↑ln : Int)) = false →
 (decide (x5 < 0) = true → ∀ (w24 : World), Evo [n1] w7 w24 → Under [n1] w24 → R (Ending.returned (Value.tuple #[Value.agg #[Value.int IntKind.i64 0, Value.int IntKind.i64 0], Value.int IntKind.i64 (-1)])) w24) ∧
 (decide (x5 < 0) = false →
 ∃ (a25 : Option Addr),
 Gives Proofs.Try.prog (Instr.indexAt 24 (Value.slice la ln lc) (Value.int IntKind.i64 x5)) (Value.pointer a25) ∧
 ∃ (x26 : Int),
 ∃ (x27 : Int),
 Reads Proofs.Try.prog [] (Instr.loadAt 23 (Value.pointer a25)) w7 (Value.agg #[Value.int IntKind.i64 x26, Value.int IntKind.i64 x27]) ∧
 ∀ (w28 : World), Evo [n1] w7 w28 → Under [n1] w28 → R (Ending.returned (Value.tuple #[Value.agg #[Value.int IntKind.i64 x26, Value.int IntKind.i64 x27], Value.int IntKind.i64 x5])) w28))
theorem f11_eq (la : Option Addr) (ln : Nat) (lc : Nat) (w : World) (R : Ending → World → Prop) : (fnF Go.Proofs.Try.prog h11 Go.Proofs.Try.f11 [Value.slice la ln lc] w R).den = f11_vc la ln lc w R := by kernel_rfl
theorem f11_calls (la : Option Addr) (ln : Nat) (lc : Nat) (w : World) (R : Ending → World → Prop) (h : f11_vc la ln lc w R) : Calls Go.Proofs.Try.prog 11 (List.toArray [Value.slice la ln lc]) w R :=
 fn_sound (H := h11) (fn := Go.Proofs.Try.f11) (by kernel_rfl) (by kernel_rfl) (by kernel_rfl) ((f11_eq la ln lc w R).mpr h)


/-! manciple/ratio.Cmp -/
def h12 : Hints := ⟨[2, 3], [], [12, 8], [(3, [0, 1, 2, 3, 4, 5, 7, 8, 9, 10, 11, 12, 6, 13, 14, 15])], [], [], [], []⟩
def f12_vc (a_0 : Int) (a_1 : Int) (b_0 : Int) (b_1 : Int) (w : World) (R : Ending → World → Prop) : Prop :=
 ∀ (n1 : Nat),
 w.heap.size ≤ n1 →
 ∀ (n2 : Nat),
 w.heap.size ≤ n2 →
 ∀ (w3 : World),
 Below w.heap.size w w3 →
 Under [n1, n2] w3 →
 Calls Proofs.Try.prog 14 #[Value.agg #[Value.int IntKind.i64 a_0, Value.int IntKind.i64 a_1]] w3 fun (e4 : Ending) (w5 : World) =>
 ∃ (b6 : Bool),
 e4 = Ending.returned (Value.bool b6) ∧
 Keeps [n1, n2] w3 w5 ∧
 ((!b6) = true → R (Ending.returned (Value.int IntKind.i64 0)) w5) ∧
 ((!b6) = false →
 Calls Proofs.Try.prog 14 #[Value.agg #[Value.int IntKind.i64 b_0, Value.int IntKind.i64 b_1]] w5 fun (e7 : Ending) (w8 : World) =>
 ∃ (b9 : Bool),
 e7 = Ending.returned (Value.bool b9) ∧
 Keeps [n1, n2] w5 w8 ∧
 ((!b9) = true → R (Ending.returned (Value.int IntKind.i64 0)) w8) ∧
 ((!b9) = false →
 ∀ (w10 : World),
 Below w8.heap.size w8 w10 →
 Under [n1, n2] w10 →
 Calls Proofs.Try.prog 34 #[Value.int IntKind.u64 (IntKind.u64.wrap a_0), Value.int IntKind.u64 (IntKind.u64.wrap b_1)] w10 fun (e11 : Ending) (w12 : World) =>
 ∃ (x13 : Int),
 ∃ (x14 : Int),
 e11 = Ending.returned (Value.agg #[Value.int IntKind.u64 x13, Value.int IntKind.u64 x14]) ∧
 Keeps [n1, n2] w10 w12 ∧
 Calls Proofs.Try.prog 34 #[Value.int IntKind.u64 (IntKind.u64.wrap b_0), Value.int IntKind.u64 (IntKind.u64.wrap a_1)] w12 fun (e15 : Ending) (w16 : World) =>
 ∃ (x17 : Int),
 ∃ (x18 : Int),
 e15 = Ending.returned (Value.agg #[Value.int IntKind.u64 x17, Value.int IntKind.u64 x18]) ∧
 Keeps [n1, n2] w12 w16 ∧
 Calls Proofs.Try.prog 35 #[Value.agg #[Value.int IntKind.u64 x13, Value.int IntKind.u64 x14], Value.agg #[Value.int IntKind.u64 x17, Value.int IntKind.u64 x18]] w16
 fun (e19 : Ending) (w20 : World) =>
 ∃ (x21 : Int), e19 = Ending.returned (Value.int IntKind.i64 x21) ∧ Keeps [n1, n2] w16 w20 ∧ R (Ending.returned (Value.int IntKind.i64 x21)) w20))
theorem f12_eq (a_0 : Int) (a_1 : Int) (b_0 : Int) (b_1 : Int) (w : World) (R : Ending → World → Prop) : (fnF Go.Proofs.Try.prog h12 Go.Proofs.Try.f12 [Value.agg #[Value.int IntKind.i64 a_0, Value.int IntKind.i64 a_1], Value.agg #[Value.int IntKind.i64 b_0, Value.int IntKind.i64 b_1]] w R).den = f12_vc a_0 a_1 b_0 b_1 w R := by kernel_rfl
theorem f12_calls (a_0 : Int) (a_1 : Int) (b_0 : Int) (b_1 : Int) (w : World) (R : Ending → World → Prop) (h : f12_vc a_0 a_1 b_0 b_1 w R) : Calls Go.Proofs.Try.prog 12 (List.toArray [Value.agg #[Value.int IntKind.i64 a_0, Value.int IntKind.i64 a_1], Value.agg #[Value.int IntKind.i64 b_0, Value.int IntKind.i64 b_1]]) w R :=
 fn_sound (H := h12) (fn := Go.Proofs.Try.f12) (by kernel_rfl) (by kernel_rfl) (by kernel_rfl) ((f12_eq a_0 a_1 b_0 b_1 w R).mpr h)


/-! manciple/mancipleref02.Cmp -/
def h13 : Hints := ⟨[2, 3], [], [14, 35, 38, 10], [(3, [0, 1, 2, 4, 5, 6, 3, 7, 8, 9]), (4, [0, 1, 2, 4, 5, 6, 3, 7, 8, 9])], [], [], [], []⟩
def f13_vc (a_0 : Int) (a_1 : Int) (b_0 : Int) (b_1 : Int) (w : World) (R : Ending → World → Prop) : Prop :=
 ∀ (n1 : Nat),
 w.heap.size ≤ n1 →
 ∀ (n2 : Nat),
 w.heap.size ≤ n2 →
 ∀ (w3 : World),
 Below w.heap.size w w3 →
 Under [n1, n2] w3 →
 Calls Proofs.Try.prog 15 #[Value.agg #[Value.int IntKind.i64 a_0, Value.int IntKind.i64 a_1]] w3 fun (e4 : Ending) (w5 : World) =>
 ∃ (b6 : Bool),
 e4 = Ending.returned (Value.bool b6) ∧
 Keeps [n1, n2] w3 w5 ∧
 ((!b6) = true → R (Ending.returned (Value.int IntKind.i64 0)) w5) ∧
 ((!b6) = false →
 Calls Proofs.Try.prog 15 #[Value.agg #[Value.int IntKind.i64 b_0, Value.int IntKind.i64 b_1]] w5 fun (e7 : Ending) (w8 : World) =>
 ∃ (b9 : Bool),
 e7 = Ending.returned (Value.bool b9) ∧
 Keeps [n1, n2] w5 w8 ∧
 ((!b9) = true → R (Ending.returned (Value.int IntKind.i64 0)) w8) ∧
 ((!b9) = false →
 ∀ (w10 : World),
 Below w8.heap.size w8 w10 →
 Under [n1, n2] w10 →
 Calls Proofs.Try.prog 37 #[Value.int IntKind.u64 0, Value.int IntKind.u64 (IntKind.u64.wrap a_0)] w10 fun (e11 : Ending) (w12 : World) =>
 ∃ (a13 : Option Addr),
 ∃ (n14 : Nat),
 ∃ (n15 : Nat),
 e11 = Ending.returned (Value.slice a13 n14 n15) ∧
 Keeps [n1, n2] w10 w12 ∧
 Calls Proofs.Try.prog 37 #[Value.int IntKind.u64 0, Value.int IntKind.u64 (IntKind.u64.wrap b_1)] w12 fun (e16 : Ending) (w17 : World) =>
 ∃ (a18 : Option Addr),
 ∃ (n19 : Nat),
 ∃ (n20 : Nat),
 e16 = Ending.returned (Value.slice a18 n19 n20) ∧
 Keeps [n1, n2] w12 w17 ∧
 Calls Proofs.Try.prog 36 #[Value.slice a13 n14 n15, Value.slice a18 n19 n20] w17 fun (e21 : Ending) (w22 : World) =>
 ∃ (a23 : Option Addr),
 ∃ (n24 : Nat),
 ∃ (n25 : Nat),
 e21 = Ending.returned (Value.slice a23 n24 n25) ∧
 Keeps [n1, n2] w17 w22 ∧
 ∀ (w26 : World),
 Below w22.heap.size w22 w26 →
 Under [n1, n2] w26 →
 Calls Proofs.Try.prog 37 #[Value.int IntKind.u64 0, Value.int IntKind.u64 (IntKind.u64.wrap b_0)] w26 fun (e27 : Ending) (w28 : World) =>
 ∃ (a29 : Option Addr),
 ∃ (n30 : Nat),
 ∃ (n31 : Nat),
 e27 = Ending.returned (Value.slice a29 n30 n31) ∧
 Keeps [n1, n2] w26 w28 ∧
 Calls Proofs.Try.prog 37 #[Value.int IntKind.u64 0, Value.int IntKind.u64 (IntKind.u64.wrap a_1)] w28 fun (e32 : Ending) (w33 : World) =>
 ∃ (a34 : Option Addr),
 ∃ (n35 : Nat),
 ∃ (n36 : Nat),
 e32 = Ending.returned (Value.slice a34 n35 n36) ∧
 Keeps [n1, n2] w28 w33 ∧
 Calls Proofs.Try.prog 36 #[Value.slice a29 n30 n31, Value.slice a34 n35 n36] w33 fun (e37 : Ending) (w38 : World) =>
 ∃ (a39 : Option Addr),
 ∃ (n40 : Nat),
 ∃ (n41 : Nat),
 e37 = Ending.returned (Value.slice a39 n40 n41) ∧
 Keeps [n1, n2] w33 w38 ∧
 Calls Proofs.Try.prog 38 #[Value.slice a23 n24 n25, Value.slice a39 n40 n41] w38 fun (e42 : Ending) (w43 : World) =>
 ∃ (b44 : Bool),
 e42 = Ending.returned (Value.bool b44) ∧
 Keeps [n1, n2] w38 w43 ∧
 (b44 = true → R (Ending.returned (Value.int IntKind.i64 (-1))) w43) ∧
 (b44 = false →
 Calls Proofs.Try.prog 38 #[Value.slice a39 n40 n41, Value.slice a23 n24 n25] w43
 fun (e45 : Ending) (w46 : World) =>
 ∃ (b47 : Bool),
 e45 = Ending.returned (Value.bool b47) ∧
 Keeps [n1, n2] w43 w46 ∧
 (b47 = true → R (Ending.returned (Value.int IntKind.i64 1)) w46) ∧
 (b47 = false → R (Ending.returned (Value.int IntKind.i64 0)) w46))))
theorem f13_eq (a_0 : Int) (a_1 : Int) (b_0 : Int) (b_1 : Int) (w : World) (R : Ending → World → Prop) : (fnF Go.Proofs.Try.prog h13 Go.Proofs.Try.f13 [Value.agg #[Value.int IntKind.i64 a_0, Value.int IntKind.i64 a_1], Value.agg #[Value.int IntKind.i64 b_0, Value.int IntKind.i64 b_1]] w R).den = f13_vc a_0 a_1 b_0 b_1 w R := by kernel_rfl
theorem f13_calls (a_0 : Int) (a_1 : Int) (b_0 : Int) (b_1 : Int) (w : World) (R : Ending → World → Prop) (h : f13_vc a_0 a_1 b_0 b_1 w R) : Calls Go.Proofs.Try.prog 13 (List.toArray [Value.agg #[Value.int IntKind.i64 a_0, Value.int IntKind.i64 a_1], Value.agg #[Value.int IntKind.i64 b_0, Value.int IntKind.i64 b_1]]) w R :=
 fn_sound (H := h13) (fn := Go.Proofs.Try.f13) (by kernel_rfl) (by kernel_rfl) (by kernel_rfl) ((f13_eq a_0 a_1 b_0 b_1 w R).mpr h)


/-! manciple/ratio.Right -/
def h14 : Hints := ⟨[1], [], [6], [], [], [], [], []⟩
def f14_vc (f_0 : Int) (f_1 : Int) (w : World) (R : Ending → World → Prop) : Prop :=
 ∀ (n1 : Nat),
 w.heap.size ≤ n1 →
 (decide (f_0 ≥ 0) = true → ∀ (w2 : World), Below w.heap.size w w2 → Under [n1] w2 → R (Ending.returned (Value.bool (decide (f_1 ≥ 1)))) w2) ∧
 (decide (f_0 ≥ 0) = false → ∀ (w3 : World), Below w.heap.size w w3 → Under [n1] w3 → R (Ending.returned (Value.bool false)) w3)
theorem f14_eq (f_0 : Int) (f_1 : Int) (w : World) (R : Ending → World → Prop) : (fnF Go.Proofs.Try.prog h14 Go.Proofs.Try.f14 [Value.agg #[Value.int IntKind.i64 f_0, Value.int IntKind.i64 f_1]] w R).den = f14_vc f_0 f_1 w R := by kernel_rfl
theorem f14_calls (f_0 : Int) (f_1 : Int) (w : World) (R : Ending → World → Prop) (h : f14_vc f_0 f_1 w R) : Calls Go.Proofs.Try.prog 14 (List.toArray [Value.agg #[Value.int IntKind.i64 f_0, Value.int IntKind.i64 f_1]]) w R :=
 fn_sound (H := h14) (fn := Go.Proofs.Try.f14) (by kernel_rfl) (by kernel_rfl) (by kernel_rfl) ((f14_eq f_0 f_1 w R).mpr h)


/-! manciple/mancipleref02.Right -/
def h15 : Hints := ⟨[1], [], [6], [], [], [], [], []⟩
def f15_vc (f_0 : Int) (f_1 : Int) (w : World) (R : Ending → World → Prop) : Prop :=
 ∀ (n1 : Nat),
 w.heap.size ≤ n1 →
 (decide (f_0 ≥ 0) = true → ∀ (w2 : World), Below w.heap.size w w2 → Under [n1] w2 → R (Ending.returned (Value.bool (decide (f_1 ≥ 1)))) w2) ∧
 (decide (f_0 ≥ 0) = false → ∀ (w3 : World), Below w.heap.size w w3 → Under [n1] w3 → R (Ending.returned (Value.bool false)) w3)
theorem f15_eq (f_0 : Int) (f_1 : Int) (w : World) (R : Ending → World → Prop) : (fnF Go.Proofs.Try.prog h15 Go.Proofs.Try.f15 [Value.agg #[Value.int IntKind.i64 f_0, Value.int IntKind.i64 f_1]] w R).den = f15_vc f_0 f_1 w R := by kernel_rfl
theorem f15_calls (f_0 : Int) (f_1 : Int) (w : World) (R : Ending → World → Prop) (h : f15_vc f_0 f_1 w R) : Calls Go.Proofs.Try.prog 15 (List.toArray [Value.agg #[Value.int IntKind.i64 f_0, Value.int IntKind.i64 f_1]]) w R :=
 fn_sound (H := h15) (fn := Go.Proofs.Try.f15) (by kernel_rfl) (by kernel_rfl) (by kernel_rfl) ((f15_eq f_0 f_1 w R).mpr h)


/-! manciple/manciplelaw02.works -/
def h16 : Hints := ⟨[1], [], [15, 21, 25], [], [], [], [], []⟩
def f16_vc  (w : World) (R : Ending → World → Prop) : Prop :=
 OpW Proofs.Try.prog
 (valueS (Instr.buildSlice 24 3 #[(0, Value.agg #[Value.int IntKind.i64 1, Value.int IntKind.i64 2]), (1, Value.agg #[Value.int IntKind.i64 2, Value.int IntKind.i64 3]), (2, Value.agg #[Value.int IntKind.i64 4, Value.int IntKind.i64 6])]))
 w fun (v1 : Value) (w2 : World) =>
 ∃ (a3 : Option Addr),
 ∃ (n4 : Nat),
 ∃ (n5 : Nat),
 v1 = Value.slice a3 n4 n5 ∧
 Calls Proofs.Try.prog 10 #[Value.slice a3 n4 n5] w2 fun (e6 : Ending) (w7 : World) =>
 ∃ (x8 : Int),
 ∃ (x9 : Int),
 ∃ (x10 : Int),
 e6 = Ending.returned (Value.tuple #[Value.agg #[Value.int IntKind.i64 x8, Value.int IntKind.i64 x9], Value.int IntKind.i64 x10]) ∧
 ∀ (n11 : Nat),
 w7.heap.size ≤ n11 →
 ∀ (w12 : World),
 Evo [n11] w7 w12 →
 Under [n11] w12 →
 Calls Proofs.Try.prog 12 #[Value.agg #[Value.int IntKind.i64 2, Value.int IntKind.i64 3], Value.agg #[Value.int IntKind.i64 3, Value.int IntKind.i64 5]] w12 fun (e13 : Ending) (w14 : World) =>
 ∃ (x15 : Int),
 e13 = Ending.returned (Value.int IntKind.i64 x15) ∧
 Keeps [n11] w12 w14 ∧
 ((x15 == 1) = true →
 Calls Proofs.Try.prog 17 #[Value.agg #[Value.int IntKind.i64 6, Value.int IntKind.i64 4]] w14 fun (e16 : Ending) (w17 : World) =>
 ∃ (x18 : Int),
 ∃ (x19 : Int),
 e16 = Ending.returned (Value.agg #[Value.int IntKind.i64 x18, Value.int IntKind.i64 x19]) ∧
 Keeps [n11] w14 w17 ∧
 ((x18 == 3 && (x19 == 2 && true)) = true → ((x10 == 1) = true → R (Ending.returned (Value.bool (x9 == 3))) w17) ∧ ((x10 == 1) = false → R (Ending.returned (Value.bool false)) w17)) ∧
 ((x18 == 3 && (x19 == 2 && true)) = false → R (Ending.returned (Value.bool false)) w17)) ∧
 ((x15 == 1) = false → R (Ending.returned (Value.bool false)) w14)
theorem f16_eq  (w : World) (R : Ending → World → Prop) : (fnF Go.Proofs.Try.prog h16 Go.Proofs.Try.f16 [] w R).den = f16_vc  w R := by kernel_rfl
theorem f16_calls  (w : World) (R : Ending → World → Prop) (h : f16_vc  w R) : Calls Go.Proofs.Try.prog 16 (List.toArray []) w R :=
 fn_sound (H := h16) (fn := Go.Proofs.Try.f16) (by kernel_rfl) (by kernel_rfl) (by kernel_rfl) ((f16_eq  w R).mpr h)


/-! manciple/ratio.Low -/
def h17 : Hints := ⟨[1, 2], [16, 20], [6], [(4, [0, 1, 2, 3, 4, 5, 6, 7, 8, 9])], [], [], [], []⟩
def f17_vc (f_0 : Int) (f_1 : Int) (w : World) (R : Ending → World → Prop) : Prop :=
 ∀ (n1 : Nat),
 w.heap.size ≤ n1 →
 ∀ (n2 : Nat),
 w.heap.size ≤ n2 →
 ∀ (w3 : World),
 Below w.heap.size w w3 →
 Under [n1, n2] w3 →
 Calls Proofs.Try.prog 14 #[Value.agg #[Value.int IntKind.i64 f_0, Value.int IntKind.i64 f_1]] w3 fun (e4 : Ending) (w5 : World) =>
 ∃ (b6 : Bool),
 e4 = Ending.returned (Value.bool b6) ∧
 Keeps [n1, n2] w3 w5 ∧
 ((!b6) = true → ∀ (w7 : World), Evo [n2] w5 w7 → Under [n1, n2] w7 → R (Ending.returned (Value.agg #[Value.int IntKind.i64 0, Value.int IntKind.i64 0])) w7) ∧
 ((!b6) = false →
 Calls Proofs.Try.prog 18 #[Value.int IntKind.i64 f_0, Value.int IntKind.i64 f_1] w5 fun (e8 : Ending) (w9 : World) =>
 ∃ (x10 : Int),
 e8 = Ending.returned (Value.int IntKind.i64 x10) ∧
 Keeps [n1, n2] w5 w9 ∧
 ∃ (x11 : Int),
 Gives Proofs.Try.prog (binOpS BinOp.quo 2 (Operand.tmp 14) (Operand.tmp 15) (Value.int IntKind.i64 f_0) (Value.int IntKind.i64 x10)) (Value.int IntKind.i64 x11) ∧
 ∃ (x12 : Int),
 Gives Proofs.Try.prog (binOpS BinOp.quo 2 (Operand.tmp 18) (Operand.tmp 19) (Value.int IntKind.i64 f_1) (Value.int IntKind.i64 x10)) (Value.int IntKind.i64 x12) ∧
 ∀ (w13 : World), Evo [n2] w9 w13 → Under [n1, n2] w13 → R (Ending.returned (Value.agg #[Value.int IntKind.i64 x11, Value.int IntKind.i64 x12])) w13)
theorem f17_eq (f_0 : Int) (f_1 : Int) (w : World) (R : Ending → World → Prop) : (fnF Go.Proofs.Try.prog h17 Go.Proofs.Try.f17 [Value.agg #[Value.int IntKind.i64 f_0, Value.int IntKind.i64 f_1]] w R).den = f17_vc f_0 f_1 w R := by kernel_rfl
theorem f17_calls (f_0 : Int) (f_1 : Int) (w : World) (R : Ending → World → Prop) (h : f17_vc f_0 f_1 w R) : Calls Go.Proofs.Try.prog 17 (List.toArray [Value.agg #[Value.int IntKind.i64 f_0, Value.int IntKind.i64 f_1]]) w R :=
 fn_sound (H := h17) (fn := Go.Proofs.Try.f17) (by kernel_rfl) (by kernel_rfl) (by kernel_rfl) ((f17_eq f_0 f_1 w R).mpr h)


/-! manciple/ratio.Gcd -/
def h18 : Hints := ⟨[], [16], [10, 12, 7], [(4, [0, 1, 2, 3, 4, 5])], [], [(3, ⟨[(0, .int .i64), (1, .int .i64)], []⟩)], [], []⟩
def f18_vc (a : Int) (b : Int) (w : World) (R : Ending → World → Prop) : Prop :=
 (decide (a < 0) = true → R (Ending.returned (Value.int IntKind.i64 0)) w) ∧
 (decide (a < 0) = false →
 (decide (b < 0) = true → R (Ending.returned (Value.int IntKind.i64 0)) w) ∧
 (decide (b < 0) = false →
 ∃ (J1 : Int × Int × Unit → World → Prop),
 ∃ (J2 : Int × Int × Unit → World → Nat),
 J1 (a, b, ()) w ∧
 ∀ (x3 x4 : Int) (w5 : World),
 J1 (x3, x4, ()) w5 →
 (decide (x4 > 0) = true →
 ∃ (x6 : Int),
 Gives Proofs.Try.prog (binOpS BinOp.rem 2 (Operand.tmp 14) (Operand.tmp 15) (Value.int IntKind.i64 x3) (Value.int IntKind.i64 x4)) (Value.int IntKind.i64 x6) ∧
 ∀ (w7 : World), Below w5.heap.size w5 w7 → J1 (x4, x6, ()) w7 ∧ J2 (x4, x6, ()) w7 < J2 (x3, x4, ()) w5) ∧
 (decide (x4 > 0) = false → R (Ending.returned (Value.int IntKind.i64 x3)) w5)))
theorem f18_eq (a : Int) (b : Int) (w : World) (R : Ending → World → Prop) : (fnF Go.Proofs.Try.prog h18 Go.Proofs.Try.f18 [Value.int IntKind.i64 a, Value.int IntKind.i64 b] w R).den = f18_vc a b w R := by kernel_rfl
theorem f18_calls (a : Int) (b : Int) (w : World) (R : Ending → World → Prop) (h : f18_vc a b w R) : Calls Go.Proofs.Try.prog 18 (List.toArray [Value.int IntKind.i64 a, Value.int IntKind.i64 b]) w R :=
 fn_sound (H := h18) (fn := Go.Proofs.Try.f18) (by kernel_rfl) (by kernel_rfl) (by kernel_rfl) ((f18_eq a b w R).mpr h)


/-! manciple/wide.Mul -/
def h34 : Hints := ⟨[4], [], [], [], [], [], [], []⟩
def f34_vc (a : Int) (b : Int) (w : World) (R : Ending → World → Prop) : Prop :=
 ∀ (n1 : Nat),
 w.heap.size ≤ n1 →
 ∀ (w2 : World),
 Evo [n1] w w2 →
 Under [n1] w2 →
 R
 (Ending.returned
 (Value.agg
 #[Value.int IntKind.u64
 (IntKind.u64.wrap
 (IntKind.u64.wrap
 (IntKind.u64.wrap (a.fdiv 4294967296 * b.fdiv 4294967296) +
 (IntKind.u64.wrap
 (IntKind.u64.wrap (a.fdiv 4294967296 * IntKind.u64.wrap (↑(BitVec.ofInt 64 b &&& BitVec.ofInt 64 4294967295).toNat : Int)) +
 (IntKind.u64.wrap (IntKind.u64.wrap (↑(BitVec.ofInt 64 a &&& BitVec.ofInt 64 4294967295).toNat : Int) * IntKind.u64.wrap (↑(BitVec.ofInt 64 b &&& BitVec.ofInt 64 4294967295).toNat : Int))).fdiv
 4294967296)).fdiv
 4294967296) +
 (IntKind.u64.wrap
 (IntKind.u64.wrap (IntKind.u64.wrap (↑(BitVec.ofInt 64 a &&& BitVec.ofInt 64 4294967295).toNat : Int) * b.fdiv 4294967296) +
 IntKind.u64.wrap
 (↑(BitVec.ofInt 64
 (IntKind.u64.wrap
 (IntKind.u64.wrap (a.fdiv 4294967296 * IntKind.u64.wrap (↑(BitVec.ofInt 64 b &&& BitVec.ofInt 64 4294967295).toNat : Int)) +
 (IntKind.u64.wrap
 (IntKind.u64.wrap (↑(BitVec.ofInt 64 a &&& BitVec.ofInt 64 4294967295).toNat : Int) * IntKind.u64.wrap (↑(BitVec.ofInt 64 b &&& BitVec.ofInt 64 4294967295).toNat : Int))).fdiv
 4294967296)) &&&
 BitVec.ofInt 64 4294967295).toNat :
 Int))).fdiv
 4294967296)),
 Value.int IntKind.u64
 (IntKind.u64.wrap
 (IntKind.u64.wrap
 (IntKind.u64.wrap
 (IntKind.u64.wrap (IntKind.u64.wrap (↑(BitVec.ofInt 64 a &&& BitVec.ofInt 64 4294967295).toNat : Int) * b.fdiv 4294967296) +
 IntKind.u64.wrap
 (↑(BitVec.ofInt 64
 (IntKind.u64.wrap
 (IntKind.u64.wrap (a.fdiv 4294967296 * IntKind.u64.wrap (↑(BitVec.ofInt 64 b &&& BitVec.ofInt 64 4294967295).toNat : Int)) +
 (IntKind.u64.wrap
 (IntKind.u64.wrap (↑(BitVec.ofInt 64 a &&& BitVec.ofInt 64 4294967295).toNat : Int) * IntKind.u64.wrap (↑(BitVec.ofInt 64 b &&& BitVec.ofInt 64 4294967295).toNat : Int))).fdiv
 4294967296)) &&&
 BitVec.ofInt 64 4294967295).toNat :
 Int)) *
 4294967296) +
 IntKind.u64.wrap
 (↑(BitVec.ofInt 64 (IntKind.u64.wrap (IntKind.u64.wrap (↑(BitVec.ofInt 64 a &&& BitVec.ofInt 64 4294967295).toNat : Int) * IntKind.u64.wrap (↑(BitVec.ofInt 64 b &&& BitVec.ofInt 64 4294967295).toNat : Int))) &&&
 BitVec.ofInt 64 4294967295).toNat :
 Int)))]))
 w2
theorem f34_eq (a : Int) (b : Int) (w : World) (R : Ending → World → Prop) : (fnF Go.Proofs.Try.prog h34 Go.Proofs.Try.f34 [Value.int IntKind.u64 a, Value.int IntKind.u64 b] w R).den = f34_vc a b w R := by kernel_rfl
theorem f34_calls (a : Int) (b : Int) (w : World) (R : Ending → World → Prop) (h : f34_vc a b w R) : Calls Go.Proofs.Try.prog 34 (List.toArray [Value.int IntKind.u64 a, Value.int IntKind.u64 b]) w R :=
 fn_sound (H := h34) (fn := Go.Proofs.Try.f34) (by kernel_rfl) (by kernel_rfl) (by kernel_rfl) ((f34_eq a b w R).mpr h)


/-! (manciple/wide.Wide).Cmp -/
def h35 : Hints := ⟨[2, 3], [], [5, 9, 20], [], [], [], [], []⟩
def f35_vc (a_0 : Int) (a_1 : Int) (b_0 : Int) (b_1 : Int) (w : World) (R : Ending → World → Prop) : Prop :=
 ∀ (n1 : Nat),
 w.heap.size ≤ n1 →
 ∀ (n2 : Nat),
 w.heap.size ≤ n2 →
 ((a_0 == b_0 && (a_1 == b_1 && true)) = true → ∀ (w3 : World), Below w.heap.size w w3 → Under [n1, n2] w3 → R (Ending.returned (Value.int IntKind.i64 0)) w3) ∧
 ((a_0 == b_0 && (a_1 == b_1 && true)) = false →
 (decide (a_0 < b_0) = true → ∀ (w4 : World), Below w.heap.size w w4 → Under [n1, n2] w4 → R (Ending.returned (Value.int IntKind.i64 (-1))) w4) ∧
 (decide (a_0 < b_0) = false →
 ((a_0 == b_0) = true →
 (decide (a_1 < b_1) = true → ∀ (w5 : World), Below w.heap.size w w5 → Under [n1, n2] w5 → R (Ending.returned (Value.int IntKind.i64 (-1))) w5) ∧
 (decide (a_1 < b_1) = false → ∀ (w6 : World), Below w.heap.size w w6 → Under [n1, n2] w6 → R (Ending.returned (Value.int IntKind.i64 1)) w6)) ∧
 ((a_0 == b_0) = false → ∀ (w7 : World), Below w.heap.size w w7 → Under [n1, n2] w7 → R (Ending.returned (Value.int IntKind.i64 1)) w7)))
theorem f35_eq (a_0 : Int) (a_1 : Int) (b_0 : Int) (b_1 : Int) (w : World) (R : Ending → World → Prop) : (fnF Go.Proofs.Try.prog h35 Go.Proofs.Try.f35 [Value.agg #[Value.int IntKind.u64 a_0, Value.int IntKind.u64 a_1], Value.agg #[Value.int IntKind.u64 b_0, Value.int IntKind.u64 b_1]] w R).den = f35_vc a_0 a_1 b_0 b_1 w R := by kernel_rfl
theorem f35_calls (a_0 : Int) (a_1 : Int) (b_0 : Int) (b_1 : Int) (w : World) (R : Ending → World → Prop) (h : f35_vc a_0 a_1 b_0 b_1 w R) : Calls Go.Proofs.Try.prog 35 (List.toArray [Value.agg #[Value.int IntKind.u64 a_0, Value.int IntKind.u64 a_1], Value.agg #[Value.int IntKind.u64 b_0, Value.int IntKind.u64 b_1]]) w R :=
 fn_sound (H := h35) (fn := Go.Proofs.Try.f35) (by kernel_rfl) (by kernel_rfl) (by kernel_rfl) ((f35_eq a_0 a_1 b_0 b_1 w R).mpr h)


/-! manciple/mancipleref01.Product -/
def h36 : Hints := ⟨[], [32, 36, 40, 52, 61], [19, 25], [(9, [0, 1, 2, 3, 4, 5, 6, 7, 8, 9, 10, 11, 12, 13, 14, 15, 16, 17, 18])], [], [(3, ⟨[(6, .int .i64)], []⟩), (7, ⟨[(7, .int .i64), (8, .int .i64)], []⟩)], [], []⟩
def f36_vc (aa : Option Addr) (an : Nat) (ac : Nat) (ba : Option Addr) (bn : Nat) (bc : Nat) (w : World) (R : Ending → World → Prop) : Prop :=
 OpW Proofs.Try.prog (valueS (Instr.makeSlice 57 (Value.int IntKind.i64 (IntKind.i64.wrap ((↑an : Int) + (↑bn : Int)))) (Value.int IntKind.i64 (IntKind.i64.wrap ((↑an : Int) + (↑bn : Int)))))) w fun (v1 : Value) (w2 : World) =>
 ∃ (a3 : Option Addr),
 ∃ (n4 : Nat),
 ∃ (n5 : Nat),
 v1 = Value.slice a3 n4 n5 ∧
 ∃ (J6 : Int × Unit → World → Prop),
 ∃ (J7 : Int × Unit → World → Nat),
 J6 (0, ()) w2 ∧
 ∀ (x8 : Int) (w9 : World),
 J6 (x8, ()) w9 →
 (decide (x8 < (↑an : Int)) = true →
 ∃ (J10 : Int × Int × Unit → World → Prop),
 ∃ (J11 : Int × Int × Unit → World → Nat),
 J10 (0, 0, ()) w9 ∧
 ∀ (x12 x13 : Int) (w14 : World),
 J10 (x12, x13, ()) w14 →
 (decide (x13 < (↑bn : Int)) = true →
 ∃ (a15 : Option Addr),
 Gives Proofs.Try.prog (Instr.indexAt 57 (Value.slice a3 n4 n5) (Value.int IntKind.i64 (IntKind.i64.wrap (x8 + x13)))) (Value.pointer a15) ∧
 ∃ (x16 : Int),
 Reads Proofs.Try.prog [] (Instr.loadAt 3 (Value.pointer a15)) w14 (Value.int IntKind.i64 x16) ∧
 ∃ (a17 : Option Addr),
 Gives Proofs.Try.prog (Instr.indexAt 57 (Value.slice aa an ac) (Value.int IntKind.i64 x8)) (Value.pointer a17) ∧
 ∃ (x18 : Int),
 Reads Proofs.Try.prog [] (Instr.loadAt 3 (Value.pointer a17)) w14 (Value.int IntKind.i64 x18) ∧
 ∃ (a19 : Option Addr),
 Gives Proofs.Try.prog (Instr.indexAt 57 (Value.slice ba bn bc) (Value.int IntKind.i64 x13)) (Value.pointer a19) ∧
 ∃ (x20 : Int),
 Reads Proofs.Try.prog [] (Instr.loadAt 3 (Value.pointer a19)) w14 (Value.int IntKind.i64 x20) ∧
 ∃ (a21 : Option Addr),
 Gives Proofs.Try.prog (Instr.indexAt 57 (Value.slice a3 n4 n5) (Value.int IntKind.i64 (IntKind.i64.wrap (x8 + x13)))) (Value.pointer a21) ∧
 ∀ (w22 : World),
 Below w14.heap.size w14 w22 →
 OpW Proofs.Try.prog
 (skipS (Instr.storeAt 3 (Value.pointer a21) (Value.int IntKind.i64 ((IntKind.i64.wrap (IntKind.i64.wrap (x16 + IntKind.i64.wrap (x18 * x20)) + x12)).tmod 65536)))) w22
 fun (v23 : Value) (w24 : World) =>
 J10 (IntKind.i64.wrap ((IntKind.i64.wrap (IntKind.i64.wrap (x16 + IntKind.i64.wrap (x18 * x20)) + x12)).tdiv 65536), IntKind.i64.wrap (x13 + 1), ()) w24 ∧
 J11 (IntKind.i64.wrap ((IntKind.i64.wrap (IntKind.i64.wrap (x16 + IntKind.i64.wrap (x18 * x20)) + x12)).tdiv 65536), IntKind.i64.wrap (x13 + 1), ()) w24 <
 J11 (x12, x13, ()) w14) ∧
 (decide (x13 < (↑bn : Int)) = false →
 ∃ (a25 : Option Addr),
 Gives Proofs.Try.prog (Instr.indexAt 57 (Value.slice a3 n4 n5) (Value.int IntKind.i64 (IntKind.i64.wrap (x8 + (↑bn : Int))))) (Value.pointer a25) ∧
 OpW Proofs.Try.prog (skipS (Instr.storeAt 3 (Value.pointer a25) (Value.int IntKind.i64 x12))) w14 fun (v26 : Value) (w27 : World) =>
 J6 (IntKind.i64.wrap (x8 + 1), ()) w27 ∧ J7 (IntKind.i64.wrap (x8 + 1), ()) w27 < J7 (x8, ()) w9)) ∧
 (decide (x8 < (↑an : Int)) = false → R (Ending.returned (Value.slice a3 n4 n5)) w9)
theorem f36_eq (aa : Option Addr) (an : Nat) (ac : Nat) (ba : Option Addr) (bn : Nat) (bc : Nat) (w : World) (R : Ending → World → Prop) : (fnF Go.Proofs.Try.prog h36 Go.Proofs.Try.f36 [Value.slice aa an ac, Value.slice ba bn bc] w R).den = f36_vc aa an ac ba bn bc w R := by kernel_rfl
theorem f36_calls (aa : Option Addr) (an : Nat) (ac : Nat) (ba : Option Addr) (bn : Nat) (bc : Nat) (w : World) (R : Ending → World → Prop) (h : f36_vc aa an ac ba bn bc w R) : Calls Go.Proofs.Try.prog 36 (List.toArray [Value.slice aa an ac, Value.slice ba bn bc]) w R :=
 fn_sound (H := h36) (fn := Go.Proofs.Try.f36) (by kernel_rfl) (by kernel_rfl) (by kernel_rfl) ((f36_eq aa an ac ba bn bc w R).mpr h)


/-! manciple/mancipleref01.Digits -/
def h37 : Hints := ⟨[], [], [9, 21], [], [], [(3, ⟨[(1, .int .u64), (5, .sl), (6, .int .i64)], []⟩), (8, ⟨[(0, .int .u64), (5, .sl), (7, .int .i64)], []⟩)], [], []⟩
def f37_vc (hi : Int) (lo : Int) (w : World) (R : Ending → World → Prop) : Prop :=
 ∃ (J1 : Int × (Option Addr × Nat × Nat) × Int × Unit → World → Prop),
 ∃ (J2 : Int × (Option Addr × Nat × Nat) × Int × Unit → World → Nat),
 J1 (lo, (none, 0, 0), 0, ()) w ∧
 ∀ (x3 : Int) (a4 : Option Addr) (n5 n6 : Nat) (x7 : Int) (w8 : World),
 J1 (x3, (a4, n5, n6), x7, ()) w8 →
 (decide (x7 < 4) = true →
 OpW Proofs.Try.prog (valueS (Instr.buildSlice 57 1 #[(0, Value.int IntKind.i64 (IntKind.i64.wrap (x3.tmod 65536)))])) w8 fun (v9 : Value) (w10 : World) =>
 ∃ (a11 : Option Addr),
 ∃ (n12 : Nat),
 ∃ (n13 : Nat),
 v9 = Value.slice a11 n12 n13 ∧
 OpW Proofs.Try.prog (builtin Builtin.append #[57, 57] 57 #[false, false] #[Value.slice a4 n5 n6, Value.slice a11 n12 n13]) w10 fun (v14 : Value) (w15 : World) =>
 ∃ (a16 : Option Addr),
 ∃ (n17 : Nat),
 ∃ (n18 : Nat),
 v14 = Value.slice a16 n17 n18 ∧
 J1 (IntKind.u64.wrap (x3.tdiv 65536), (a16, n17, n18), IntKind.i64.wrap (x7 + 1), ()) w15 ∧
 J2 (IntKind.u64.wrap (x3.tdiv 65536), (a16, n17, n18), IntKind.i64.wrap (x7 + 1), ()) w15 < J2 (x3, (a4, n5, n6), x7, ()) w8) ∧
 (decide (x7 < 4) = false →
 ∃ (J19 : Int × (Option Addr × Nat × Nat) × Int × Unit → World → Prop),
 ∃ (J20 : Int × (Option Addr × Nat × Nat) × Int × Unit → World → Nat),
 J19 (hi, (a4, n5, n6), 0, ()) w8 ∧
 ∀ (x21 : Int) (a22 : Option Addr) (n23 n24 : Nat) (x25 : Int) (w26 : World),
 J19 (x21, (a22, n23, n24), x25, ()) w26 →
 (decide (x25 < 4) = true →
 OpW Proofs.Try.prog (valueS (Instr.buildSlice 57 1 #[(0, Value.int IntKind.i64 (IntKind.i64.wrap (x21.tmod 65536)))])) w26 fun (v27 : Value) (w28 : World) =>
 ∃ (a29 : Option Addr),
 ∃ (n30 : Nat),
 ∃ (n31 : Nat),
 v27 = Value.slice a29 n30 n31 ∧
 OpW Proofs.Try.prog (builtin Builtin.append #[57, 57] 57 #[false, false] #[Value.slice a22 n23 n24, Value.slice a29 n30 n31]) w28 fun (v32 : Value) (w33 : World) =>
 ∃ (a34 : Option Addr),
 ∃ (n35 : Nat),
 ∃ (n36 : Nat),
 v32 = Value.slice a34 n35 n36 ∧
 J19 (IntKind.u64.wrap (x21.tdiv 65536), (a34, n35, n36), IntKind.i64.wrap (x25 + 1), ()) w33 ∧
 J20 (IntKind.u64.wrap (x21.tdiv 65536), (a34, n35, n36), IntKind.i64.wrap (x25 + 1), ()) w33 < J20 (x21, (a22, n23, n24), x25, ()) w26) ∧
 (decide (x25 < 4) = false → R (Ending.returned (Value.slice a22 n23 n24)) w26))
theorem f37_eq (hi : Int) (lo : Int) (w : World) (R : Ending → World → Prop) : (fnF Go.Proofs.Try.prog h37 Go.Proofs.Try.f37 [Value.int IntKind.u64 hi, Value.int IntKind.u64 lo] w R).den = f37_vc hi lo w R := by kernel_rfl
theorem f37_calls (hi : Int) (lo : Int) (w : World) (R : Ending → World → Prop) (h : f37_vc hi lo w R) : Calls Go.Proofs.Try.prog 37 (List.toArray [Value.int IntKind.u64 hi, Value.int IntKind.u64 lo]) w R :=
 fn_sound (H := h37) (fn := Go.Proofs.Try.f37) (by kernel_rfl) (by kernel_rfl) (by kernel_rfl) ((f37_eq hi lo w R).mpr h)


/-! manciple/mancipleref01.Less -/
def h38 : Hints := ⟨[], [15, 19, 24, 28], [10, 21], [(4, [0, 1, 2, 3, 4, 5, 6, 7, 8]), (5, [0, 1, 2, 3, 4, 5, 6, 7, 8, 9])], [], [(2, ⟨[(5, .int .i64)], []⟩)], [], []⟩
def f38_vc (aa : Option Addr) (an : Nat) (ac : Nat) (ba : Option Addr) (bn : Nat) (bc : Nat) (w : World) (R : Ending → World → Prop) : Prop :=
 ∃ (J1 : Int × Unit → World → Prop),
 ∃ (J2 : Int × Unit → World → Nat),
 J1 (IntKind.i64.wrap ((↑an : Int) - 1), ()) w ∧
 ∀ (x3 : Int) (w4 : World),
 J1 (x3, ()) w4 →
 (decide (x3 ≥ 0) = true →
 ∃ (a5 : Option Addr),
 Gives Proofs.Try.prog (Instr.indexAt 57 (Value.slice aa an ac) (Value.int IntKind.i64 x3)) (Value.pointer a5) ∧
 ∃ (x6 : Int),
 Reads Proofs.Try.prog [] (Instr.loadAt 3 (Value.pointer a5)) w4 (Value.int IntKind.i64 x6) ∧
 ∃ (a7 : Option Addr),
 Gives Proofs.Try.prog (Instr.indexAt 57 (Value.slice ba bn bc) (Value.int IntKind.i64 x3)) (Value.pointer a7) ∧
 ∃ (x8 : Int),
 Reads Proofs.Try.prog [] (Instr.loadAt 3 (Value.pointer a7)) w4 (Value.int IntKind.i64 x8) ∧
 ((x6 != x8) = true →
 ∃ (a9 : Option Addr),
 Gives Proofs.Try.prog (Instr.indexAt 57 (Value.slice aa an ac) (Value.int IntKind.i64 x3)) (Value.pointer a9) ∧
 ∃ (x10 : Int),
 Reads Proofs.Try.prog [] (Instr.loadAt 3 (Value.pointer a9)) w4 (Value.int IntKind.i64 x10) ∧
 ∃ (a11 : Option Addr),
 Gives Proofs.Try.prog (Instr.indexAt 57 (Value.slice ba bn bc) (Value.int IntKind.i64 x3)) (Value.pointer a11) ∧
 ∃ (x12 : Int),
 Reads Proofs.Try.prog [] (Instr.loadAt 3 (Value.pointer a11)) w4 (Value.int IntKind.i64 x12) ∧
 ∀ (w13 : World), Below w4.heap.size w4 w13 → R (Ending.returned (Value.bool (decide (x10 < x12)))) w13) ∧
 ((x6 != x8) = false → ∀ (w14 : World), Below w4.heap.size w4 w14 → J1 (IntKind.i64.wrap (x3 - 1), ()) w14 ∧ J2 (IntKind.i64.wrap (x3 - 1), ()) w14 < J2 (x3, ()) w4)) ∧
 (decide (x3 ≥ 0) = false → R (Ending.returned (Value.bool false)) w4)
theorem f38_eq (aa : Option Addr) (an : Nat) (ac : Nat) (ba : Option Addr) (bn : Nat) (bc : Nat) (w : World) (R : Ending → World → Prop) : (fnF Go.Proofs.Try.prog h38 Go.Proofs.Try.f38 [Value.slice aa an ac, Value.slice ba bn bc] w R).den = f38_vc aa an ac ba bn bc w R := by kernel_rfl
theorem f38_calls (aa : Option Addr) (an : Nat) (ac : Nat) (ba : Option Addr) (bn : Nat) (bc : Nat) (w : World) (R : Ending → World → Prop) (h : f38_vc aa an ac ba bn bc w R) : Calls Go.Proofs.Try.prog 38 (List.toArray [Value.slice aa an ac, Value.slice ba bn bc]) w R :=
 fn_sound (H := h38) (fn := Go.Proofs.Try.f38) (by kernel_rfl) (by kernel_rfl) (by kernel_rfl) ((f38_eq aa an ac ba bn bc w R).mpr h)

end Vca
