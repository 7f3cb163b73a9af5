/- The formulas of functions, printed by a program (VcTool.lean): each is what the generator's formula comes to, by the kernel's reckoning; whoever proves one has the function's contract. -/
import Derived.Test.YtlapclajdfaajaaVcFn
import Derived.Test.YtlapclajdfaajaaProg
set_option maxRecDepth 100000
set_option maxHeartbeats 1000000
set_option linter.unusedVariables false
namespace Vcbu
open Go Go.Vc Go.RowKit
/-! manciple/manciplelaw07.ShareOf -/
def h6 : Hints := ⟨[3, 4, 7, 9], [], [24, 30, 38], [(3, [0, 1, 2, 3, 4, 5, 6, 7, 8, 9, 10, 11, 13, 14, 12, 15, 16, 17, 18, 19, 20, 21])], [], [], [], [], []⟩
def f6_vc (a_0 : Int) (a_1 : Int) (a_2 : Int) (a_3 : Int) (total_0 : Int) (total_1 : Int) (total_2 : Int) (total_3 : Int) (weight : Int) (w : World) (R : Ending → World → Prop) : Prop :=
 ∀ (n1 : Nat),
 w.heap.size ≤ n1 →
 ∀ (n2 : Nat),
 w.heap.size ≤ n2 →
 ∀ (w3 : World),
 Below w.heap.size w w3 →
 Under [n1, n2] w3 →
 Calls Proofs.Try.prog 20
 #[Value.agg #[Value.int IntKind.i64 a_0, Value.int IntKind.i64 a_1, Value.int IntKind.i64 a_2, Value.int IntKind.i64 a_3],
 Value.agg #[Value.int IntKind.i64 total_0, Value.int IntKind.i64 total_1, Value.int IntKind.i64 total_2, Value.int IntKind.i64 total_3], Value.int IntKind.i64 weight]
 w3 fun (e4 : Ending) (w5 : World) =>
 ∃ (x6 : Int),
 ∃ (x7 : Int),
 ∃ (x8 : Int),
 e4 = Ending.returned (Value.agg #[Value.int IntKind.i64 x6, Value.int IntKind.i64 x7, Value.int IntKind.i64 x8]) ∧
 Keeps [n1, n2] w3 w5 ∧
 ∀ (n9 : Nat),
 w5.heap.size ≤ n9 →
 ∀ (w10 : World),
 Evo [n9] w5 w10 →
 Under [n1, n2, n9] w10 →
 Calls Proofs.Try.prog 21
 #[Value.agg #[Value.int IntKind.i64 a_0, Value.int IntKind.i64 a_1, Value.int IntKind.i64 a_2, Value.int IntKind.i64 a_3],
 Value.agg #[Value.int IntKind.i64 total_0, Value.int IntKind.i64 total_1, Value.int IntKind.i64 total_2, Value.int IntKind.i64 total_3]]
 w10 fun (e11 : Ending) (w12 : World) =>
 ∃ (x13 : Int),
 ∃ (x14 : Int),
 ∃ (x15 : Int),
 e11 = Ending.returned (Value.tuple #[Value.int IntKind.i64 x13, Value.agg #[Value.int IntKind.i64 x14, Value.int IntKind.i64 x15]]) ∧
 Keeps [n1, n2, n9] w10 w12 ∧
 ∀ (n16 : Nat),
 w12.heap.size ≤ n16 →
 ((x6 == x14 && (x7 == x15 && true)) = true →
 ((x8 == weight) = true →
 ∀ (w17 : World),
 Evo [n16] w12 w17 →
 Under [n1, n2, n9, n16] w17 →
 Calls Proofs.Try.prog 13 #[Value.agg #[Value.int IntKind.i64 x6, Value.int IntKind.i64 x7, Value.int IntKind.i64 x8]] w17 fun (e18 : Ending) (w19 : World) =>
 ∃ (b20 : Bool),
 e18 = Ending.returned (Value.bool b20) ∧
 Keeps [n1, n2, n9, n16] w17 w19 ∧
 Calls Proofs.Try.prog 14 #[Value.agg #[Value.int IntKind.i64 x14, Value.int IntKind.i64 x15], Value.int IntKind.i64 weight] w19 fun (e21 : Ending) (w22 : World) =>
 ∃ (b23 : Bool),
 e21 = Ending.returned (Value.bool b23) ∧
 Keeps [n1, n2, n9, n16] w19 w22 ∧
 ((b20 == b23) = true →
 Calls Proofs.Try.prog 16 #[] w22 fun (e24 : Ending) (w25 : World) =>
 ∃ (b26 : Bool), e24 = Ending.returned (Value.bool b26) ∧ Keeps [n1, n2, n9, n16] w22 w25 ∧ R (Ending.returned (Value.bool b26)) w25) ∧
 ((b20 == b23) = false → R (Ending.returned (Value.bool false)) w22)) ∧
 ((x8 == weight) = false → ∀ (w27 : World), Evo [n16] w12 w27 → Under [n1, n2, n9, n16] w27 → R (Ending.returned (Value.bool false)) w27)) ∧
 ((x6 == x14 && (x7 == x15 && true)) = false → ∀ (w28 : World), Evo [n16] w12 w28 → Under [n1, n2, n9, n16] w28 → R (Ending.returned (Value.bool false)) w28)
theorem f6_eq (a_0 : Int) (a_1 : Int) (a_2 : Int) (a_3 : Int) (total_0 : Int) (total_1 : Int) (total_2 : Int) (total_3 : Int) (weight : Int) (w : World) (R : Ending → World → Prop) : (fnF Go.Proofs.Try.prog h6 Go.Proofs.Try.f6 [Value.agg #[Value.int IntKind.i64 a_0, Value.int IntKind.i64 a_1, Value.int IntKind.i64 a_2, Value.int IntKind.i64 a_3],
 Value.agg #[Value.int IntKind.i64 total_0, Value.int IntKind.i64 total_1, Value.int IntKind.i64 total_2, Value.int IntKind.i64 total_3], Value.int IntKind.i64 weight] w R).den = f6_vc a_0 a_1 a_2 a_3 total_0 total_1 total_2 total_3 weight w R := by kernel_rfl
theorem f6_calls (a_0 : Int) (a_1 : Int) (a_2 : Int) (a_3 : Int) (total_0 : Int) (total_1 : Int) (total_2 : Int) (total_3 : Int) (weight : Int) (w : World) (R : Ending → World → Prop) (h : f6_vc a_0 a_1 a_2 a_3 total_0 total_1 total_2 total_3 weight w R) : Calls Go.Proofs.Try.prog 6 (List.toArray [Value.agg #[Value.int IntKind.i64 a_0, Value.int IntKind.i64 a_1, Value.int IntKind.i64 a_2, Value.int IntKind.i64 a_3],
 Value.agg #[Value.int IntKind.i64 total_0, Value.int IntKind.i64 total_1, Value.int IntKind.i64 total_2, Value.int IntKind.i64 total_3], Value.int IntKind.i64 weight]) w R :=
 fn_sound (H := h6) (fn := Go.Proofs.Try.f6) (by kernel_rfl) (by kernel_rfl) (by kernel_rfl) ((f6_eq a_0 a_1 a_2 a_3 total_0 total_1 total_2 total_3 weight w R).mpr h)


/-! manciple/manciplelaw06.SumsDominant -/
def h7 : Hints := ⟨[2, 3, 6, 8], [], [24, 29], [], [], [], [], [], []⟩
def f7_vc (a_0 : Int) (a_1 : Int) (a_2 : Int) (a_3 : Int) (total_0 : Int) (total_1 : Int) (total_2 : Int) (total_3 : Int) (w : World) (R : Ending → World → Prop) : Prop :=
 ∀ (n1 : Nat),
 w.heap.size ≤ n1 →
 ∀ (n2 : Nat),
 w.heap.size ≤ n2 →
 ∀ (w3 : World),
 Below w.heap.size w w3 →
 Under [n1, n2] w3 →
 Calls Proofs.Try.prog 22
 #[Value.agg #[Value.int IntKind.i64 a_0, Value.int IntKind.i64 a_1, Value.int IntKind.i64 a_2, Value.int IntKind.i64 a_3],
 Value.agg #[Value.int IntKind.i64 total_0, Value.int IntKind.i64 total_1, Value.int IntKind.i64 total_2, Value.int IntKind.i64 total_3]]
 w3 fun (e4 : Ending) (w5 : World) =>
 ∃ (x6 : Int),
 ∃ (x7 : Int),
 ∃ (x8 : Int),
 e4 = Ending.returned (Value.tuple #[Value.int IntKind.i64 x6, Value.agg #[Value.int IntKind.i64 x7, Value.int IntKind.i64 x8]]) ∧
 Keeps [n1, n2] w3 w5 ∧
 ∀ (n9 : Nat),
 w5.heap.size ≤ n9 →
 ∀ (w10 : World),
 Evo [n9] w5 w10 →
 Under [n1, n2, n9] w10 →
 Calls Proofs.Try.prog 21
 #[Value.agg #[Value.int IntKind.i64 a_0, Value.int IntKind.i64 a_1, Value.int IntKind.i64 a_2, Value.int IntKind.i64 a_3],
 Value.agg #[Value.int IntKind.i64 total_0, Value.int IntKind.i64 total_1, Value.int IntKind.i64 total_2, Value.int IntKind.i64 total_3]]
 w10 fun (e11 : Ending) (w12 : World) =>
 ∃ (x13 : Int),
 ∃ (x14 : Int),
 ∃ (x15 : Int),
 e11 = Ending.returned (Value.tuple #[Value.int IntKind.i64 x13, Value.agg #[Value.int IntKind.i64 x14, Value.int IntKind.i64 x15]]) ∧
 Keeps [n1, n2, n9] w10 w12 ∧
 ∀ (n16 : Nat),
 w12.heap.size ≤ n16 →
 ((x6 == x13) = true →
 ((x7 == x14 && (x8 == x15 && true)) = true →
 ∀ (w17 : World),
 Evo [n16] w12 w17 →
 Under [n1, n2, n9, n16] w17 →
 Calls Proofs.Try.prog 23 #[] w17 fun (e18 : Ending) (w19 : World) =>
 ∃ (b20 : Bool), e18 = Ending.returned (Value.bool b20) ∧ Keeps [n1, n2, n9, n16] w17 w19 ∧ R (Ending.returned (Value.bool b20)) w19) ∧
 ((x7 == x14 && (x8 == x15 && true)) = false → ∀ (w21 : World), Evo [n16] w12 w21 → Under [n1, n2, n9, n16] w21 → R (Ending.returned (Value.bool false)) w21)) ∧
 ((x6 == x13) = false → ∀ (w22 : World), Evo [n16] w12 w22 → Under [n1, n2, n9, n16] w22 → R (Ending.returned (Value.bool false)) w22)
theorem f7_eq (a_0 : Int) (a_1 : Int) (a_2 : Int) (a_3 : Int) (total_0 : Int) (total_1 : Int) (total_2 : Int) (total_3 : Int) (w : World) (R : Ending → World → Prop) : (fnF Go.Proofs.Try.prog h7 Go.Proofs.Try.f7 [Value.agg #[Value.int IntKind.i64 a_0, Value.int IntKind.i64 a_1, Value.int IntKind.i64 a_2, Value.int IntKind.i64 a_3],
 Value.agg #[Value.int IntKind.i64 total_0, Value.int IntKind.i64 total_1, Value.int IntKind.i64 total_2, Value.int IntKind.i64 total_3]] w R).den = f7_vc a_0 a_1 a_2 a_3 total_0 total_1 total_2 total_3 w R := by kernel_rfl
theorem f7_calls (a_0 : Int) (a_1 : Int) (a_2 : Int) (a_3 : Int) (total_0 : Int) (total_1 : Int) (total_2 : Int) (total_3 : Int) (w : World) (R : Ending → World → Prop) (h : f7_vc a_0 a_1 a_2 a_3 total_0 total_1 total_2 total_3 w R) : Calls Go.Proofs.Try.prog 7 (List.toArray [Value.agg #[Value.int IntKind.i64 a_0, Value.int IntKind.i64 a_1, Value.int IntKind.i64 a_2, Value.int IntKind.i64 a_3],
 Value.agg #[Value.int IntKind.i64 total_0, Value.int IntKind.i64 total_1, Value.int IntKind.i64 total_2, Value.int IntKind.i64 total_3]]) w R :=
 fn_sound (H := h7) (fn := Go.Proofs.Try.f7) (by kernel_rfl) (by kernel_rfl) (by kernel_rfl) ((f7_eq a_0 a_1 a_2 a_3 total_0 total_1 total_2 total_3 w R).mpr h)


/-! manciple/manciplelaw06.SumsMany -/
def h8 : Hints := ⟨[2, 3], [34, 40, 43, 45, 51, 57, 60, 62], [23, 47, 14, 19, 26, 37, 49, 54, 68, 71, 79], [(8, [0, 1, 2, 3, 4, 5, 6, 7, 8, 9, 10, 11, 12, 13, 14]), (10, [0, 1, 2, 3, 4, 5, 6, 7, 8, 9, 10, 11, 12, 13, 14, 15, 16, 17, 18])], [(6, 5)], [], [(7, ⟨[(6, .bool)], []⟩)], [], []⟩
def f8_vc (a_0 : Int) (a_1 : Int) (a_2 : Int) (a_3 : Int) (b_0 : Int) (b_1 : Int) (b_2 : Int) (b_3 : Int) (w : World) (R : Ending → World → Prop) : Prop :=
 ∀ (n1 : Nat),
 w.heap.size ≤ n1 →
 ∀ (n2 : Nat),
 w.heap.size ≤ n2 →
 ∀ (w3 : World),
 Below w.heap.size w w3 →
 Under [n1, n2] w3 →
 Calls Proofs.Try.prog 24
 #[Value.agg #[Value.int IntKind.i64 a_0, Value.int IntKind.i64 a_1, Value.int IntKind.i64 a_2, Value.int IntKind.i64 a_3],
 Value.agg #[Value.int IntKind.i64 b_0, Value.int IntKind.i64 b_1, Value.int IntKind.i64 b_2, Value.int IntKind.i64 b_3]]
 w3 fun (e4 : Ending) (w5 : World) =>
 ∃ (x6 : Int),
 e4 = Ending.returned (Value.int IntKind.i64 x6) ∧
 Keeps [n1, n2] w3 w5 ∧
 Calls Proofs.Try.prog 25 #[Value.agg #[Value.int IntKind.i64 a_0, Value.int IntKind.i64 a_1, Value.int IntKind.i64 a_2, Value.int IntKind.i64 a_3]] w5 fun (e7 : Ending) (w8 : World) =>
 ∃ (b9 : Bool),
 e7 = Ending.returned (Value.bool b9) ∧
 Keeps [n1, n2] w5 w8 ∧
 ((!b9) = true →
 ((x6 == 0) = true →
 Calls Proofs.Try.prog 23 #[] w8 fun (e10 : Ending) (w11 : World) => ∃ (b12 : Bool), e10 = Ending.returned (Value.bool b12) ∧ Keeps [n1, n2] w8 w11 ∧ R (Ending.returned (Value.bool b12)) w11) ∧
 ((x6 == 0) = false → R (Ending.returned (Value.bool false)) w8)) ∧
 ((!b9) = false →
 Calls Proofs.Try.prog 25 #[Value.agg #[Value.int IntKind.i64 b_0, Value.int IntKind.i64 b_1, Value.int IntKind.i64 b_2, Value.int IntKind.i64 b_3]] w8 fun (e13 : Ending) (w14 : World) =>
 ∃ (b15 : Bool),
 e13 = Ending.returned (Value.bool b15) ∧
 Keeps [n1, n2] w8 w14 ∧
 ((!b15) = true →
 ((x6 == 0) = true →
 Calls Proofs.Try.prog 23 #[] w14 fun (e16 : Ending) (w17 : World) =>
 ∃ (b18 : Bool), e16 = Ending.returned (Value.bool b18) ∧ Keeps [n1, n2] w14 w17 ∧ R (Ending.returned (Value.bool b18)) w17) ∧
 ((x6 == 0) = false → R (Ending.returned (Value.bool false)) w14)) ∧
 ((!b15) = false →
 ((b_0 == 0 && (b_1 == 0 && (b_2 == 0 && (b_3 == 0 && true)))) = true →
 ((x6 == 0) = true →
 Calls Proofs.Try.prog 23 #[] w14 fun (e19 : Ending) (w20 : World) =>
 ∃ (b21 : Bool), e19 = Ending.returned (Value.bool b21) ∧ Keeps [n1, n2] w14 w20 ∧ R (Ending.returned (Value.bool b21)) w20) ∧
 ((x6 == 0) = false → R (Ending.returned (Value.bool false)) w14)) ∧
 ((b_0 == 0 && (b_1 == 0 && (b_2 == 0 && (b_3 == 0 && true)))) = false →
 ∃ (J22 : Bool × Unit → World → Prop),
 ((decide (b_0 > 0) = true →
 ∃ (x23 : Int),
 Gives Proofs.Try.prog (binOpS BinOp.quo 2 (Operand.tmp 41) (Operand.tmp 44) (Value.int IntKind.i64 a_0) (Value.int IntKind.i64 b_0)) (Value.int IntKind.i64 x23) ∧
 (decide (x6 > x23) = true → ∀ (w24 : World), Below w14.heap.size w14 w24 → Under [n1, n2] w24 → R (Ending.returned (Value.bool false)) w24) ∧
 (decide (x6 > x23) = false →
 (decide (b_0 > 0) = true →
 ∃ (x25 : Int),
 Gives Proofs.Try.prog (binOpS BinOp.quo 2 (Operand.tmp 58) (Operand.tmp 61) (Value.int IntKind.i64 a_0) (Value.int IntKind.i64 b_0)) (Value.int IntKind.i64 x25) ∧
 ∀ (w26 : World), Below w14.heap.size w14 w26 → Under [n1, n2] w26 → J22 (x6 == x25, ()) w26) ∧
 (decide (b_0 > 0) = false → ∀ (w27 : World), Below w14.heap.size w14 w27 → Under [n1, n2] w27 → J22 (false, ()) w27))) ∧
 (decide (b_0 > 0) = false →
 (decide (b_0 > 0) = true →
 ∃ (x28 : Int),
 Gives Proofs.Try.prog (binOpS BinOp.quo 2 (Operand.tmp 58) (Operand.tmp 61) (Value.int IntKind.i64 a_0) (Value.int IntKind.i64 b_0)) (Value.int IntKind.i64 x28) ∧
 ∀ (w29 : World), Below w14.heap.size w14 w29 → Under [n1, n2] w29 → J22 (x6 == x28, ()) w29) ∧
 (decide (b_0 > 0) = false → ∀ (w30 : World), Below w14.heap.size w14 w30 → Under [n1, n2] w30 → J22 (false, ()) w30))) ∧
 ∀ (b31 : Bool) (w32 : World),
 J22 (b31, ()) w32 →
 ∃ (J33 : Bool × Unit → World → Prop),
 ((decide (b_1 > 0) = true →
 ∃ (x34 : Int),
 Gives Proofs.Try.prog (binOpS BinOp.quo 2 (Operand.tmp 41) (Operand.tmp 44) (Value.int IntKind.i64 a_1) (Value.int IntKind.i64 b_1)) (Value.int IntKind.i64 x34) ∧
 (decide (x6 > x34) = true → ∀ (w35 : World), Below w32.heap.size w32 w35 → Under [n1, n2] w35 → R (Ending.returned (Value.bool false)) w35) ∧
 (decide (x6 > x34) = false →
 (b31 = true → ∀ (w36 : World), Below w32.heap.size w32 w36 → Under [n1, n2] w36 → J33 (true, ()) w36) ∧
 (b31 = false →
 (decide (b_1 > 0) = true →
 ∃ (x37 : Int),
 Gives Proofs.Try.prog (binOpS BinOp.quo 2 (Operand.tmp 58) (Operand.tmp 61) (Value.int IntKind.i64 a_1) (Value.int IntKind.i64 b_1))
 (Value.int IntKind.i64 x37) ∧
 ∀ (w38 : World), Below w32.heap.size w32 w38 → Under [n1, n2] w38 → J33 (x6 == x37, ()) w38) ∧
 (decide (b_1 > 0) = false → ∀ (w39 : World), Below w32.heap.size w32 w39 → Under [n1, n2] w39 → J33 (false, ()) w39)))) ∧
 (decide (b_1 > 0) = false →
 (b31 = true → ∀ (w40 : World), Below w32.heap.size w32 w40 → Under [n1, n2] w40 → J33 (true, ()) w40) ∧
 (b31 = false →
 (decide (b_1 > 0) = true →
 ∃ (x41 : Int),
 Gives Proofs.Try.prog (binOpS BinOp.quo 2 (Operand.tmp 58) (Operand.tmp 61) (Value.int IntKind.i64 a_1) (Value.int IntKind.i64 b_1)) (Value.int IntKind.i64 x41) ∧
 ∀ (w42 : World), Below w32.heap.size w32 w42 → Under [n1, n2] w42 → J33 (x6 == x41, ()) w42) ∧
 (decide (b_1 > 0) = false → ∀ (w43 : World), Below w32.heap.size w32 w43 → Under [n1, n2] w43 → J33 (false, ()) w43)))) ∧
 ∀ (b44 : Bool) (w45 : World),
 J33 (b44, ()) w45 →
 ∃ (J46 : Bool × Unit → World → Prop),
 ((decide (b_2 > 0) = true →
 ∃ (x47 : Int),
 Gives Proofs.Try.prog (binOpS BinOp.quo 2 (Operand.tmp 41) (Operand.tmp 44) (Value.int IntKind.i64 a_2) (Value.int IntKind.i64 b_2)) (Value.int IntKind.i64 x47) ∧
 (decide (x6 > x47) = true → ∀ (w48 : World), Below w45.heap.size w45 w48 → Under [n1, n2] w48 → R (Ending.returned (Value.bool false)) w48) ∧
 (decide (x6 > x47) = false →
 (b44 = true → ∀ (w49 : World), Below w45.heap.size w45 w49 → Under [n1, n2] w49 → J46 (true, ()) w49) ∧
 (b44 = false →
 (decide (b_2 > 0) = true →
 ∃ (x50 : Int),
 Gives Proofs.Try.prog (binOpS BinOp.quo 2 (Operand.tmp 58) (Operand.tmp 61) (Value.int IntKind.i64 a_2) (Value.int IntKind.i64 b_2))
 (Value.int IntKind.i64 x50) ∧
 ∀ (w51 : World), Below w45.heap.size w45 w51 → Under [n1, n2] w51 → J46 (x6 == x50, ()) w51) ∧
 (decide (b_2 > 0) = false → ∀ (w52 : World), Below w45.heap.size w45 w52 → Under [n1, n2] w52 → J46 (false, ()) w52)))) ∧
 (decide (b_2 > 0) = false →
 (b44 = true → ∀ (w53 : World), Below w45.heap.size w45 w53 → Under [n1, n2] w53 → J46 (true, ()) w53) ∧
 (b44 = false →
 (decide (b_2 > 0) = true →
 ∃ (x54 : Int),
 Gives Proofs.Try.prog (binOpS BinOp.quo 2 (Operand.tmp 58) (Operand.tmp 61) (Value.int IntKind.i64 a_2) (Value.int IntKind.i64 b_2))
 (Value.int IntKind.i64 x54) ∧
 ∀ (w55 : World), Below w45.heap.size w45 w55 → Under [n1, n2] w55 → J46 (x6 == x54, ()) w55) ∧
 (decide (b_2 > 0) = false → ∀ (w56 : World), Below w45.heap.size w45 w56 → Under [n1, n2] w56 → J46 (false, ()) w56)))) ∧
 ∀ (b57 : Bool) (w58 : World),
 J46 (b57, ()) w58 →
 ∃ (J59 : Bool × Unit → World → Prop),
 ((decide (b_3 > 0) = true →
 ∃ (x60 : Int),
 Gives Proofs.Try.prog (binOpS BinOp.quo 2 (Operand.tmp 41) (Operand.tmp 44) (Value.int IntKind.i64 a_3) (Value.int IntKind.i64 b_3))
 (Value.int IntKind.i64 x60) ∧
 (decide (x6 > x60) = true → ∀ (w61 : World), Below w58.heap.size w58 w61 → Under [n1, n2] w61 → R (Ending.returned (Value.bool false)) w61) ∧
 (decide (x6 > x60) = false →
 (b57 = true → ∀ (w62 : World), Below w58.heap.size w58 w62 → Under [n1, n2] w62 → J59 (true, ()) w62) ∧
 (b57 = false →
 (decide (b_3 > 0) = true →
 ∃ (x63 : Int),
 Gives Proofs.Try.prog (binOpS BinOp.quo 2 (Operand.tmp 58) (Operand.tmp 61) (Value.int IntKind.i64 a_3) (Value.int IntKind.i64 b_3))
 (Value.int IntKind.i64 x63) ∧
 ∀ (w64 : World), Below w58.heap.size w58 w64 → Under [n1, n2] w64 → J59 (x6 == x63, ()) w64) ∧
 (decide (b_3 > 0) = false → ∀ (w65 : World), Below w58.heap.size w58 w65 → Under [n1, n2] w65 → J59 (false, ()) w65)))) ∧
 (decide (b_3 > 0) = false →
 (b57 = true → ∀ (w66 : World), Below w58.heap.size w58 w66 → Under [n1, n2] w66 → J59 (true, ()) w66) ∧
 (b57 = false →
 (decide (b_3 > 0) = true →
 ∃ (x67 : Int),
 Gives Proofs.Try.prog (binOpS BinOp.quo 2 (Operand.tmp 58) (Operand.tmp 61) (Value.int IntKind.i64 a_3) (Value.int IntKind.i64 b_3))
 (Value.int IntKind.i64 x67) ∧
 ∀ (w68 : World), Below w58.heap.size w58 w68 → Under [n1, n2] w68 → J59 (x6 == x67, ()) w68) ∧
 (decide (b_3 > 0) = false → ∀ (w69 : World), Below w58.heap.size w58 w69 → Under [n1, n2] w69 → J59 (false, ()) w69)))) ∧
 ∀ (b70 : Bool) (w71 : World),
 J59 (b70, ()) w71 →
 (decide (x6 ≥ 0) = true →
 (b70 = true →
 Calls Proofs.Try.prog 26
 #[Value.agg #[Value.int IntKind.i64 a_0, Value.int IntKind.i64 a_1, Value.int IntKind.i64 a_2, Value.int IntKind.i64 a_3],
 Value.agg #[Value.int IntKind.i64 b_0, Value.int IntKind.i64 b_1, Value.int IntKind.i64 b_2, Value.int IntKind.i64 b_3]]
 w71 fun (e72 : Ending) (w73 : World) =>
 ∃ (b74 : Bool),
 e72 = Ending.returned (Value.bool b74) ∧
 Keeps [n1, n2] w71 w73 ∧
 ((b74 == decide (x6 > 0)) = true →
 Calls Proofs.Try.prog 23 #[] w73 fun (e75 : Ending) (w76 : World) =>
 ∃ (b77 : Bool), e75 = Ending.returned (Value.bool b77) ∧ Keeps [n1, n2] w73 w76 ∧ R (Ending.returned (Value.bool b77)) w76) ∧
 ((b74 == decide (x6 > 0)) = false → R (Ending.returned (Value.bool false)) w73)) ∧
 (b70 = false → R (Ending.returned (Value.bool false)) w71)) ∧
 (decide (x6 ≥ 0) = false → R (Ending.returned (Value.bool false)) w71))))
theorem f8_eq (a_0 : Int) (a_1 : Int) (a_2 : Int) (a_3 : Int) (b_0 : Int) (b_1 : Int) (b_2 : Int) (b_3 : Int) (w : World) (R : Ending → World → Prop) : (fnF Go.Proofs.Try.prog h8 Go.Proofs.Try.f8 [Value.agg #[Value.int IntKind.i64 a_0, Value.int IntKind.i64 a_1, Value.int IntKind.i64 a_2, Value.int IntKind.i64 a_3],
 Value.agg #[Value.int IntKind.i64 b_0, Value.int IntKind.i64 b_1, Value.int IntKind.i64 b_2, Value.int IntKind.i64 b_3]] w R).den = f8_vc a_0 a_1 a_2 a_3 b_0 b_1 b_2 b_3 w R := by kernel_rfl
theorem f8_calls (a_0 : Int) (a_1 : Int) (a_2 : Int) (a_3 : Int) (b_0 : Int) (b_1 : Int) (b_2 : Int) (b_3 : Int) (w : World) (R : Ending → World → Prop) (h : f8_vc a_0 a_1 a_2 a_3 b_0 b_1 b_2 b_3 w R) : Calls Go.Proofs.Try.prog 8 (List.toArray [Value.agg #[Value.int IntKind.i64 a_0, Value.int IntKind.i64 a_1, Value.int IntKind.i64 a_2, Value.int IntKind.i64 a_3],
 Value.agg #[Value.int IntKind.i64 b_0, Value.int IntKind.i64 b_1, Value.int IntKind.i64 b_2, Value.int IntKind.i64 b_3]]) w R :=
 fn_sound (H := h8) (fn := Go.Proofs.Try.f8) (by kernel_rfl) (by kernel_rfl) (by kernel_rfl) ((f8_eq a_0 a_1 a_2 a_3 b_0 b_1 b_2 b_3 w R).mpr h)


/-! manciple/manciplelaw06.SumsReckon -/
def h9 : Hints := ⟨[2, 3, 5, 7, 9, 11], [], [40, 45, 50, 55, 64, 71], [(5, [0, 1, 2, 3, 4, 5, 6, 7, 8, 9, 10, 11, 12, 13, 14, 15, 16, 17, 18, 19, 20, 22, 23, 21, 24, 25, 26, 27, 28, 30, 29, 31, 32, 33, 34, 35, 36, 37])], [], [], [], [], []⟩
def f9_vc (a_0 : Int) (a_1 : Int) (a_2 : Int) (a_3 : Int) (b_0 : Int) (b_1 : Int) (b_2 : Int) (b_3 : Int) (w : World) (R : Ending → World → Prop) : Prop :=
 ∀ (n1 : Nat),
 w.heap.size ≤ n1 →
 ∀ (n2 : Nat),
 w.heap.size ≤ n2 →
 ∀ (w3 : World),
 Below w.heap.size w w3 →
 Under [n1, n2] w3 →
 Calls Proofs.Try.prog 27
 #[Value.agg #[Value.int IntKind.i64 a_0, Value.int IntKind.i64 a_1, Value.int IntKind.i64 a_2, Value.int IntKind.i64 a_3],
 Value.agg #[Value.int IntKind.i64 b_0, Value.int IntKind.i64 b_1, Value.int IntKind.i64 b_2, Value.int IntKind.i64 b_3]]
 w3 fun (e4 : Ending) (w5 : World) =>
 ∃ (x6 : Int),
 ∃ (x7 : Int),
 ∃ (x8 : Int),
 ∃ (x9 : Int),
 ∃ (b10 : Bool),
 e4 = Ending.returned (Value.tuple #[Value.agg #[Value.int IntKind.i64 x6, Value.int IntKind.i64 x7, Value.int IntKind.i64 x8, Value.int IntKind.i64 x9], Value.bool b10]) ∧
 Keeps [n1, n2] w3 w5 ∧
 ∀ (n11 : Nat),
 w5.heap.size ≤ n11 →
 ∀ (w12 : World),
 Evo [n11] w5 w12 →
 Under [n1, n2, n11] w12 →
 Calls Proofs.Try.prog 28
 #[Value.agg #[Value.int IntKind.i64 a_0, Value.int IntKind.i64 a_1, Value.int IntKind.i64 a_2, Value.int IntKind.i64 a_3],
 Value.agg #[Value.int IntKind.i64 b_0, Value.int IntKind.i64 b_1, Value.int IntKind.i64 b_2, Value.int IntKind.i64 b_3]]
 w12 fun (e13 : Ending) (w14 : World) =>
 ∃ (x15 : Int),
 ∃ (x16 : Int),
 ∃ (x17 : Int),
 ∃ (x18 : Int),
 ∃ (b19 : Bool),
 e13 = Ending.returned (Value.tuple #[Value.agg #[Value.int IntKind.i64 x15, Value.int IntKind.i64 x16, Value.int IntKind.i64 x17, Value.int IntKind.i64 x18], Value.bool b19]) ∧
 Keeps [n1, n2, n11] w12 w14 ∧
 ∀ (n20 : Nat),
 w14.heap.size ≤ n20 →
 ∀ (w21 : World),
 Evo [n20] w14 w21 →
 Under [n1, n2, n11, n20] w21 →
 Calls Proofs.Try.prog 29
 #[Value.agg #[Value.int IntKind.i64 a_0, Value.int IntKind.i64 a_1, Value.int IntKind.i64 a_2, Value.int IntKind.i64 a_3],
 Value.agg #[Value.int IntKind.i64 b_0, Value.int IntKind.i64 b_1, Value.int IntKind.i64 b_2, Value.int IntKind.i64 b_3]]
 w21 fun (e22 : Ending) (w23 : World) =>
 ∃ (x24 : Int),
 ∃ (x25 : Int),
 ∃ (x26 : Int),
 ∃ (x27 : Int),
 ∃ (b28 : Bool),
 e22 =
 Ending.returned
 (Value.tuple #[Value.agg #[Value.int IntKind.i64 x24, Value.int IntKind.i64 x25, Value.int IntKind.i64 x26, Value.int IntKind.i64 x27], Value.bool b28]) ∧
 Keeps [n1, n2, n11, n20] w21 w23 ∧
 ∀ (n29 : Nat),
 w23.heap.size ≤ n29 →
 ∀ (w30 : World),
 Evo [n29] w23 w30 →
 Under [n1, n2, n11, n20, n29] w30 →
 Calls Proofs.Try.prog 30
 #[Value.agg #[Value.int IntKind.i64 a_0, Value.int IntKind.i64 a_1, Value.int IntKind.i64 a_2, Value.int IntKind.i64 a_3],
 Value.agg #[Value.int IntKind.i64 b_0, Value.int IntKind.i64 b_1, Value.int IntKind.i64 b_2, Value.int IntKind.i64 b_3]]
 w30 fun (e31 : Ending) (w32 : World) =>
 ∃ (x33 : Int),
 ∃ (x34 : Int),
 ∃ (x35 : Int),
 ∃ (x36 : Int),
 ∃ (b37 : Bool),
 e31 =
 Ending.returned
 (Value.tuple
 #[Value.agg #[Value.int IntKind.i64 x33, Value.int IntKind.i64 x34, Value.int IntKind.i64 x35, Value.int IntKind.i64 x36],
 Value.bool b37]) ∧
 Keeps [n1, n2, n11, n20, n29] w30 w32 ∧
 ∀ (n38 : Nat),
 w32.heap.size ≤ n38 →
 ((x6 == x15 && (x7 == x16 && (x8 == x17 && (x9 == x18 && true)))) = true →
 ((b10 == b19) = true →
 ((x24 == x33 && (x25 == x34 && (x26 == x35 && (x27 == x36 && true)))) = true →
 ((b28 == b37) = true →
 ∀ (w39 : World),
 Evo [n38] w32 w39 →
 Under [n1, n2, n11, n20, n29, n38] w39 →
 Calls Proofs.Try.prog 26
 #[Value.agg
 #[Value.int IntKind.i64 a_0, Value.int IntKind.i64 a_1, Value.int IntKind.i64 a_2,
 Value.int IntKind.i64 a_3],
 Value.agg
 #[Value.int IntKind.i64 b_0, Value.int IntKind.i64 b_1, Value.int IntKind.i64 b_2,
 Value.int IntKind.i64 b_3]]
 w39 fun (e40 : Ending) (w41 : World) =>
 ∃ (b42 : Bool),
 e40 = Ending.returned (Value.bool b42) ∧
 Keeps [n1, n2, n11, n20, n29, n38] w39 w41 ∧
 Calls Proofs.Try.prog 31
 #[Value.agg
 #[Value.int IntKind.i64 a_0, Value.int IntKind.i64 a_1, Value.int IntKind.i64 a_2,
 Value.int IntKind.i64 a_3],
 Value.agg
 #[Value.int IntKind.i64 b_0, Value.int IntKind.i64 b_1, Value.int IntKind.i64 b_2,
 Value.int IntKind.i64 b_3]]
 w41 fun (e43 : Ending) (w44 : World) =>
 ∃ (b45 : Bool),
 e43 = Ending.returned (Value.bool b45) ∧
 Keeps [n1, n2, n11, n20, n29, n38] w41 w44 ∧
 ((b42 == b45) = true →
 Calls Proofs.Try.prog 25
 #[Value.agg
 #[Value.int IntKind.i64 a_0, Value.int IntKind.i64 a_1,
 Value.int IntKind.i64 a_2, Value.int IntKind.i64 a_3]]
 w44 fun (e46 : Ending) (w47 : World) =>
 ∃ (b48 : Bool),
 e46 = Ending.returned (Value.bool b48) ∧
 Keeps [n1, n2, n11, n20, n29, n38] w44 w47 ∧
 Calls Proofs.Try.prog 32
 #[Value.agg
 #[Value.int IntKind.i64 a_0, Value.int IntKind.i64 a_1,
 Value.int IntKind.i64 a_2, Value.int IntKind.i64 a_3]]
 w47 fun (e49 : Ending) (w50 : World) =>
 ∃ (b51 : Bool),
 e49 = Ending.returned (Value.bool b51) ∧
 Keeps [n1, n2, n11, n20, n29, n38] w47 w50 ∧
 ((b48 == b51) = true →
 Calls Proofs.Try.prog 23 #[] w50
 fun (e52 : Ending) (w53 : World) =>
 ∃ (b54 : Bool),
 e52 = Ending.returned (Value.bool b54) ∧
 Keeps [n1, n2, n11, n20, n29, n38] w50 w53 ∧
 R (Ending.returned (Value.bool b54)) w53) ∧
 ((b48 == b51) = false →
 R (Ending.returned (Value.bool false)) w50)) ∧
 ((b42 == b45) = false → R (Ending.returned (Value.bool false)) w44)) ∧
 ((b28 == b37) = false →
 ∀ (w55 : World),
 Evo [n38] w32 w55 → Under [n1, n2, n11, n20, n29, n38] w55 → R (Ending.returned (Value.bool false)) w55)) ∧
 ((x24 == x33 && (x25 == x34 && (x26 == x35 && (x27 == x36 && true)))) = false →
 ∀ (w56 : World),
 Evo [n38] w32 w56 → Under [n1, n2, n11, n20, n29, n38] w56 → R (Ending.returned (Value.bool false)) w56)) ∧
 ((b10 == b19) = false →
 ∀ (w57 : World),
 Evo [n38] w32 w57 → Under [n1, n2, n11, n20, n29, n38] w57 → R (Ending.returned (Value.bool false)) w57)) ∧
 ((x6 == x15 && (x7 == x16 && (x8 == x17 && (x9 == x18 && true)))) = false →
 ∀ (w58 : World), Evo [n38] w32 w58 → Under [n1, n2, n11, n20, n29, n38] w58 → R (Ending.returned (Value.bool false)) w58)
theorem f9_eq (a_0 : Int) (a_1 : Int) (a_2 : Int) (a_3 : Int) (b_0 : Int) (b_1 : Int) (b_2 : Int) (b_3 : Int) (w : World) (R : Ending → World → Prop) : (fnF Go.Proofs.Try.prog h9 Go.Proofs.Try.f9 [Value.agg #[Value.int IntKind.i64 a_0, Value.int IntKind.i64 a_1, Value.int IntKind.i64 a_2, Value.int IntKind.i64 a_3],
 Value.agg #[Value.int IntKind.i64 b_0, Value.int IntKind.i64 b_1, Value.int IntKind.i64 b_2, Value.int IntKind.i64 b_3]] w R).den = f9_vc a_0 a_1 a_2 a_3 b_0 b_1 b_2 b_3 w R := by kernel_rfl
theorem f9_calls (a_0 : Int) (a_1 : Int) (a_2 : Int) (a_3 : Int) (b_0 : Int) (b_1 : Int) (b_2 : Int) (b_3 : Int) (w : World) (R : Ending → World → Prop) (h : f9_vc a_0 a_1 a_2 a_3 b_0 b_1 b_2 b_3 w R) : Calls Go.Proofs.Try.prog 9 (List.toArray [Value.agg #[Value.int IntKind.i64 a_0, Value.int IntKind.i64 a_1, Value.int IntKind.i64 a_2, Value.int IntKind.i64 a_3],
 Value.agg #[Value.int IntKind.i64 b_0, Value.int IntKind.i64 b_1, Value.int IntKind.i64 b_2, Value.int IntKind.i64 b_3]]) w R :=
 fn_sound (H := h9) (fn := Go.Proofs.Try.f9) (by kernel_rfl) (by kernel_rfl) (by kernel_rfl) ((f9_eq a_0 a_1 a_2 a_3 b_0 b_1 b_2 b_3 w R).mpr h)


/-! manciple/share.Of -/
def h20 : Hints := ⟨[3, 4, 6, 8], [], [], [], [], [], [], [], []⟩
def f20_vc (a_0 : Int) (a_1 : Int) (a_2 : Int) (a_3 : Int) (total_0 : Int) (total_1 : Int) (total_2 : Int) (total_3 : Int) (weight : Int) (w : World) (R : Ending → World → Prop) : Prop :=
 ∀ (n1 : Nat),
 w.heap.size ≤ n1 →
 ∀ (n2 : Nat),
 w.heap.size ≤ n2 →
 ∀ (n3 : Nat),
 w.heap.size ≤ n3 →
 ∀ (w4 : World),
 Below w.heap.size w w4 →
 Under [n1, n2, n3] w4 →
 Calls Proofs.Try.prog 22
 #[Value.agg #[Value.int IntKind.i64 a_0, Value.int IntKind.i64 a_1, Value.int IntKind.i64 a_2, Value.int IntKind.i64 a_3],
 Value.agg #[Value.int IntKind.i64 total_0, Value.int IntKind.i64 total_1, Value.int IntKind.i64 total_2, Value.int IntKind.i64 total_3]]
 w4 fun (e5 : Ending) (w6 : World) =>
 ∃ (x7 : Int),
 ∃ (x8 : Int),
 ∃ (x9 : Int),
 e5 = Ending.returned (Value.tuple #[Value.int IntKind.i64 x7, Value.agg #[Value.int IntKind.i64 x8, Value.int IntKind.i64 x9]]) ∧
 Keeps [n1, n2, n3] w4 w6 ∧
 ∀ (n10 : Nat),
 w6.heap.size ≤ n10 →
 ∀ (w11 : World), Evo [n3, n10] w6 w11 → Under [n1, n2, n3, n10] w11 → R (Ending.returned (Value.agg #[Value.int IntKind.i64 x8, Value.int IntKind.i64 x9, Value.int IntKind.i64 weight])) w11
theorem f20_eq (a_0 : Int) (a_1 : Int) (a_2 : Int) (a_3 : Int) (total_0 : Int) (total_1 : Int) (total_2 : Int) (total_3 : Int) (weight : Int) (w : World) (R : Ending → World → Prop) : (fnF Go.Proofs.Try.prog h20 Go.Proofs.Try.f20 [Value.agg #[Value.int IntKind.i64 a_0, Value.int IntKind.i64 a_1, Value.int IntKind.i64 a_2, Value.int IntKind.i64 a_3],
 Value.agg #[Value.int IntKind.i64 total_0, Value.int IntKind.i64 total_1, Value.int IntKind.i64 total_2, Value.int IntKind.i64 total_3], Value.int IntKind.i64 weight] w R).den = f20_vc a_0 a_1 a_2 a_3 total_0 total_1 total_2 total_3 weight w R := by kernel_rfl
theorem f20_calls (a_0 : Int) (a_1 : Int) (a_2 : Int) (a_3 : Int) (total_0 : Int) (total_1 : Int) (total_2 : Int) (total_3 : Int) (weight : Int) (w : World) (R : Ending → World → Prop) (h : f20_vc a_0 a_1 a_2 a_3 total_0 total_1 total_2 total_3 weight w R) : Calls Go.Proofs.Try.prog 20 (List.toArray [Value.agg #[Value.int IntKind.i64 a_0, Value.int IntKind.i64 a_1, Value.int IntKind.i64 a_2, Value.int IntKind.i64 a_3],
 Value.agg #[Value.int IntKind.i64 total_0, Value.int IntKind.i64 total_1, Value.int IntKind.i64 total_2, Value.int IntKind.i64 total_3], Value.int IntKind.i64 weight]) w R :=
 fn_sound (H := h20) (fn := Go.Proofs.Try.f20) (by kernel_rfl) (by kernel_rfl) (by kernel_rfl) ((f20_eq a_0 a_1 a_2 a_3 total_0 total_1 total_2 total_3 weight w R).mpr h)


/-! manciple/mancipleref06.Dominant -/
def h21 : Hints := ⟨[2, 3, 5, 6, 9], [26, 29, 33], [18, 45, 14, 36, 39], [(3, [0, 1, 2, 3]), (7, [0, 1, 2, 3, 4, 5, 6, 7, 8]), (10, [0, 1, 2, 3])], [(5, 5)], [], [(6, ⟨[(7, .int .i64)], [(6, .cons (.int .i64) (.cons (.int .i64) (.nil)))]⟩)], [], []⟩
def f21_vc (a_0 : Int) (a_1 : Int) (a_2 : Int) (a_3 : Int) (total_0 : Int) (total_1 : Int) (total_2 : Int) (total_3 : Int) (w : World) (R : Ending → World → Prop) : Prop :=
 ∀ (n1 : Nat),
 w.heap.size ≤ n1 →
 ∀ (n2 : Nat),
 w.heap.size ≤ n2 →
 ∀ (n3 : Nat),
 w.heap.size ≤ n3 →
 ∀ (n4 : Nat),
 w.heap.size ≤ n4 →
 ∀ (w5 : World),
 Evo [n4] w w5 →
 Under [n1, n2, n3, n4] w5 →
 Calls Proofs.Try.prog 32 #[Value.agg #[Value.int IntKind.i64 a_0, Value.int IntKind.i64 a_1, Value.int IntKind.i64 a_2, Value.int IntKind.i64 a_3]] w5 fun (e6 : Ending) (w7 : World) =>
 ∃ (b8 : Bool),
 e6 = Ending.returned (Value.bool b8) ∧
 Keeps [n1, n2, n3, n4] w5 w7 ∧
 ((!b8) = true → ∀ (w9 : World), Evo [n3] w7 w9 → Under [n1, n2, n3, n4] w9 → R (Ending.returned (Value.tuple #[Value.int IntKind.i64 (-1), Value.agg #[Value.int IntKind.i64 0, Value.int IntKind.i64 1]])) w9) ∧
 ((!b8) = false →
 Calls Proofs.Try.prog 32 #[Value.agg #[Value.int IntKind.i64 total_0, Value.int IntKind.i64 total_1, Value.int IntKind.i64 total_2, Value.int IntKind.i64 total_3]] w7 fun (e10 : Ending) (w11 : World) =>
 ∃ (b12 : Bool),
 e10 = Ending.returned (Value.bool b12) ∧
 Keeps [n1, n2, n3, n4] w7 w11 ∧
 ((!b12) = true →
 ∀ (w13 : World),
 Evo [n3] w11 w13 → Under [n1, n2, n3, n4] w13 → R (Ending.returned (Value.tuple #[Value.int IntKind.i64 (-1), Value.agg #[Value.int IntKind.i64 0, Value.int IntKind.i64 1]])) w13) ∧
 ((!b12) = false →
 ∃ (J14 : Int × Int × Int × Unit → World → Prop),
 (∀ (n15 : Nat),
 w11.heap.size ≤ n15 →
 (decide (total_0 > 0) = true →
 (true = true → ∀ (w16 : World), Evo [n4, n15] w11 w16 → Under [n1, n2, n3, n4, n15] w16 → J14 (0, a_0, total_0, ()) w16) ∧
 (true = false →
 ∀ (w17 : World),
 Evo [n15] w11 w17 →
 Under [n1, n2, n3, n4, n15] w17 →
 Calls Proofs.Try.prog 45 #[Value.agg #[Value.int IntKind.i64 a_0, Value.int IntKind.i64 total_0], Value.agg #[Value.int IntKind.i64 0, Value.int IntKind.i64 1]] w17
 fun (e18 : Ending) (w19 : World) =>
 ∃ (x20 : Int),
 e18 = Ending.returned (Value.int IntKind.i64 x20) ∧
 Keeps [n1, n2, n3, n4, n15] w17 w19 ∧
 (decide (x20 > 0) = true → ∀ (w21 : World), Evo [n4] w19 w21 → Under [n1, n2, n3, n4, n15] w21 → J14 (0, a_0, total_0, ()) w21) ∧
 (decide (x20 > 0) = false → J14 (-1, 0, 1, ()) w19))) ∧
 (decide (total_0 > 0) = false → ∀ (w22 : World), Evo [n15] w11 w22 → Under [n1, n2, n3, n4, n15] w22 → J14 (-1, 0, 1, ()) w22)) ∧
 ∀ (x23 x24 x25 : Int) (w26 : World),
 J14 (x23, x24, x25, ()) w26 →
 ∃ (J27 : Int × Int × Int × Unit → World → Prop),
 (∀ (n28 : Nat),
 w26.heap.size ≤ n28 →
 (decide (total_1 > 0) = true →
 (decide (x23 < 0) = true → ∀ (w29 : World), Evo [n4, n28] w26 w29 → Under [n1, n2, n3, n4, n28] w29 → J27 (1, a_1, total_1, ()) w29) ∧
 (decide (x23 < 0) = false →
 ∀ (w30 : World),
 Evo [n28] w26 w30 →
 Under [n1, n2, n3, n4, n28] w30 →
 Calls Proofs.Try.prog 45 #[Value.agg #[Value.int IntKind.i64 a_1, Value.int IntKind.i64 total_1], Value.agg #[Value.int IntKind.i64 x24, Value.int IntKind.i64 x25]]
 w30 fun (e31 : Ending) (w32 : World) =>
 ∃ (x33 : Int),
 e31 = Ending.returned (Value.int IntKind.i64 x33) ∧
 Keeps [n1, n2, n3, n4, n28] w30 w32 ∧
 (decide (x33 > 0) = true → ∀ (w34 : World), Evo [n4] w32 w34 → Under [n1, n2, n3, n4, n28] w34 → J27 (1, a_1, total_1, ()) w34) ∧
 (decide (x33 > 0) = false → J27 (x23, x24, x25, ()) w32))) ∧
 (decide (total_1 > 0) = false → ∀ (w35 : World), Evo [n28] w26 w35 → Under [n1, n2, n3, n4, n28] w35 → J27 (x23, x24, x25, ()) w35)) ∧
 ∀ (x36 x37 x38 : Int) (w39 : World),
 J27 (x36, x37, x38, ()) w39 →
 ∃ (J40 : Int × Int × Int × Unit → World → Prop),
 (∀ (n41 : Nat),
 w39.heap.size ≤ n41 →
 (decide (total_2 > 0) = true →
 (decide (x36 < 0) = true → ∀ (w42 : World), Evo [n4, n41] w39 w42 → Under [n1, n2, n3, n4, n41] w42 → J40 (2, a_2, total_2, ()) w42) ∧
 (decide (x36 < 0) = false →
 ∀ (w43 : World),
 Evo [n41] w39 w43 →
 Under [n1, n2, n3, n4, n41] w43 →
 Calls Proofs.Try.prog 45
 #[Value.agg #[Value.int IntKind.i64 a_2, Value.int IntKind.i64 total_2], Value.agg #[Value.int IntKind.i64 x37, Value.int IntKind.i64 x38]] w43
 fun (e44 : Ending) (w45 : World) =>
 ∃ (x46 : Int),
 e44 = Ending.returned (Value.int IntKind.i64 x46) ∧
 Keeps [n1, n2, n3, n4, n41] w43 w45 ∧
 (decide (x46 > 0) = true → ∀ (w47 : World), Evo [n4] w45 w47 → Under [n1, n2, n3, n4, n41] w47 → J40 (2, a_2, total_2, ()) w47) ∧
 (decide (x46 > 0) = false → J40 (x36, x37, x38, ()) w45))) ∧
 (decide (total_2 > 0) = false → ∀ (w48 : World), Evo [n41] w39 w48 → Under [n1, n2, n3, n4, n41] w48 → J40 (x36, x37, x38, ()) w48)) ∧
 ∀ (x49 x50 x51 : Int) (w52 : World),
 J40 (x49, x50, x51, ()) w52 →
 ∃ (J53 : Int × Int × Int × Unit → World → Prop),
 (∀ (n54 : Nat),
 w52.heap.size ≤ n54 →
 (decide (total_3 > 0) = true →
 (decide (x49 < 0) = true → ∀ (w55 : World), Evo [n4, n54] w52 w55 → Under [n1, n2, n3, n4, n54] w55 → J53 (3, a_3, total_3, ()) w55) ∧
 (decide (x49 < 0) = false →
 ∀ (w56 : World),
 Evo [n54] w52 w56 →
 Under [n1, n2, n3, n4, n54] w56 →
 Calls Proofs.Try.prog 45
 #[Value.agg #[Value.int IntKind.i64 a_3, Value.int IntKind.i64 total_3], Value.agg #[Value.int IntKind.i64 x50, Value.int IntKind.i64 x51]] w56
 fun (e57 : Ending) (w58 : World) =>
 ∃ (x59 : Int),
 e57 = Ending.returned (Value.int IntKind.i64 x59) ∧
 Keeps [n1, n2, n3, n4, n54] w56 w58 ∧
 (decide (x59 > 0) = true → ∀ (w60 : World), Evo [n4] w58 w60 → Under [n1, n2, n3, n4, n54] w60 → J53 (3, a_3, total_3, ()) w60) ∧
 (decide (x59 > 0) = false → J53 (x49, x50, x51, ()) w58))) ∧
 (decide (total_3 > 0) = false → ∀ (w61 : World), Evo [n54] w52 w61 → Under [n1, n2, n3, n4, n54] w61 → J53 (x49, x50, x51, ()) w61)) ∧
 ∀ (x62 x63 x64 : Int) (w65 : World),
 J53 (x62, x63, x64, ()) w65 →
 ∀ (w66 : World),
 Evo [n3] w65 w66 →
 Under [n1, n2, n3, n4] w66 →
 R (Ending.returned (Value.tuple #[Value.int IntKind.i64 x62, Value.agg #[Value.int IntKind.i64 x63, Value.int IntKind.i64 x64]])) w66))
theorem f21_eq (a_0 : Int) (a_1 : Int) (a_2 : Int) (a_3 : Int) (total_0 : Int) (total_1 : Int) (total_2 : Int) (total_3 : Int) (w : World) (R : Ending → World → Prop) : (fnF Go.Proofs.Try.prog h21 Go.Proofs.Try.f21 [Value.agg #[Value.int IntKind.i64 a_0, Value.int IntKind.i64 a_1, Value.int IntKind.i64 a_2, Value.int IntKind.i64 a_3],
 Value.agg #[Value.int IntKind.i64 total_0, Value.int IntKind.i64 total_1, Value.int IntKind.i64 total_2, Value.int IntKind.i64 total_3]] w R).den = f21_vc a_0 a_1 a_2 a_3 total_0 total_1 total_2 total_3 w R := by kernel_rfl
theorem f21_calls (a_0 : Int) (a_1 : Int) (a_2 : Int) (a_3 : Int) (total_0 : Int) (total_1 : Int) (total_2 : Int) (total_3 : Int) (w : World) (R : Ending → World → Prop) (h : f21_vc a_0 a_1 a_2 a_3 total_0 total_1 total_2 total_3 w R) : Calls Go.Proofs.Try.prog 21 (List.toArray [Value.agg #[Value.int IntKind.i64 a_0, Value.int IntKind.i64 a_1, Value.int IntKind.i64 a_2, Value.int IntKind.i64 a_3],
 Value.agg #[Value.int IntKind.i64 total_0, Value.int IntKind.i64 total_1, Value.int IntKind.i64 total_2, Value.int IntKind.i64 total_3]]) w R :=
 fn_sound (H := h21) (fn := Go.Proofs.Try.f21) (by kernel_rfl) (by kernel_rfl) (by kernel_rfl) ((f21_eq a_0 a_1 a_2 a_3 total_0 total_1 total_2 total_3 w R).mpr h)


/-! manciple/sums.Dominant -/
def h22 : Hints := ⟨[2, 3, 5, 6, 9], [25, 28], [18, 43, 14, 34, 37], [(3, [0, 1, 2, 3]), (7, [0, 1, 2, 3, 4, 5, 6, 7, 8]), (11, [0, 1, 2, 3])], [(5, 5)], [], [(10, ⟨[(7, .int .i64)], [(6, .cons (.int .i64) (.cons (.int .i64) (.nil)))]⟩)], [], []⟩
def f22_vc (a_0 : Int) (a_1 : Int) (a_2 : Int) (a_3 : Int) (total_0 : Int) (total_1 : Int) (total_2 : Int) (total_3 : Int) (w : World) (R : Ending → World → Prop) : Prop :=
 ∀ (n1 : Nat),
 w.heap.size ≤ n1 →
 ∀ (n2 : Nat),
 w.heap.size ≤ n2 →
 ∀ (n3 : Nat),
 w.heap.size ≤ n3 →
 ∀ (n4 : Nat),
 w.heap.size ≤ n4 →
 ∀ (w5 : World),
 Evo [n4] w w5 →
 Under [n1, n2, n3, n4] w5 →
 Calls Proofs.Try.prog 25 #[Value.agg #[Value.int IntKind.i64 a_0, Value.int IntKind.i64 a_1, Value.int IntKind.i64 a_2, Value.int IntKind.i64 a_3]] w5 fun (e6 : Ending) (w7 : World) =>
 ∃ (b8 : Bool),
 e6 = Ending.returned (Value.bool b8) ∧
 Keeps [n1, n2, n3, n4] w5 w7 ∧
 ((!b8) = true → ∀ (w9 : World), Evo [n3] w7 w9 → Under [n1, n2, n3, n4] w9 → R (Ending.returned (Value.tuple #[Value.int IntKind.i64 (-1), Value.agg #[Value.int IntKind.i64 0, Value.int IntKind.i64 1]])) w9) ∧
 ((!b8) = false →
 Calls Proofs.Try.prog 25 #[Value.agg #[Value.int IntKind.i64 total_0, Value.int IntKind.i64 total_1, Value.int IntKind.i64 total_2, Value.int IntKind.i64 total_3]] w7 fun (e10 : Ending) (w11 : World) =>
 ∃ (b12 : Bool),
 e10 = Ending.returned (Value.bool b12) ∧
 Keeps [n1, n2, n3, n4] w7 w11 ∧
 ((!b12) = true →
 ∀ (w13 : World),
 Evo [n3] w11 w13 → Under [n1, n2, n3, n4] w13 → R (Ending.returned (Value.tuple #[Value.int IntKind.i64 (-1), Value.agg #[Value.int IntKind.i64 0, Value.int IntKind.i64 1]])) w13) ∧
 ((!b12) = false →
 ∃ (J14 : Int × Int × Int × Unit → World → Prop),
 (∀ (n15 : Nat),
 w11.heap.size ≤ n15 →
 (decide (total_0 > 0) = true →
 (true = true → ∀ (w16 : World), Evo [n4, n15] w11 w16 → Under [n1, n2, n3, n4, n15] w16 → J14 (0, a_0, total_0, ()) w16) ∧
 (true = false →
 ∀ (w17 : World),
 Evo [n15] w11 w17 →
 Under [n1, n2, n3, n4, n15] w17 →
 Calls Proofs.Try.prog 19 #[Value.agg #[Value.int IntKind.i64 a_0, Value.int IntKind.i64 total_0], Value.agg #[Value.int IntKind.i64 0, Value.int IntKind.i64 1]] w17
 fun (e18 : Ending) (w19 : World) =>
 ∃ (x20 : Int),
 e18 = Ending.returned (Value.int IntKind.i64 x20) ∧
 Keeps [n1, n2, n3, n4, n15] w17 w19 ∧
 (decide (x20 > 0) = true → ∀ (w21 : World), Evo [n4] w19 w21 → Under [n1, n2, n3, n4, n15] w21 → J14 (0, a_0, total_0, ()) w21) ∧
 (decide (x20 > 0) = false → J14 (-1, 0, 1, ()) w19))) ∧
 (decide (total_0 > 0) = false → ∀ (w22 : World), Evo [n15] w11 w22 → Under [n1, n2, n3, n4, n15] w22 → J14 (-1, 0, 1, ()) w22)) ∧
 ∀ (x23 x24 x25 : Int) (w26 : World),
 J14 (x23, x24, x25, ()) w26 →
 ∃ (J27 : Int × Int × Int × Unit → World → Prop),
 (∀ (n28 : Nat),
 w26.heap.size ≤ n28 →
 (decide (total_1 > 0) = true →
 ((x23 == -1) = true → ∀ (w29 : World), Evo [n4, n28] w26 w29 → Under [n1, n2, n3, n4, n28] w29 → J27 (1, a_1, total_1, ()) w29) ∧
 ((x23 == -1) = false →
 ∀ (w30 : World),
 Evo [n28] w26 w30 →
 Under [n1, n2, n3, n4, n28] w30 →
 Calls Proofs.Try.prog 19 #[Value.agg #[Value.int IntKind.i64 a_1, Value.int IntKind.i64 total_1], Value.agg #[Value.int IntKind.i64 x24, Value.int IntKind.i64 x25]]
 w30 fun (e31 : Ending) (w32 : World) =>
 ∃ (x33 : Int),
 e31 = Ending.returned (Value.int IntKind.i64 x33) ∧
 Keeps [n1, n2, n3, n4, n28] w30 w32 ∧
 (decide (x33 > 0) = true → ∀ (w34 : World), Evo [n4] w32 w34 → Under [n1, n2, n3, n4, n28] w34 → J27 (1, a_1, total_1, ()) w34) ∧
 (decide (x33 > 0) = false → J27 (x23, x24, x25, ()) w32))) ∧
 (decide (total_1 > 0) = false → ∀ (w35 : World), Evo [n28] w26 w35 → Under [n1, n2, n3, n4, n28] w35 → J27 (x23, x24, x25, ()) w35)) ∧
 ∀ (x36 x37 x38 : Int) (w39 : World),
 J27 (x36, x37, x38, ()) w39 →
 ∃ (J40 : Int × Int × Int × Unit → World → Prop),
 (∀ (n41 : Nat),
 w39.heap.size ≤ n41 →
 (decide (total_2 > 0) = true →
 ((x36 == -1) = true → ∀ (w42 : World), Evo [n4, n41] w39 w42 → Under [n1, n2, n3, n4, n41] w42 → J40 (2, a_2, total_2, ()) w42) ∧
 ((x36 == -1) = false →
 ∀ (w43 : World),
 Evo [n41] w39 w43 →
 Under [n1, n2, n3, n4, n41] w43 →
 Calls Proofs.Try.prog 19
 #[Value.agg #[Value.int IntKind.i64 a_2, Value.int IntKind.i64 total_2], Value.agg #[Value.int IntKind.i64 x37, Value.int IntKind.i64 x38]] w43
 fun (e44 : Ending) (w45 : World) =>
 ∃ (x46 : Int),
 e44 = Ending.returned (Value.int IntKind.i64 x46) ∧
 Keeps [n1, n2, n3, n4, n41] w43 w45 ∧
 (decide (x46 > 0) = true → ∀ (w47 : World), Evo [n4] w45 w47 → Under [n1, n2, n3, n4, n41] w47 → J40 (2, a_2, total_2, ()) w47) ∧
 (decide (x46 > 0) = false → J40 (x36, x37, x38, ()) w45))) ∧
 (decide (total_2 > 0) = false → ∀ (w48 : World), Evo [n41] w39 w48 → Under [n1, n2, n3, n4, n41] w48 → J40 (x36, x37, x38, ()) w48)) ∧
 ∀ (x49 x50 x51 : Int) (w52 : World),
 J40 (x49, x50, x51, ()) w52 →
 ∃ (J53 : Int × Int × Int × Unit → World → Prop),
 (∀ (n54 : Nat),
 w52.heap.size ≤ n54 →
 (decide (total_3 > 0) = true →
 ((x49 == -1) = true → ∀ (w55 : World), Evo [n4, n54] w52 w55 → Under [n1, n2, n3, n4, n54] w55 → J53 (3, a_3, total_3, ()) w55) ∧
 ((x49 == -1) = false →
 ∀ (w56 : World),
 Evo [n54] w52 w56 →
 Under [n1, n2, n3, n4, n54] w56 →
 Calls Proofs.Try.prog 19
 #[Value.agg #[Value.int IntKind.i64 a_3, Value.int IntKind.i64 total_3], Value.agg #[Value.int IntKind.i64 x50, Value.int IntKind.i64 x51]] w56
 fun (e57 : Ending) (w58 : World) =>
 ∃ (x59 : Int),
 e57 = Ending.returned (Value.int IntKind.i64 x59) ∧
 Keeps [n1, n2, n3, n4, n54] w56 w58 ∧
 (decide (x59 > 0) = true → ∀ (w60 : World), Evo [n4] w58 w60 → Under [n1, n2, n3, n4, n54] w60 → J53 (3, a_3, total_3, ()) w60) ∧
 (decide (x59 > 0) = false → J53 (x49, x50, x51, ()) w58))) ∧
 (decide (total_3 > 0) = false → ∀ (w61 : World), Evo [n54] w52 w61 → Under [n1, n2, n3, n4, n54] w61 → J53 (x49, x50, x51, ()) w61)) ∧
 ∀ (x62 x63 x64 : Int) (w65 : World),
 J53 (x62, x63, x64, ()) w65 →
 ∀ (w66 : World),
 Evo [n3] w65 w66 →
 Under [n1, n2, n3, n4] w66 →
 R (Ending.returned (Value.tuple #[Value.int IntKind.i64 x62, Value.agg #[Value.int IntKind.i64 x63, Value.int IntKind.i64 x64]])) w66))
theorem f22_eq (a_0 : Int) (a_1 : Int) (a_2 : Int) (a_3 : Int) (total_0 : Int) (total_1 : Int) (total_2 : Int) (total_3 : Int) (w : World) (R : Ending → World → Prop) : (fnF Go.Proofs.Try.prog h22 Go.Proofs.Try.f22 [Value.agg #[Value.int IntKind.i64 a_0, Value.int IntKind.i64 a_1, Value.int IntKind.i64 a_2, Value.int IntKind.i64 a_3],
 Value.agg #[Value.int IntKind.i64 total_0, Value.int IntKind.i64 total_1, Value.int IntKind.i64 total_2, Value.int IntKind.i64 total_3]] w R).den = f22_vc a_0 a_1 a_2 a_3 total_0 total_1 total_2 total_3 w R := by kernel_rfl
theorem f22_calls (a_0 : Int) (a_1 : Int) (a_2 : Int) (a_3 : Int) (total_0 : Int) (total_1 : Int) (total_2 : Int) (total_3 : Int) (w : World) (R : Ending → World → Prop) (h : f22_vc a_0 a_1 a_2 a_3 total_0 total_1 total_2 total_3 w R) : Calls Go.Proofs.Try.prog 22 (List.toArray [Value.agg #[Value.int IntKind.i64 a_0, Value.int IntKind.i64 a_1, Value.int IntKind.i64 a_2, Value.int IntKind.i64 a_3],
 Value.agg #[Value.int IntKind.i64 total_0, Value.int IntKind.i64 total_1, Value.int IntKind.i64 total_2, Value.int IntKind.i64 total_3]]) w R :=
 fn_sound (H := h22) (fn := Go.Proofs.Try.f22) (by kernel_rfl) (by kernel_rfl) (by kernel_rfl) ((f22_eq a_0 a_1 a_2 a_3 total_0 total_1 total_2 total_3 w R).mpr h)


/-! manciple/manciplelaw06.works -/
def h23 : Hints := ⟨[2], [], [11, 16, 24], [], [], [], [], [], []⟩
def f23_vc  (w : World) (R : Ending → World → Prop) : Prop :=
 Calls Proofs.Try.prog 22
 #[Value.agg #[Value.int IntKind.i64 2, Value.int IntKind.i64 6, Value.int IntKind.i64 0, Value.int IntKind.i64 0], Value.agg #[Value.int IntKind.i64 9, Value.int IntKind.i64 18, Value.int IntKind.i64 0, Value.int IntKind.i64 0]] w
 fun (e1 : Ending) (w2 : World) =>
 ∃ (x3 : Int),
 ∃ (x4 : Int),
 ∃ (x5 : Int),
 e1 = Ending.returned (Value.tuple #[Value.int IntKind.i64 x3, Value.agg #[Value.int IntKind.i64 x4, Value.int IntKind.i64 x5]]) ∧
 ∀ (n6 : Nat),
 w2.heap.size ≤ n6 →
 ((x3 == 1) = true →
 ((x4 == 6 && (x5 == 18 && true)) = true →
 ∀ (w7 : World),
 Evo [n6] w2 w7 →
 Under [n6] w7 →
 OpW Proofs.Try.prog
 (valueS
 (Instr.buildSlice 55 2
 #[(0, Value.agg #[Value.int IntKind.i64 0, Value.int IntKind.i64 0, Value.int IntKind.i64 1]), (1, Value.agg #[Value.int IntKind.i64 0, Value.int IntKind.i64 2, Value.int IntKind.i64 3])]))
 w7 fun (v8 : Value) (w9 : World) =>
 ∃ (a10 : Option Addr),
 ∃ (n11 : Nat),
 ∃ (n12 : Nat),
 v8 = Value.slice a10 n11 n12 ∧
 Keeps [n6] w7 w9 ∧
 Calls Proofs.Try.prog 33 #[Value.slice a10 n11 n12] w9 fun (e13 : Ending) (w14 : World) =>
 ∃ (x15 : Int),
 ∃ (x16 : Int),
 ∃ (x17 : Int),
 ∃ (x18 : Int),
 e13 = Ending.returned (Value.agg #[Value.int IntKind.i64 x15, Value.int IntKind.i64 x16, Value.int IntKind.i64 x17, Value.int IntKind.i64 x18]) ∧
 Keeps [n6] w9 w14 ∧
 ((x15 == 4 && (x16 == 0 && (x17 == 0 && (x18 == 0 && true)))) = true →
 Calls Proofs.Try.prog 24
 #[Value.agg #[Value.int IntKind.i64 7, Value.int IntKind.i64 9, Value.int IntKind.i64 0, Value.int IntKind.i64 0],
 Value.agg #[Value.int IntKind.i64 2, Value.int IntKind.i64 3, Value.int IntKind.i64 0, Value.int IntKind.i64 0]]
 w14 fun (e19 : Ending) (w20 : World) => ∃ (x21 : Int), e19 = Ending.returned (Value.int IntKind.i64 x21) ∧ Keeps [n6] w14 w20 ∧ R (Ending.returned (Value.bool (x21 == 3))) w20) ∧
 ((x15 == 4 && (x16 == 0 && (x17 == 0 && (x18 == 0 && true)))) = false → R (Ending.returned (Value.bool false)) w14)) ∧
 ((x4 == 6 && (x5 == 18 && true)) = false → ∀ (w22 : World), Evo [n6] w2 w22 → Under [n6] w22 → R (Ending.returned (Value.bool false)) w22)) ∧
 ((x3 == 1) = false → ∀ (w23 : World), Evo [n6] w2 w23 → Under [n6] w23 → R (Ending.returned (Value.bool false)) w23)
theorem f23_eq  (w : World) (R : Ending → World → Prop) : (fnF Go.Proofs.Try.prog h23 Go.Proofs.Try.f23 [] w R).den = f23_vc  w R := by kernel_rfl
theorem f23_calls  (w : World) (R : Ending → World → Prop) (h : f23_vc  w R) : Calls Go.Proofs.Try.prog 23 (List.toArray []) w R :=
 fn_sound (H := h23) (fn := Go.Proofs.Try.f23) (by kernel_rfl) (by kernel_rfl) (by kernel_rfl) ((f23_eq  w R).mpr h)


/-! (manciple/sums.Sums).Many -/
def h24 : Hints := ⟨[2, 3], [24, 29, 32, 34], [19, 26, 10, 15], [(8, [0, 1, 2, 3, 4, 5, 6, 7, 8, 9])], [(5, 5)], [], [(9, ⟨[(5, .int .i64)], []⟩)], [], []⟩
def f24_vc (a_0 : Int) (a_1 : Int) (a_2 : Int) (a_3 : Int) (b_0 : Int) (b_1 : Int) (b_2 : Int) (b_3 : Int) (w : World) (R : Ending → World → Prop) : Prop :=
 ∀ (n1 : Nat),
 w.heap.size ≤ n1 →
 ∀ (n2 : Nat),
 w.heap.size ≤ n2 →
 ∀ (w3 : World),
 Below w.heap.size w w3 →
 Under [n1, n2] w3 →
 Calls Proofs.Try.prog 25 #[Value.agg #[Value.int IntKind.i64 a_0, Value.int IntKind.i64 a_1, Value.int IntKind.i64 a_2, Value.int IntKind.i64 a_3]] w3 fun (e4 : Ending) (w5 : World) =>
 ∃ (b6 : Bool),
 e4 = Ending.returned (Value.bool b6) ∧
 Keeps [n1, n2] w3 w5 ∧
 ((!b6) = true → R (Ending.returned (Value.int IntKind.i64 0)) w5) ∧
 ((!b6) = false →
 Calls Proofs.Try.prog 25 #[Value.agg #[Value.int IntKind.i64 b_0, Value.int IntKind.i64 b_1, Value.int IntKind.i64 b_2, Value.int IntKind.i64 b_3]] w5 fun (e7 : Ending) (w8 : World) =>
 ∃ (b9 : Bool),
 e7 = Ending.returned (Value.bool b9) ∧
 Keeps [n1, n2] w5 w8 ∧
 ((!b9) = true → R (Ending.returned (Value.int IntKind.i64 0)) w8) ∧
 ((!b9) = false →
 ((b_0 == 0 && (b_1 == 0 && (b_2 == 0 && (b_3 == 0 && true)))) = true → R (Ending.returned (Value.int IntKind.i64 0)) w8) ∧
 ((b_0 == 0 && (b_1 == 0 && (b_2 == 0 && (b_3 == 0 && true)))) = false →
 ∃ (J10 : Int × Unit → World → Prop),
 ((decide (b_0 > 0) = true →
 ∃ (x11 : Int),
 Gives Proofs.Try.prog (binOpS BinOp.quo 2 (Operand.tmp 30) (Operand.tmp 33) (Value.int IntKind.i64 a_0) (Value.int IntKind.i64 b_0)) (Value.int IntKind.i64 x11) ∧
 ∀ (w12 : World), Below w8.heap.size w8 w12 → Under [n1, n2] w12 → J10 (if x11 < 1152921504606846976 then x11 else 1152921504606846976, ()) w12) ∧
 (decide (b_0 > 0) = false → J10 (1152921504606846976, ()) w8)) ∧
 ∀ (x13 : Int) (w14 : World),
 J10 (x13, ()) w14 →
 ∃ (J15 : Int × Unit → World → Prop),
 ((decide (b_1 > 0) = true →
 ∃ (x16 : Int),
 Gives Proofs.Try.prog (binOpS BinOp.quo 2 (Operand.tmp 30) (Operand.tmp 33) (Value.int IntKind.i64 a_1) (Value.int IntKind.i64 b_1)) (Value.int IntKind.i64 x16) ∧
 ∀ (w17 : World), Below w14.heap.size w14 w17 → Under [n1, n2] w17 → J15 (if x16 < x13 then x16 else x13, ()) w17) ∧
 (decide (b_1 > 0) = false → J15 (x13, ()) w14)) ∧
 ∀ (x18 : Int) (w19 : World),
 J15 (x18, ()) w19 →
 ∃ (J20 : Int × Unit → World → Prop),
 ((decide (b_2 > 0) = true →
 ∃ (x21 : Int),
 Gives Proofs.Try.prog (binOpS BinOp.quo 2 (Operand.tmp 30) (Operand.tmp 33) (Value.int IntKind.i64 a_2) (Value.int IntKind.i64 b_2)) (Value.int IntKind.i64 x21) ∧
 ∀ (w22 : World), Below w19.heap.size w19 w22 → Under [n1, n2] w22 → J20 (if x21 < x18 then x21 else x18, ()) w22) ∧
 (decide (b_2 > 0) = false → J20 (x18, ()) w19)) ∧
 ∀ (x23 : Int) (w24 : World),
 J20 (x23, ()) w24 →
 ∃ (J25 : Int × Unit → World → Prop),
 ((decide (b_3 > 0) = true →
 ∃ (x26 : Int),
 Gives Proofs.Try.prog (binOpS BinOp.quo 2 (Operand.tmp 30) (Operand.tmp 33) (Value.int IntKind.i64 a_3) (Value.int IntKind.i64 b_3)) (Value.int IntKind.i64 x26) ∧
 ∀ (w27 : World), Below w24.heap.size w24 w27 → Under [n1, n2] w27 → J25 (if x26 < x23 then x26 else x23, ()) w27) ∧
 (decide (b_3 > 0) = false → J25 (x23, ()) w24)) ∧
 ∀ (x28 : Int) (w29 : World), J25 (x28, ()) w29 → R (Ending.returned (Value.int IntKind.i64 x28)) w29)))
theorem f24_eq (a_0 : Int) (a_1 : Int) (a_2 : Int) (a_3 : Int) (b_0 : Int) (b_1 : Int) (b_2 : Int) (b_3 : Int) (w : World) (R : Ending → World → Prop) : (fnF Go.Proofs.Try.prog h24 Go.Proofs.Try.f24 [Value.agg #[Value.int IntKind.i64 a_0, Value.int IntKind.i64 a_1, Value.int IntKind.i64 a_2, Value.int IntKind.i64 a_3],
 Value.agg #[Value.int IntKind.i64 b_0, Value.int IntKind.i64 b_1, Value.int IntKind.i64 b_2, Value.int IntKind.i64 b_3]] w R).den = f24_vc a_0 a_1 a_2 a_3 b_0 b_1 b_2 b_3 w R := by kernel_rfl
theorem f24_calls (a_0 : Int) (a_1 : Int) (a_2 : Int) (a_3 : Int) (b_0 : Int) (b_1 : Int) (b_2 : Int) (b_3 : Int) (w : World) (R : Ending → World → Prop) (h : f24_vc a_0 a_1 a_2 a_3 b_0 b_1 b_2 b_3 w R) : Calls Go.Proofs.Try.prog 24 (List.toArray [Value.agg #[Value.int IntKind.i64 a_0, Value.int IntKind.i64 a_1, Value.int IntKind.i64 a_2, Value.int IntKind.i64 a_3],
 Value.agg #[Value.int IntKind.i64 b_0, Value.int IntKind.i64 b_1, Value.int IntKind.i64 b_2, Value.int IntKind.i64 b_3]]) w R :=
 fn_sound (H := h24) (fn := Go.Proofs.Try.f24) (by kernel_rfl) (by kernel_rfl) (by kernel_rfl) ((f24_eq a_0 a_1 a_2 a_3 b_0 b_1 b_2 b_3 w R).mpr h)


/-! (manciple/sums.Sums).Right -/
def h25 : Hints := ⟨[1], [8, 13], [16, 11], [], [(2, 5)], [], [], [], []⟩
def f25_vc (a_0 : Int) (a_1 : Int) (a_2 : Int) (a_3 : Int) (w : World) (R : Ending → World → Prop) : Prop :=
 ∀ (n1 : Nat),
 w.heap.size ≤ n1 →
 (decide (a_0 < 0) = true → ∀ (w2 : World), Below w.heap.size w w2 → Under [n1] w2 → R (Ending.returned (Value.bool false)) w2) ∧
 (decide (a_0 < 0) = false →
 (decide (a_0 > 1152921504606846976) = true → ∀ (w3 : World), Below w.heap.size w w3 → Under [n1] w3 → R (Ending.returned (Value.bool false)) w3) ∧
 (decide (a_0 > 1152921504606846976) = false →
 (decide (a_1 < 0) = true → ∀ (w4 : World), Below w.heap.size w w4 → Under [n1] w4 → R (Ending.returned (Value.bool false)) w4) ∧
 (decide (a_1 < 0) = false →
 (decide (a_1 > 1152921504606846976) = true → ∀ (w5 : World), Below w.heap.size w w5 → Under [n1] w5 → R (Ending.returned (Value.bool false)) w5) ∧
 (decide (a_1 > 1152921504606846976) = false →
 (decide (a_2 < 0) = true → ∀ (w6 : World), Below w.heap.size w w6 → Under [n1] w6 → R (Ending.returned (Value.bool false)) w6) ∧
 (decide (a_2 < 0) = false →
 (decide (a_2 > 1152921504606846976) = true → ∀ (w7 : World), Below w.heap.size w w7 → Under [n1] w7 → R (Ending.returned (Value.bool false)) w7) ∧
 (decide (a_2 > 1152921504606846976) = false →
 (decide (a_3 < 0) = true → ∀ (w8 : World), Below w.heap.size w w8 → Under [n1] w8 → R (Ending.returned (Value.bool false)) w8) ∧
 (decide (a_3 < 0) = false →
 (decide (a_3 > 1152921504606846976) = true → ∀ (w9 : World), Below w.heap.size w w9 → Under [n1] w9 → R (Ending.returned (Value.bool false)) w9) ∧
 (decide (a_3 > 1152921504606846976) = false → ∀ (w10 : World), Below w.heap.size w w10 → Under [n1] w10 → R (Ending.returned (Value.bool true)) w10))))))))
theorem f25_eq (a_0 : Int) (a_1 : Int) (a_2 : Int) (a_3 : Int) (w : World) (R : Ending → World → Prop) : (fnF Go.Proofs.Try.prog h25 Go.Proofs.Try.f25 [Value.agg #[Value.int IntKind.i64 a_0, Value.int IntKind.i64 a_1, Value.int IntKind.i64 a_2, Value.int IntKind.i64 a_3]] w R).den = f25_vc a_0 a_1 a_2 a_3 w R := by kernel_rfl
theorem f25_calls (a_0 : Int) (a_1 : Int) (a_2 : Int) (a_3 : Int) (w : World) (R : Ending → World → Prop) (h : f25_vc a_0 a_1 a_2 a_3 w R) : Calls Go.Proofs.Try.prog 25 (List.toArray [Value.agg #[Value.int IntKind.i64 a_0, Value.int IntKind.i64 a_1, Value.int IntKind.i64 a_2, Value.int IntKind.i64 a_3]]) w R :=
 fn_sound (H := h25) (fn := Go.Proofs.Try.f25) (by kernel_rfl) (by kernel_rfl) (by kernel_rfl) ((f25_eq a_0 a_1 a_2 a_3 w R).mpr h)


/-! (manciple/sums.Sums).Holds -/
def h26 : Hints := ⟨[2, 3], [10, 13], [15, 19], [(4, [0, 1, 2, 3, 4, 5, 6])], [(2, 5)], [], [], [], []⟩
def f26_vc (a_0 : Int) (a_1 : Int) (a_2 : Int) (a_3 : Int) (b_0 : Int) (b_1 : Int) (b_2 : Int) (b_3 : Int) (w : World) (R : Ending → World → Prop) : Prop :=
 ∀ (n1 : Nat),
 w.heap.size ≤ n1 →
 ∀ (n2 : Nat),
 w.heap.size ≤ n2 →
 (decide (a_0 < b_0) = true → ∀ (w3 : World), Below w.heap.size w w3 → Under [n1, n2] w3 → R (Ending.returned (Value.bool false)) w3) ∧
 (decide (a_0 < b_0) = false →
 (decide (a_1 < b_1) = true → ∀ (w4 : World), Below w.heap.size w w4 → Under [n1, n2] w4 → R (Ending.returned (Value.bool false)) w4) ∧
 (decide (a_1 < b_1) = false →
 (decide (a_2 < b_2) = true → ∀ (w5 : World), Below w.heap.size w w5 → Under [n1, n2] w5 → R (Ending.returned (Value.bool false)) w5) ∧
 (decide (a_2 < b_2) = false →
 (decide (a_3 < b_3) = true → ∀ (w6 : World), Below w.heap.size w w6 → Under [n1, n2] w6 → R (Ending.returned (Value.bool false)) w6) ∧
 (decide (a_3 < b_3) = false →
 ∀ (w7 : World),
 Below w.heap.size w w7 →
 Under [n1, n2] w7 →
 Calls Proofs.Try.prog 25 #[Value.agg #[Value.int IntKind.i64 a_0, Value.int IntKind.i64 a_1, Value.int IntKind.i64 a_2, Value.int IntKind.i64 a_3]] w7 fun (e8 : Ending) (w9 : World) =>
 ∃ (b10 : Bool),
 e8 = Ending.returned (Value.bool b10) ∧
 Keeps [n1, n2] w7 w9 ∧
 (b10 = true →
 Calls Proofs.Try.prog 25 #[Value.agg #[Value.int IntKind.i64 b_0, Value.int IntKind.i64 b_1, Value.int IntKind.i64 b_2, Value.int IntKind.i64 b_3]] w9 fun (e11 : Ending) (w12 : World) =>
 ∃ (b13 : Bool), e11 = Ending.returned (Value.bool b13) ∧ Keeps [n1, n2] w9 w12 ∧ R (Ending.returned (Value.bool b13)) w12) ∧
 (b10 = false → R (Ending.returned (Value.bool false)) w9)))))
theorem f26_eq (a_0 : Int) (a_1 : Int) (a_2 : Int) (a_3 : Int) (b_0 : Int) (b_1 : Int) (b_2 : Int) (b_3 : Int) (w : World) (R : Ending → World → Prop) : (fnF Go.Proofs.Try.prog h26 Go.Proofs.Try.f26 [Value.agg #[Value.int IntKind.i64 a_0, Value.int IntKind.i64 a_1, Value.int IntKind.i64 a_2, Value.int IntKind.i64 a_3],
 Value.agg #[Value.int IntKind.i64 b_0, Value.int IntKind.i64 b_1, Value.int IntKind.i64 b_2, Value.int IntKind.i64 b_3]] w R).den = f26_vc a_0 a_1 a_2 a_3 b_0 b_1 b_2 b_3 w R := by kernel_rfl
theorem f26_calls (a_0 : Int) (a_1 : Int) (a_2 : Int) (a_3 : Int) (b_0 : Int) (b_1 : Int) (b_2 : Int) (b_3 : Int) (w : World) (R : Ending → World → Prop) (h : f26_vc a_0 a_1 a_2 a_3 b_0 b_1 b_2 b_3 w R) : Calls Go.Proofs.Try.prog 26 (List.toArray [Value.agg #[Value.int IntKind.i64 a_0, Value.int IntKind.i64 a_1, Value.int IntKind.i64 a_2, Value.int IntKind.i64 a_3],
 Value.agg #[Value.int IntKind.i64 b_0, Value.int IntKind.i64 b_1, Value.int IntKind.i64 b_2, Value.int IntKind.i64 b_3]]) w R :=
 fn_sound (H := h26) (fn := Go.Proofs.Try.f26) (by kernel_rfl) (by kernel_rfl) (by kernel_rfl) ((f26_eq a_0 a_1 a_2 a_3 b_0 b_1 b_2 b_3 w R).mpr h)


/-! (manciple/sums.Sums).Add -/
def h27 : Hints := ⟨[2, 3, 4], [20, 23, 26], [14, 30, 10], [(6, [0, 1, 2, 3, 4, 5, 6, 7, 8])], [(4, 5)], [], [], [], []⟩
def f27_vc (a_0 : Int) (a_1 : Int) (a_2 : Int) (a_3 : Int) (b_0 : Int) (b_1 : Int) (b_2 : Int) (b_3 : Int) (w : World) (R : Ending → World → Prop) : Prop :=
 ∀ (n1 : Nat),
 w.heap.size ≤ n1 →
 ∀ (n2 : Nat),
 w.heap.size ≤ n2 →
 ∀ (n3 : Nat),
 w.heap.size ≤ n3 →
 ∀ (w4 : World),
 Below w.heap.size w w4 →
 Under [n1, n2, n3] w4 →
 Calls Proofs.Try.prog 25 #[Value.agg #[Value.int IntKind.i64 a_0, Value.int IntKind.i64 a_1, Value.int IntKind.i64 a_2, Value.int IntKind.i64 a_3]] w4 fun (e5 : Ending) (w6 : World) =>
 ∃ (b7 : Bool),
 e5 = Ending.returned (Value.bool b7) ∧
 Keeps [n1, n2, n3] w4 w6 ∧
 ((!b7) = true →
 ∀ (w8 : World),
 Evo [n3] w6 w8 →
 Under [n1, n2, n3] w8 → R (Ending.returned (Value.tuple #[Value.agg #[Value.int IntKind.i64 0, Value.int IntKind.i64 0, Value.int IntKind.i64 0, Value.int IntKind.i64 0], Value.bool false])) w8) ∧
 ((!b7) = false →
 Calls Proofs.Try.prog 25 #[Value.agg #[Value.int IntKind.i64 b_0, Value.int IntKind.i64 b_1, Value.int IntKind.i64 b_2, Value.int IntKind.i64 b_3]] w6 fun (e9 : Ending) (w10 : World) =>
 ∃ (b11 : Bool),
 e9 = Ending.returned (Value.bool b11) ∧
 Keeps [n1, n2, n3] w6 w10 ∧
 ((!b11) = true →
 ∀ (w12 : World),
 Evo [n3] w10 w12 →
 Under [n1, n2, n3] w12 →
 R (Ending.returned (Value.tuple #[Value.agg #[Value.int IntKind.i64 0, Value.int IntKind.i64 0, Value.int IntKind.i64 0, Value.int IntKind.i64 0], Value.bool false])) w12) ∧
 ((!b11) = false →
 ∀ (w13 : World),
 Evo [n1, n1, n1, n1] w10 w13 →
 Under [n1, n2, n3] w13 →
 Calls Proofs.Try.prog 25
 #[Value.agg
 #[Value.int IntKind.i64 (IntKind.i64.wrap (a_0 + b_0)), Value.int IntKind.i64 (IntKind.i64.wrap (a_1 + b_1)), Value.int IntKind.i64 (IntKind.i64.wrap (a_2 + b_2)),
 Value.int IntKind.i64 (IntKind.i64.wrap (a_3 + b_3))]]
 w13 fun (e14 : Ending) (w15 : World) =>
 ∃ (b16 : Bool),
 e14 = Ending.returned (Value.bool b16) ∧
 Keeps [n1, n2, n3] w13 w15 ∧
 ((!b16) = true →
 ∀ (w17 : World),
 Evo [n3] w15 w17 →
 Under [n1, n2, n3] w17 →
 R (Ending.returned (Value.tuple #[Value.agg #[Value.int IntKind.i64 0, Value.int IntKind.i64 0, Value.int IntKind.i64 0, Value.int IntKind.i64 0], Value.bool false])) w17) ∧
 ((!b16) = false →
 ∀ (w18 : World),
 Evo [n3] w15 w18 →
 Under [n1, n2, n3] w18 →
 R
 (Ending.returned
 (Value.tuple
 #[Value.agg
 #[Value.int IntKind.i64 (IntKind.i64.wrap (a_0 + b_0)), Value.int IntKind.i64 (IntKind.i64.wrap (a_1 + b_1)), Value.int IntKind.i64 (IntKind.i64.wrap (a_2 + b_2)),
 Value.int IntKind.i64 (IntKind.i64.wrap (a_3 + b_3))],
 Value.bool true]))
 w18)))
theorem f27_eq (a_0 : Int) (a_1 : Int) (a_2 : Int) (a_3 : Int) (b_0 : Int) (b_1 : Int) (b_2 : Int) (b_3 : Int) (w : World) (R : Ending → World → Prop) : (fnF Go.Proofs.Try.prog h27 Go.Proofs.Try.f27 [Value.agg #[Value.int IntKind.i64 a_0, Value.int IntKind.i64 a_1, Value.int IntKind.i64 a_2, Value.int IntKind.i64 a_3],
 Value.agg #[Value.int IntKind.i64 b_0, Value.int IntKind.i64 b_1, Value.int IntKind.i64 b_2, Value.int IntKind.i64 b_3]] w R).den = f27_vc a_0 a_1 a_2 a_3 b_0 b_1 b_2 b_3 w R := by kernel_rfl
theorem f27_calls (a_0 : Int) (a_1 : Int) (a_2 : Int) (a_3 : Int) (b_0 : Int) (b_1 : Int) (b_2 : Int) (b_3 : Int) (w : World) (R : Ending → World → Prop) (h : f27_vc a_0 a_1 a_2 a_3 b_0 b_1 b_2 b_3 w R) : Calls Go.Proofs.Try.prog 27 (List.toArray [Value.agg #[Value.int IntKind.i64 a_0, Value.int IntKind.i64 a_1, Value.int IntKind.i64 a_2, Value.int IntKind.i64 a_3],
 Value.agg #[Value.int IntKind.i64 b_0, Value.int IntKind.i64 b_1, Value.int IntKind.i64 b_2, Value.int IntKind.i64 b_3]]) w R :=
 fn_sound (H := h27) (fn := Go.Proofs.Try.f27) (by kernel_rfl) (by kernel_rfl) (by kernel_rfl) ((f27_eq a_0 a_1 a_2 a_3 b_0 b_1 b_2 b_3 w R).mpr h)


/-! manciple/mancipleref06.Add -/
def h28 : Hints := ⟨[2, 3, 4, 6], [23, 26, 29], [15, 32, 11], [(7, [0, 1, 2, 3, 4, 5, 6, 7, 8, 9])], [(5, 5)], [], [], [], []⟩
def f28_vc (a_0 : Int) (a_1 : Int) (a_2 : Int) (a_3 : Int) (b_0 : Int) (b_1 : Int) (b_2 : Int) (b_3 : Int) (w : World) (R : Ending → World → Prop) : Prop :=
 ∀ (n1 : Nat),
 w.heap.size ≤ n1 →
 ∀ (n2 : Nat),
 w.heap.size ≤ n2 →
 ∀ (n3 : Nat),
 w.heap.size ≤ n3 →
 ∀ (n4 : Nat),
 w.heap.size ≤ n4 →
 ∀ (w5 : World),
 Below w.heap.size w w5 →
 Under [n1, n2, n3, n4] w5 →
 Calls Proofs.Try.prog 32 #[Value.agg #[Value.int IntKind.i64 a_0, Value.int IntKind.i64 a_1, Value.int IntKind.i64 a_2, Value.int IntKind.i64 a_3]] w5 fun (e6 : Ending) (w7 : World) =>
 ∃ (b8 : Bool),
 e6 = Ending.returned (Value.bool b8) ∧
 Keeps [n1, n2, n3, n4] w5 w7 ∧
 ((!b8) = true →
 ∀ (w9 : World),
 Evo [n3] w7 w9 →
 Under [n1, n2, n3, n4] w9 → R (Ending.returned (Value.tuple #[Value.agg #[Value.int IntKind.i64 0, Value.int IntKind.i64 0, Value.int IntKind.i64 0, Value.int IntKind.i64 0], Value.bool false])) w9) ∧
 ((!b8) = false →
 Calls Proofs.Try.prog 32 #[Value.agg #[Value.int IntKind.i64 b_0, Value.int IntKind.i64 b_1, Value.int IntKind.i64 b_2, Value.int IntKind.i64 b_3]] w7 fun (e10 : Ending) (w11 : World) =>
 ∃ (b12 : Bool),
 e10 = Ending.returned (Value.bool b12) ∧
 Keeps [n1, n2, n3, n4] w7 w11 ∧
 ((!b12) = true →
 ∀ (w13 : World),
 Evo [n3] w11 w13 →
 Under [n1, n2, n3, n4] w13 →
 R (Ending.returned (Value.tuple #[Value.agg #[Value.int IntKind.i64 0, Value.int IntKind.i64 0, Value.int IntKind.i64 0, Value.int IntKind.i64 0], Value.bool false])) w13) ∧
 ((!b12) = false →
 ∀ (w14 : World),
 Evo [n4, n4, n4, n4] w11 w14 →
 Under [n1, n2, n3, n4] w14 →
 Calls Proofs.Try.prog 32
 #[Value.agg
 #[Value.int IntKind.i64 (IntKind.i64.wrap (a_0 + b_0)), Value.int IntKind.i64 (IntKind.i64.wrap (a_1 + b_1)), Value.int IntKind.i64 (IntKind.i64.wrap (a_2 + b_2)),
 Value.int IntKind.i64 (IntKind.i64.wrap (a_3 + b_3))]]
 w14 fun (e15 : Ending) (w16 : World) =>
 ∃ (b17 : Bool),
 e15 = Ending.returned (Value.bool b17) ∧
 Keeps [n1, n2, n3, n4] w14 w16 ∧
 ((!b17) = true →
 ∀ (w18 : World),
 Evo [n3] w16 w18 →
 Under [n1, n2, n3, n4] w18 →
 R (Ending.returned (Value.tuple #[Value.agg #[Value.int IntKind.i64 0, Value.int IntKind.i64 0, Value.int IntKind.i64 0, Value.int IntKind.i64 0], Value.bool false]))
 w18) ∧
 ((!b17) = false →
 ∀ (w19 : World),
 Evo [n3] w16 w19 →
 Under [n1, n2, n3, n4] w19 →
 R
 (Ending.returned
 (Value.tuple
 #[Value.agg
 #[Value.int IntKind.i64 (IntKind.i64.wrap (a_0 + b_0)), Value.int IntKind.i64 (IntKind.i64.wrap (a_1 + b_1)),
 Value.int IntKind.i64 (IntKind.i64.wrap (a_2 + b_2)), Value.int IntKind.i64 (IntKind.i64.wrap (a_3 + b_3))],
 Value.bool true]))
 w19)))
theorem f28_eq (a_0 : Int) (a_1 : Int) (a_2 : Int) (a_3 : Int) (b_0 : Int) (b_1 : Int) (b_2 : Int) (b_3 : Int) (w : World) (R : Ending → World → Prop) : (fnF Go.Proofs.Try.prog h28 Go.Proofs.Try.f28 [Value.agg #[Value.int IntKind.i64 a_0, Value.int IntKind.i64 a_1, Value.int IntKind.i64 a_2, Value.int IntKind.i64 a_3],
 Value.agg #[Value.int IntKind.i64 b_0, Value.int IntKind.i64 b_1, Value.int IntKind.i64 b_2, Value.int IntKind.i64 b_3]] w R).den = f28_vc a_0 a_1 a_2 a_3 b_0 b_1 b_2 b_3 w R := by kernel_rfl
theorem f28_calls (a_0 : Int) (a_1 : Int) (a_2 : Int) (a_3 : Int) (b_0 : Int) (b_1 : Int) (b_2 : Int) (b_3 : Int) (w : World) (R : Ending → World → Prop) (h : f28_vc a_0 a_1 a_2 a_3 b_0 b_1 b_2 b_3 w R) : Calls Go.Proofs.Try.prog 28 (List.toArray [Value.agg #[Value.int IntKind.i64 a_0, Value.int IntKind.i64 a_1, Value.int IntKind.i64 a_2, Value.int IntKind.i64 a_3],
 Value.agg #[Value.int IntKind.i64 b_0, Value.int IntKind.i64 b_1, Value.int IntKind.i64 b_2, Value.int IntKind.i64 b_3]]) w R :=
 fn_sound (H := h28) (fn := Go.Proofs.Try.f28) (by kernel_rfl) (by kernel_rfl) (by kernel_rfl) ((f28_eq a_0 a_1 a_2 a_3 b_0 b_1 b_2 b_3 w R).mpr h)


/-! (manciple/sums.Sums).Sub -/
def h29 : Hints := ⟨[2, 3, 4], [16, 19, 22], [10], [(6, [0, 1, 2, 3, 4, 5, 6, 7, 8])], [(4, 5)], [], [], [], []⟩
def f29_vc (a_0 : Int) (a_1 : Int) (a_2 : Int) (a_3 : Int) (b_0 : Int) (b_1 : Int) (b_2 : Int) (b_3 : Int) (w : World) (R : Ending → World → Prop) : Prop :=
 ∀ (n1 : Nat),
 w.heap.size ≤ n1 →
 ∀ (n2 : Nat),
 w.heap.size ≤ n2 →
 ∀ (n3 : Nat),
 w.heap.size ≤ n3 →
 ∀ (w4 : World),
 Below w.heap.size w w4 →
 Under [n1, n2, n3] w4 →
 Calls Proofs.Try.prog 26
 #[Value.agg #[Value.int IntKind.i64 a_0, Value.int IntKind.i64 a_1, Value.int IntKind.i64 a_2, Value.int IntKind.i64 a_3],
 Value.agg #[Value.int IntKind.i64 b_0, Value.int IntKind.i64 b_1, Value.int IntKind.i64 b_2, Value.int IntKind.i64 b_3]]
 w4 fun (e5 : Ending) (w6 : World) =>
 ∃ (b7 : Bool),
 e5 = Ending.returned (Value.bool b7) ∧
 Keeps [n1, n2, n3] w4 w6 ∧
 ((!b7) = true →
 ∀ (w8 : World),
 Evo [n3] w6 w8 →
 Under [n1, n2, n3] w8 → R (Ending.returned (Value.tuple #[Value.agg #[Value.int IntKind.i64 0, Value.int IntKind.i64 0, Value.int IntKind.i64 0, Value.int IntKind.i64 0], Value.bool false])) w8) ∧
 ((!b7) = false →
 ∀ (w9 : World),
 Evo [n3, n1, n1, n1, n1] w6 w9 →
 Under [n1, n2, n3] w9 →
 R
 (Ending.returned
 (Value.tuple
 #[Value.agg
 #[Value.int IntKind.i64 (IntKind.i64.wrap (a_0 - b_0)), Value.int IntKind.i64 (IntKind.i64.wrap (a_1 - b_1)), Value.int IntKind.i64 (IntKind.i64.wrap (a_2 - b_2)),
 Value.int IntKind.i64 (IntKind.i64.wrap (a_3 - b_3))],
 Value.bool true]))
 w9)
theorem f29_eq (a_0 : Int) (a_1 : Int) (a_2 : Int) (a_3 : Int) (b_0 : Int) (b_1 : Int) (b_2 : Int) (b_3 : Int) (w : World) (R : Ending → World → Prop) : (fnF Go.Proofs.Try.prog h29 Go.Proofs.Try.f29 [Value.agg #[Value.int IntKind.i64 a_0, Value.int IntKind.i64 a_1, Value.int IntKind.i64 a_2, Value.int IntKind.i64 a_3],
 Value.agg #[Value.int IntKind.i64 b_0, Value.int IntKind.i64 b_1, Value.int IntKind.i64 b_2, Value.int IntKind.i64 b_3]] w R).den = f29_vc a_0 a_1 a_2 a_3 b_0 b_1 b_2 b_3 w R := by kernel_rfl
theorem f29_calls (a_0 : Int) (a_1 : Int) (a_2 : Int) (a_3 : Int) (b_0 : Int) (b_1 : Int) (b_2 : Int) (b_3 : Int) (w : World) (R : Ending → World → Prop) (h : f29_vc a_0 a_1 a_2 a_3 b_0 b_1 b_2 b_3 w R) : Calls Go.Proofs.Try.prog 29 (List.toArray [Value.agg #[Value.int IntKind.i64 a_0, Value.int IntKind.i64 a_1, Value.int IntKind.i64 a_2, Value.int IntKind.i64 a_3],
 Value.agg #[Value.int IntKind.i64 b_0, Value.int IntKind.i64 b_1, Value.int IntKind.i64 b_2, Value.int IntKind.i64 b_3]]) w R :=
 fn_sound (H := h29) (fn := Go.Proofs.Try.f29) (by kernel_rfl) (by kernel_rfl) (by kernel_rfl) ((f29_eq a_0 a_1 a_2 a_3 b_0 b_1 b_2 b_3 w R).mpr h)


/-! manciple/mancipleref06.Sub -/
def h30 : Hints := ⟨[2, 3, 4, 6], [19, 22, 25], [11], [(7, [0, 1, 2, 3, 4, 5, 6, 7, 8, 9])], [(5, 5)], [], [], [], []⟩
def f30_vc (a_0 : Int) (a_1 : Int) (a_2 : Int) (a_3 : Int) (b_0 : Int) (b_1 : Int) (b_2 : Int) (b_3 : Int) (w : World) (R : Ending → World → Prop) : Prop :=
 ∀ (n1 : Nat),
 w.heap.size ≤ n1 →
 ∀ (n2 : Nat),
 w.heap.size ≤ n2 →
 ∀ (n3 : Nat),
 w.heap.size ≤ n3 →
 ∀ (n4 : Nat),
 w.heap.size ≤ n4 →
 ∀ (w5 : World),
 Below w.heap.size w w5 →
 Under [n1, n2, n3, n4] w5 →
 Calls Proofs.Try.prog 31
 #[Value.agg #[Value.int IntKind.i64 a_0, Value.int IntKind.i64 a_1, Value.int IntKind.i64 a_2, Value.int IntKind.i64 a_3],
 Value.agg #[Value.int IntKind.i64 b_0, Value.int IntKind.i64 b_1, Value.int IntKind.i64 b_2, Value.int IntKind.i64 b_3]]
 w5 fun (e6 : Ending) (w7 : World) =>
 ∃ (b8 : Bool),
 e6 = Ending.returned (Value.bool b8) ∧
 Keeps [n1, n2, n3, n4] w5 w7 ∧
 ((!b8) = true →
 ∀ (w9 : World),
 Evo [n3] w7 w9 →
 Under [n1, n2, n3, n4] w9 → R (Ending.returned (Value.tuple #[Value.agg #[Value.int IntKind.i64 0, Value.int IntKind.i64 0, Value.int IntKind.i64 0, Value.int IntKind.i64 0], Value.bool false])) w9) ∧
 ((!b8) = false →
 ∀ (w10 : World),
 Evo [n3, n4, n4, n4, n4] w7 w10 →
 Under [n1, n2, n3, n4] w10 →
 R
 (Ending.returned
 (Value.tuple
 #[Value.agg
 #[Value.int IntKind.i64 (IntKind.i64.wrap (a_0 - b_0)), Value.int IntKind.i64 (IntKind.i64.wrap (a_1 - b_1)), Value.int IntKind.i64 (IntKind.i64.wrap (a_2 - b_2)),
 Value.int IntKind.i64 (IntKind.i64.wrap (a_3 - b_3))],
 Value.bool true]))
 w10)
theorem f30_eq (a_0 : Int) (a_1 : Int) (a_2 : Int) (a_3 : Int) (b_0 : Int) (b_1 : Int) (b_2 : Int) (b_3 : Int) (w : World) (R : Ending → World → Prop) : (fnF Go.Proofs.Try.prog h30 Go.Proofs.Try.f30 [Value.agg #[Value.int IntKind.i64 a_0, Value.int IntKind.i64 a_1, Value.int IntKind.i64 a_2, Value.int IntKind.i64 a_3],
 Value.agg #[Value.int IntKind.i64 b_0, Value.int IntKind.i64 b_1, Value.int IntKind.i64 b_2, Value.int IntKind.i64 b_3]] w R).den = f30_vc a_0 a_1 a_2 a_3 b_0 b_1 b_2 b_3 w R := by kernel_rfl
theorem f30_calls (a_0 : Int) (a_1 : Int) (a_2 : Int) (a_3 : Int) (b_0 : Int) (b_1 : Int) (b_2 : Int) (b_3 : Int) (w : World) (R : Ending → World → Prop) (h : f30_vc a_0 a_1 a_2 a_3 b_0 b_1 b_2 b_3 w R) : Calls Go.Proofs.Try.prog 30 (List.toArray [Value.agg #[Value.int IntKind.i64 a_0, Value.int IntKind.i64 a_1, Value.int IntKind.i64 a_2, Value.int IntKind.i64 a_3],
 Value.agg #[Value.int IntKind.i64 b_0, Value.int IntKind.i64 b_1, Value.int IntKind.i64 b_2, Value.int IntKind.i64 b_3]]) w R :=
 fn_sound (H := h30) (fn := Go.Proofs.Try.f30) (by kernel_rfl) (by kernel_rfl) (by kernel_rfl) ((f30_eq a_0 a_1 a_2 a_3 b_0 b_1 b_2 b_3 w R).mpr h)


/-! manciple/mancipleref06.Holds -/
def h31 : Hints := ⟨[2, 3], [11, 14], [16, 19], [(4, [0, 1, 2, 3, 4, 5, 6])], [(2, 5)], [], [], [], []⟩
def f31_vc (a_0 : Int) (a_1 : Int) (a_2 : Int) (a_3 : Int) (b_0 : Int) (b_1 : Int) (b_2 : Int) (b_3 : Int) (w : World) (R : Ending → World → Prop) : Prop :=
 ∀ (n1 : Nat),
 w.heap.size ≤ n1 →
 ∀ (n2 : Nat),
 w.heap.size ≤ n2 →
 (decide (a_0 < b_0) = true → ∀ (w3 : World), Below w.heap.size w w3 → Under [n1, n2] w3 → R (Ending.returned (Value.bool false)) w3) ∧
 (decide (a_0 < b_0) = false →
 (decide (a_1 < b_1) = true → ∀ (w4 : World), Below w.heap.size w w4 → Under [n1, n2] w4 → R (Ending.returned (Value.bool false)) w4) ∧
 (decide (a_1 < b_1) = false →
 (decide (a_2 < b_2) = true → ∀ (w5 : World), Below w.heap.size w w5 → Under [n1, n2] w5 → R (Ending.returned (Value.bool false)) w5) ∧
 (decide (a_2 < b_2) = false →
 (decide (a_3 < b_3) = true → ∀ (w6 : World), Below w.heap.size w w6 → Under [n1, n2] w6 → R (Ending.returned (Value.bool false)) w6) ∧
 (decide (a_3 < b_3) = false →
 ∀ (w7 : World),
 Below w.heap.size w w7 →
 Under [n1, n2] w7 →
 Calls Proofs.Try.prog 32 #[Value.agg #[Value.int IntKind.i64 a_0, Value.int IntKind.i64 a_1, Value.int IntKind.i64 a_2, Value.int IntKind.i64 a_3]] w7 fun (e8 : Ending) (w9 : World) =>
 ∃ (b10 : Bool),
 e8 = Ending.returned (Value.bool b10) ∧
 Keeps [n1, n2] w7 w9 ∧
 (b10 = true →
 Calls Proofs.Try.prog 32 #[Value.agg #[Value.int IntKind.i64 b_0, Value.int IntKind.i64 b_1, Value.int IntKind.i64 b_2, Value.int IntKind.i64 b_3]] w9 fun (e11 : Ending) (w12 : World) =>
 ∃ (b13 : Bool), e11 = Ending.returned (Value.bool b13) ∧ Keeps [n1, n2] w9 w12 ∧ R (Ending.returned (Value.bool b13)) w12) ∧
 (b10 = false → R (Ending.returned (Value.bool false)) w9)))))
theorem f31_eq (a_0 : Int) (a_1 : Int) (a_2 : Int) (a_3 : Int) (b_0 : Int) (b_1 : Int) (b_2 : Int) (b_3 : Int) (w : World) (R : Ending → World → Prop) : (fnF Go.Proofs.Try.prog h31 Go.Proofs.Try.f31 [Value.agg #[Value.int IntKind.i64 a_0, Value.int IntKind.i64 a_1, Value.int IntKind.i64 a_2, Value.int IntKind.i64 a_3],
 Value.agg #[Value.int IntKind.i64 b_0, Value.int IntKind.i64 b_1, Value.int IntKind.i64 b_2, Value.int IntKind.i64 b_3]] w R).den = f31_vc a_0 a_1 a_2 a_3 b_0 b_1 b_2 b_3 w R := by kernel_rfl
theorem f31_calls (a_0 : Int) (a_1 : Int) (a_2 : Int) (a_3 : Int) (b_0 : Int) (b_1 : Int) (b_2 : Int) (b_3 : Int) (w : World) (R : Ending → World → Prop) (h : f31_vc a_0 a_1 a_2 a_3 b_0 b_1 b_2 b_3 w R) : Calls Go.Proofs.Try.prog 31 (List.toArray [Value.agg #[Value.int IntKind.i64 a_0, Value.int IntKind.i64 a_1, Value.int IntKind.i64 a_2, Value.int IntKind.i64 a_3],
 Value.agg #[Value.int IntKind.i64 b_0, Value.int IntKind.i64 b_1, Value.int IntKind.i64 b_2, Value.int IntKind.i64 b_3]]) w R :=
 fn_sound (H := h31) (fn := Go.Proofs.Try.f31) (by kernel_rfl) (by kernel_rfl) (by kernel_rfl) ((f31_eq a_0 a_1 a_2 a_3 b_0 b_1 b_2 b_3 w R).mpr h)


/-! manciple/mancipleref06.Right -/
def h32 : Hints := ⟨[1], [9, 14], [17, 12], [], [(2, 5)], [], [], [], []⟩
def f32_vc (a_0 : Int) (a_1 : Int) (a_2 : Int) (a_3 : Int) (w : World) (R : Ending → World → Prop) : Prop :=
 ∀ (n1 : Nat),
 w.heap.size ≤ n1 →
 (decide (a_0 < 0) = true → ∀ (w2 : World), Below w.heap.size w w2 → Under [n1] w2 → R (Ending.returned (Value.bool false)) w2) ∧
 (decide (a_0 < 0) = false →
 (decide (a_0 > 1152921504606846976) = true → ∀ (w3 : World), Below w.heap.size w w3 → Under [n1] w3 → R (Ending.returned (Value.bool false)) w3) ∧
 (decide (a_0 > 1152921504606846976) = false →
 (decide (a_1 < 0) = true → ∀ (w4 : World), Below w.heap.size w w4 → Under [n1] w4 → R (Ending.returned (Value.bool false)) w4) ∧
 (decide (a_1 < 0) = false →
 (decide (a_1 > 1152921504606846976) = true → ∀ (w5 : World), Below w.heap.size w w5 → Under [n1] w5 → R (Ending.returned (Value.bool false)) w5) ∧
 (decide (a_1 > 1152921504606846976) = false →
 (decide (a_2 < 0) = true → ∀ (w6 : World), Below w.heap.size w w6 → Under [n1] w6 → R (Ending.returned (Value.bool false)) w6) ∧
 (decide (a_2 < 0) = false →
 (decide (a_2 > 1152921504606846976) = true → ∀ (w7 : World), Below w.heap.size w w7 → Under [n1] w7 → R (Ending.returned (Value.bool false)) w7) ∧
 (decide (a_2 > 1152921504606846976) = false →
 (decide (a_3 < 0) = true → ∀ (w8 : World), Below w.heap.size w w8 → Under [n1] w8 → R (Ending.returned (Value.bool false)) w8) ∧
 (decide (a_3 < 0) = false →
 (decide (a_3 > 1152921504606846976) = true → ∀ (w9 : World), Below w.heap.size w w9 → Under [n1] w9 → R (Ending.returned (Value.bool false)) w9) ∧
 (decide (a_3 > 1152921504606846976) = false → ∀ (w10 : World), Below w.heap.size w w10 → Under [n1] w10 → R (Ending.returned (Value.bool true)) w10))))))))
theorem f32_eq (a_0 : Int) (a_1 : Int) (a_2 : Int) (a_3 : Int) (w : World) (R : Ending → World → Prop) : (fnF Go.Proofs.Try.prog h32 Go.Proofs.Try.f32 [Value.agg #[Value.int IntKind.i64 a_0, Value.int IntKind.i64 a_1, Value.int IntKind.i64 a_2, Value.int IntKind.i64 a_3]] w R).den = f32_vc a_0 a_1 a_2 a_3 w R := by kernel_rfl
theorem f32_calls (a_0 : Int) (a_1 : Int) (a_2 : Int) (a_3 : Int) (w : World) (R : Ending → World → Prop) (h : f32_vc a_0 a_1 a_2 a_3 w R) : Calls Go.Proofs.Try.prog 32 (List.toArray [Value.agg #[Value.int IntKind.i64 a_0, Value.int IntKind.i64 a_1, Value.int IntKind.i64 a_2, Value.int IntKind.i64 a_3]]) w R :=
 fn_sound (H := h32) (fn := Go.Proofs.Try.f32) (by kernel_rfl) (by kernel_rfl) (by kernel_rfl) ((f32_eq a_0 a_1 a_2 a_3 w R).mpr h)

end Vcbu
