/- Own texts of this claim, laid together: FX1, X2, X3, X4, X5, FX2, X6, X7, FX5, X8, X9. -/
import Derived.Test.YtcmojiajjlamiaaMg3f3b021e
import Derived.Test.YtcmojiajjlamiaaProg

/- The formulas of functions, printed by a program (VcTool.lean): each is what the generator's formula comes to, by the kernel's reckoning; whoever proves one has the function's contract. -/
set_option maxRecDepth 100000
set_option maxHeartbeats 1000000
set_option linter.unusedVariables false
namespace Vcxa
open Go Go.Vc Go.RowKit
/-! (manciple/book.look).set -/
def h50 : Hints := ⟨[1, 3], [], [10, 16, 24, 30], [], [], [], [], [], []⟩
def f50_vc (b_0 : Int) (b_1 : Int) (b_2 : Int) (b_3 : Int) (b_4 : Int) (b_5 : Int) (b_6 : Int) (b_7 : Int) (b_8 : Int) (b_9 : Int) (b_10 : Int) (b_11a : Option Addr) (b_11n : Nat) (b_11c : Nat) (b_12a : Option Addr) (b_12n : Nat) (b_12c : Nat) (b_13a : Option Addr) (b_13n : Nat) (b_13c : Nat) (b_14a : Option Addr) (b_14n : Nat) (b_14c : Nat) (b_15a : Option Addr) (b_15n : Nat) (b_15c : Nat) (w : World) (R : Ending → World → Prop) : Prop :=
 ∀ (n1 : Nat),
 w.heap.size ≤ n1 →
 ∀ (n2 : Nat),
 w.heap.size ≤ n2 →
 ∀ (w3 : World),
 Evo [n2] w w3 →
 Under [n1, n2] w3 →
 Calls Proofs.Try.prog 75
 #[Value.agg
 #[Value.int IntKind.i64 b_0, Value.int IntKind.i64 b_1, Value.int IntKind.i64 b_2, Value.int IntKind.i64 b_3, Value.int IntKind.i64 b_4, Value.int IntKind.i64 b_5, Value.int IntKind.i64 b_6, Value.int IntKind.i64 b_7,
 Value.int IntKind.i64 b_8]]
 w3 fun (e4 : Ending) (w5 : World) =>
 ∃ (x6 : Int),
 e4 = Ending.returned (Value.int IntKind.i64 x6) ∧
 Keeps [n1, n2] w3 w5 ∧
 ((x6 == 0) = true →
 (decide (b_9 ≥ 0) = true →
 (decide (b_9 ≤ b_0) = true → (decide (b_10 ≥ 0) = true → R (Ending.returned (Value.bool (decide (b_10 ≤ b_2)))) w5) ∧ (decide (b_10 ≥ 0) = false → R (Ending.returned (Value.bool false)) w5)) ∧
 (decide (b_9 ≤ b_0) = false → R (Ending.returned (Value.bool false)) w5)) ∧
 (decide (b_9 ≥ 0) = false → R (Ending.returned (Value.bool false)) w5)) ∧
 ((x6 == 0) = false → R (Ending.returned (Value.bool false)) w5)
theorem f50_eq (b_0 : Int) (b_1 : Int) (b_2 : Int) (b_3 : Int) (b_4 : Int) (b_5 : Int) (b_6 : Int) (b_7 : Int) (b_8 : Int) (b_9 : Int) (b_10 : Int) (b_11a : Option Addr) (b_11n : Nat) (b_11c : Nat) (b_12a : Option Addr) (b_12n : Nat) (b_12c : Nat) (b_13a : Option Addr) (b_13n : Nat) (b_13c : Nat) (b_14a : Option Addr) (b_14n : Nat) (b_14c : Nat) (b_15a : Option Addr) (b_15n : Nat) (b_15c : Nat) (w : World) (R : Ending → World → Prop) : (fnF Go.Proofs.Try.prog h50 Go.Proofs.Try.f50 [Value.agg
 #[Value.int IntKind.i64 b_0, Value.int IntKind.i64 b_1, Value.int IntKind.i64 b_2, Value.int IntKind.i64 b_3, Value.int IntKind.i64 b_4, Value.int IntKind.i64 b_5, Value.int IntKind.i64 b_6, Value.int IntKind.i64 b_7,
 Value.int IntKind.i64 b_8, Value.int IntKind.i64 b_9, Value.int IntKind.i64 b_10, Value.slice b_11a b_11n b_11c, Value.slice b_12a b_12n b_12c, Value.slice b_13a b_13n b_13c, Value.slice b_14a b_14n b_14c,
 Value.slice b_15a b_15n b_15c]] w R).den = f50_vc b_0 b_1 b_2 b_3 b_4 b_5 b_6 b_7 b_8 b_9 b_10 b_11a b_11n b_11c b_12a b_12n b_12c b_13a b_13n b_13c b_14a b_14n b_14c b_15a b_15n b_15c w R := by kernel_rfl
theorem f50_calls (b_0 : Int) (b_1 : Int) (b_2 : Int) (b_3 : Int) (b_4 : Int) (b_5 : Int) (b_6 : Int) (b_7 : Int) (b_8 : Int) (b_9 : Int) (b_10 : Int) (b_11a : Option Addr) (b_11n : Nat) (b_11c : Nat) (b_12a : Option Addr) (b_12n : Nat) (b_12c : Nat) (b_13a : Option Addr) (b_13n : Nat) (b_13c : Nat) (b_14a : Option Addr) (b_14n : Nat) (b_14c : Nat) (b_15a : Option Addr) (b_15n : Nat) (b_15c : Nat) (w : World) (R : Ending → World → Prop) (h : f50_vc b_0 b_1 b_2 b_3 b_4 b_5 b_6 b_7 b_8 b_9 b_10 b_11a b_11n b_11c b_12a b_12n b_12c b_13a b_13n b_13c b_14a b_14n b_14c b_15a b_15n b_15c w R) : Calls Go.Proofs.Try.prog 50 (List.toArray [Value.agg
 #[Value.int IntKind.i64 b_0, Value.int IntKind.i64 b_1, Value.int IntKind.i64 b_2, Value.int IntKind.i64 b_3, Value.int IntKind.i64 b_4, Value.int IntKind.i64 b_5, Value.int IntKind.i64 b_6, Value.int IntKind.i64 b_7,
 Value.int IntKind.i64 b_8, Value.int IntKind.i64 b_9, Value.int IntKind.i64 b_10, Value.slice b_11a b_11n b_11c, Value.slice b_12a b_12n b_12c, Value.slice b_13a b_13n b_13c, Value.slice b_14a b_14n b_14c,
 Value.slice b_15a b_15n b_15c]]) w R :=
 fn_sound (H := h50) (fn := Go.Proofs.Try.f50) (by kernel_rfl) (by kernel_rfl) (by kernel_rfl) ((f50_eq b_0 b_1 b_2 b_3 b_4 b_5 b_6 b_7 b_8 b_9 b_10 b_11a b_11n b_11c b_12a b_12n b_12c b_13a b_13n b_13c b_14a b_14n b_14c b_15a b_15n b_15c w R).mpr h)


/-! (manciple/book.look).agents -/
def h52 : Hints := ⟨[1, 4], [12, 29], [10, 52, 18, 21, 35, 41, 47], [(4, [0, 1, 2, 3, 4, 5, 6, 7, 8, 9, 10, 11, 12, 13, 14, 15, 16, 17, 18, 19, 20, 21, 22, 23, 24, 25, 26, 27, 28, 29, 30, 31, 32, 33, 34, 35, 36, 37, 38])], [], [(2, ⟨[(9, .int .i64)], []⟩)], [], [], []⟩
def f52_vc (b_0 : Int) (b_1 : Int) (b_2 : Int) (b_3 : Int) (b_4 : Int) (b_5 : Int) (b_6 : Int) (b_7 : Int) (b_8 : Int) (b_9 : Int) (b_10 : Int) (b_11a : Option Addr) (b_11n : Nat) (b_11c : Nat) (b_12a : Option Addr) (b_12n : Nat) (b_12c : Nat) (b_13a : Option Addr) (b_13n : Nat) (b_13c : Nat) (b_14a : Option Addr) (b_14n : Nat) (b_14c : Nat) (b_15a : Option Addr) (b_15n : Nat) (b_15c : Nat) (w : World) (R : Ending → World → Prop) : Prop :=
 ∀ (n1 : Nat),
 w.heap.size ≤ n1 →
 ∃ (J2 : Int × Unit → World → Prop),
 ∃ (J3 : Int × Unit → World → Nat),
 (∀ (w4 : World), Bel w w4 → Under [n1] w4 → J2 (0, ()) w4) ∧
 ∀ (x5 : Int) (w6 : World),
 J2 (x5, ()) w6 →
 (decide (x5 < (↑b_12n : Int)) = true →
 ∃ (ad7 : Addr),
 Gives Proofs.Try.prog (Instr.indexAt 26 (Value.slice b_12a b_12n b_12c) (Value.int IntKind.i64 x5)) (Value.pointer (some ad7)) ∧
 ∃ (x8 : Int),
 ∃ (a9 : Option Addr),
 ∃ (n10 : Nat),
 ∃ (n11 : Nat),
 ∃ (a12 : Option Addr),
 ∃ (n13 : Nat),
 ∃ (n14 : Nat),
 Reads Proofs.Try.prog [] (Instr.loadAt 56 (Value.pointer (some ad7))) w6 (Value.agg #[Value.int IntKind.i64 x8, Value.slice a9 n10 n11, Value.slice a12 n13 n14]) ∧
 ∀ (n15 : Nat),
 w6.heap.size ≤ n15 →
 ∀ (w16 : World),
 Evo [n15] w6 w16 →
 Under [n1, n15] w16 →
 Calls Proofs.Try.prog 76 #[Value.int IntKind.i64 x8] w16 fun (e17 : Ending) (w18 : World) =>
 ∃ (b19 : Bool),
 e17 = Ending.returned (Value.bool b19) ∧
 Keeps [n1, n15] w16 w18 ∧
 ((!b19) = true → R (Ending.returned (Value.bool false)) w18) ∧
 ((!b19) = false →
 (decide (x5 > 0) = true →
 ∃ (ad20 : Addr),
 Gives Proofs.Try.prog (Instr.indexAt 26 (Value.slice b_12a b_12n b_12c) (Value.int IntKind.i64 (IntKind.i64.wrap (x5 - 1)))) (Value.pointer (some ad20)) ∧
 ∃ (x21 : Int),
 Reads Proofs.Try.prog [] (Instr.loadAt 2 (Value.pointer (some ad20))) w18 (Value.int IntKind.i64 x21) ∧
 (decide (x8 ≤ x21) = true → R (Ending.returned (Value.bool false)) w18) ∧
 (decide (x8 ≤ x21) = false →
 (((↑n10 : Int) == 0) = true → R (Ending.returned (Value.bool false)) w18) ∧
 (((↑n10 : Int) == 0) = false →
 Calls Proofs.Try.prog 63 #[Value.slice a9 n10 n11] w18 fun (e22 : Ending) (w23 : World) =>
 ∃ (b24 : Bool),
 e22 = Ending.returned (Value.bool b24) ∧
 Keeps [n1, n15] w18 w23 ∧
 Reads Proofs.Try.prog [] (Instr.loadAt 2 (Value.pointer (some ad20))) w23 (Value.int IntKind.i64 x21) ∧
 ((!b24) = true → R (Ending.returned (Value.bool false)) w23) ∧
 ((!b24) = false →
 Calls Proofs.Try.prog 63 #[Value.slice a12 n13 n14] w23 fun (e25 : Ending) (w26 : World) =>
 ∃ (b27 : Bool),
 e25 = Ending.returned (Value.bool b27) ∧
 Keeps [n1, n15] w23 w26 ∧
 Reads Proofs.Try.prog [] (Instr.loadAt 2 (Value.pointer (some ad20))) w26 (Value.int IntKind.i64 x21) ∧
 ((!b27) = true → R (Ending.returned (Value.bool false)) w26) ∧
 ((!b27) = false → J2 (IntKind.i64.wrap (x5 + 1), ()) w26 ∧ J3 (IntKind.i64.wrap (x5 + 1), ()) w26 < J3 (x5, ()) w6))))) ∧
 (decide (x5 > 0) = false →
 (((↑n10 : Int) == 0) = true → R (Ending.returned (Value.bool false)) w18) ∧
 (((↑n10 : Int) == 0) = false →
 Calls Proofs.Try.prog 63 #[Value.slice a9 n10 n11] w18 fun (e28 : Ending) (w29 : World) =>
 ∃ (b30 : Bool),
 e28 = Ending.returned (Value.bool b30) ∧
 Keeps [n1, n15] w18 w29 ∧
 ((!b30) = true → R (Ending.returned (Value.bool false)) w29) ∧
 ((!b30) = false →
 Calls Proofs.Try.prog 63 #[Value.slice a12 n13 n14] w29 fun (e31 : Ending) (w32 : World) =>
 ∃ (b33 : Bool),
 e31 = Ending.returned (Value.bool b33) ∧
 Keeps [n1, n15] w29 w32 ∧
 ((!b33) = true → R (Ending.returned (Value.bool false)) w32) ∧
 ((!b33) = false → J2 (IntKind.i64.wrap (x5 + 1), ()) w32 ∧ J3 (IntKind.i64.wrap (x5 + 1), ()) w32 < J3 (x5, ()) w6)))))) ∧
 (decide (x5 < (↑b_12n : Int)) = false → R (Ending.returned (Value.bool (decide ((↑b_12n : Int) ≤ b_4)))) w6)
theorem f52_eq (b_0 : Int) (b_1 : Int) (b_2 : Int) (b_3 : Int) (b_4 : Int) (b_5 : Int) (b_6 : Int) (b_7 : Int) (b_8 : Int) (b_9 : Int) (b_10 : Int) (b_11a : Option Addr) (b_11n : Nat) (b_11c : Nat) (b_12a : Option Addr) (b_12n : Nat) (b_12c : Nat) (b_13a : Option Addr) (b_13n : Nat) (b_13c : Nat) (b_14a : Option Addr) (b_14n : Nat) (b_14c : Nat) (b_15a : Option Addr) (b_15n : Nat) (b_15c : Nat) (w : World) (R : Ending → World → Prop) : (fnF Go.Proofs.Try.prog h52 Go.Proofs.Try.f52 [Value.agg
 #[Value.int IntKind.i64 b_0, Value.int IntKind.i64 b_1, Value.int IntKind.i64 b_2, Value.int IntKind.i64 b_3, Value.int IntKind.i64 b_4, Value.int IntKind.i64 b_5, Value.int IntKind.i64 b_6, Value.int IntKind.i64 b_7,
 Value.int IntKind.i64 b_8, Value.int IntKind.i64 b_9, Value.int IntKind.i64 b_10, Value.slice b_11a b_11n b_11c, Value.slice b_12a b_12n b_12c, Value.slice b_13a b_13n b_13c, Value.slice b_14a b_14n b_14c,
 Value.slice b_15a b_15n b_15c]] w R).den = f52_vc b_0 b_1 b_2 b_3 b_4 b_5 b_6 b_7 b_8 b_9 b_10 b_11a b_11n b_11c b_12a b_12n b_12c b_13a b_13n b_13c b_14a b_14n b_14c b_15a b_15n b_15c w R := by kernel_rfl
theorem f52_calls (b_0 : Int) (b_1 : Int) (b_2 : Int) (b_3 : Int) (b_4 : Int) (b_5 : Int) (b_6 : Int) (b_7 : Int) (b_8 : Int) (b_9 : Int) (b_10 : Int) (b_11a : Option Addr) (b_11n : Nat) (b_11c : Nat) (b_12a : Option Addr) (b_12n : Nat) (b_12c : Nat) (b_13a : Option Addr) (b_13n : Nat) (b_13c : Nat) (b_14a : Option Addr) (b_14n : Nat) (b_14c : Nat) (b_15a : Option Addr) (b_15n : Nat) (b_15c : Nat) (w : World) (R : Ending → World → Prop) (h : f52_vc b_0 b_1 b_2 b_3 b_4 b_5 b_6 b_7 b_8 b_9 b_10 b_11a b_11n b_11c b_12a b_12n b_12c b_13a b_13n b_13c b_14a b_14n b_14c b_15a b_15n b_15c w R) : Calls Go.Proofs.Try.prog 52 (List.toArray [Value.agg
 #[Value.int IntKind.i64 b_0, Value.int IntKind.i64 b_1, Value.int IntKind.i64 b_2, Value.int IntKind.i64 b_3, Value.int IntKind.i64 b_4, Value.int IntKind.i64 b_5, Value.int IntKind.i64 b_6, Value.int IntKind.i64 b_7,
 Value.int IntKind.i64 b_8, Value.int IntKind.i64 b_9, Value.int IntKind.i64 b_10, Value.slice b_11a b_11n b_11c, Value.slice b_12a b_12n b_12c, Value.slice b_13a b_13n b_13c, Value.slice b_14a b_14n b_14c,
 Value.slice b_15a b_15n b_15c]]) w R :=
 fn_sound (H := h52) (fn := Go.Proofs.Try.f52) (by kernel_rfl) (by kernel_rfl) (by kernel_rfl) ((f52_eq b_0 b_1 b_2 b_3 b_4 b_5 b_6 b_7 b_8 b_9 b_10 b_11a b_11n b_11c b_12a b_12n b_12c b_13a b_13n b_13c b_14a b_14n b_14c b_15a b_15n b_15c w R).mpr h)


/-! (manciple/book.look).most -/
def h53 : Hints := ⟨[1, 3, 5], [14, 27], [13, 34, 26], [(6, [0, 1, 2, 3, 5, 6, 7, 8, 4, 9, 10])], [], [(3, ⟨[(12, .int .i64)], [(3, .cons (.int .i64) (.cons (.int .i64) (.cons (.int .i64) (.cons (.int .i64) (.nil)))))]⟩)], [], [], [(5, (.op 0 (.op 1 (.op 2 (.alt (.op 3 (.alt (.op 4 (.op 5 (.op 6 (.op 7 (.op 8 (.op 9 (.op 10 .nil))))))) (.op 8 (.op 4 (.op 5 (.op 6 (.op 7 (.op 9 (.op 10 .nil))))))))) (.op 8 (.op 3 (.op 4 (.op 5 (.op 6 (.op 7 (.op 9 (.op 10 .nil)))))))))))))]⟩
def f53_vc (b_0 : Int) (b_1 : Int) (b_2 : Int) (b_3 : Int) (b_4 : Int) (b_5 : Int) (b_6 : Int) (b_7 : Int) (b_8 : Int) (b_9 : Int) (b_10 : Int) (b_11a : Option Addr) (b_11n : Nat) (b_11c : Nat) (b_12a : Option Addr) (b_12n : Nat) (b_12c : Nat) (b_13a : Option Addr) (b_13n : Nat) (b_13c : Nat) (b_14a : Option Addr) (b_14n : Nat) (b_14c : Nat) (b_15a : Option Addr) (b_15n : Nat) (b_15c : Nat) (w : World) (R : Ending → World → Prop) : Prop :=
 ∀ (n1 : Nat),
 w.heap.size ≤ n1 →
 ∀ (n2 : Nat),
 w.heap.size ≤ n2 →
 ∃ (J3 : Int × Int × Int × Int × Int × Unit → World → Prop),
 ∃ (J4 : Int × Int × Int × Int × Int × Unit → World → Nat),
 (∀ (w5 : World), Bel w w5 → Under [n1, n2] w5 → J3 (0, 0, 0, 0, 0, ()) w5) ∧
 ∀ (x6 x7 x8 x9 x10 : Int) (w11 : World),
 J3 (x6, x7, x8, x9, x10, ()) w11 →
 (decide (x6 < (↑b_12n : Int)) = true →
 ∃ (ad12 : Addr),
 Gives Proofs.Try.prog (Instr.indexAt 26 (Value.slice b_12a b_12n b_12c) (Value.int IntKind.i64 x6)) (Value.pointer (some ad12)) ∧
 ∃ (x13 : Int),
 ∃ (a14 : Option Addr),
 ∃ (n15 : Nat),
 ∃ (n16 : Nat),
 ∃ (a17 : Option Addr),
 ∃ (n18 : Nat),
 ∃ (n19 : Nat),
 Reads Proofs.Try.prog [] (Instr.loadAt 56 (Value.pointer (some ad12))) w11 (Value.agg #[Value.int IntKind.i64 x13, Value.slice a14 n15 n16, Value.slice a17 n18 n19]) ∧
 ∀ (n20 : Nat),
 w11.heap.size ≤ n20 →
 (∀ (w21 : World),
 Evo [n20] w11 w21 →
 Under [n1, n2, n20] w21 →
 Calls Proofs.Try.prog 47 #[Value.slice a14 n15 n16] w21 fun (e22 : Ending) (w23 : World) =>
 ∃ (x24 : Int),
 ∃ (x25 : Int),
 ∃ (x26 : Int),
 ∃ (x27 : Int),
 e22 = Ending.returned (Value.agg #[Value.int IntKind.i64 x24, Value.int IntKind.i64 x25, Value.int IntKind.i64 x26, Value.int IntKind.i64 x27]) ∧
 Keeps [n1, n2, n20] w21 w23 ∧
 (Calls Proofs.Try.prog 77
 #[Value.agg #[Value.int IntKind.i64 x7, Value.int IntKind.i64 x8, Value.int IntKind.i64 x9, Value.int IntKind.i64 x10],
 Value.agg #[Value.int IntKind.i64 x24, Value.int IntKind.i64 x25, Value.int IntKind.i64 x26, Value.int IntKind.i64 x27]]
 w23 fun (e28 : Ending) (w29 : World) =>
 ∃ (x30 : Int),
 ∃ (x31 : Int),
 ∃ (x32 : Int),
 ∃ (x33 : Int),
 ∃ (b34 : Bool),
 e28 =
 Ending.returned
 (Value.tuple
 #[Value.agg #[Value.int IntKind.i64 x30, Value.int IntKind.i64 x31, Value.int IntKind.i64 x32, Value.int IntKind.i64 x33], Value.bool b34]) ∧
 Keeps [n1, n2, n20] w23 w29 ∧
 OpW Proofs.Try.prog (valueS (Instr.alloc 77 true (Value.tuple #[]))) w29 fun (v35 : Value) (w36 : World) =>
 ∃ (ad37 : Addr),
 v35 = Value.pointer (some ad37) ∧
 Keeps [n1, n2, n20] w29 w36 ∧
 OpW Proofs.Try.prog
 (skipS
 (Instr.storeAt 77 (Value.pointer (some ad37))
 (Value.agg #[Value.int IntKind.i64 x30, Value.int IntKind.i64 x31, Value.int IntKind.i64 x32, Value.int IntKind.i64 x33])))
 w36 fun (v38 : Value) (w39 : World) =>
 Keeps [n1, n2, n20] w36 w39 ∧
 ((!b34) = true → ∀ (w40 : World), Bel w39 w40 → Under [n1, n2, n20] w40 → R (Ending.returned (Value.bool false)) w40) ∧
 ((!b34) = false →
 ∃ (a41 : Option Addr),
 ∃ (n42 : Nat),
 ∃ (n43 : Nat),
 Gives Proofs.Try.prog (Instr.sliceAt 77 (Value.pointer (some ad37)) none none none) (Value.slice a41 n42 n43) ∧
 ∀ (w44 : World),
 Bel w39 w44 →
 Under [n1, n2, n20] w44 →
 Calls Proofs.Try.prog 78 #[Value.slice a41 n42 n43] w44 fun (e45 : Ending) (w46 : World) =>
 ∃ (x47 : Int),
 e45 = Ending.returned (Value.int IntKind.i64 x47) ∧
 Keeps [n1, n2, n20] w44 w46 ∧
 (decide (x47 > b_1) = true → R (Ending.returned (Value.bool false)) w46) ∧
 (decide (x47 > b_1) = false →
 ∃ (x48 : Int),
 ∃ (x49 : Int),
 ∃ (x50 : Int),
 ∃ (x51 : Int),
 Reads Proofs.Try.prog [] (Instr.loadAt 77 (Value.pointer (some ad37))) w46
 (Value.agg
 #[Value.int IntKind.i64 x48, Value.int IntKind.i64 x49, Value.int IntKind.i64 x50,
 Value.int IntKind.i64 x51]) ∧
 ∀ (w52 : World),
 Evo [n2] w46 w52 →
 Under [n1, n2, n20] w52 →
 J3 (IntKind.i64.wrap (x6 + 1), x48, x49, x50, x51, ()) w52 ∧
 J4 (IntKind.i64.wrap (x6 + 1), x48, x49, x50, x51, ()) w52 <
 J4 (x6, x7, x8, x9, x10, ()) w11))) ∧
 OpW Proofs.Try.prog (valueS (Instr.alloc 77 true (Value.tuple #[]))) w23 fun (v53 : Value) (w54 : World) =>
 ∃ (ad55 : Addr),
 v53 = Value.pointer (some ad55) ∧
 Keeps [n1, n2, n20] w23 w54 ∧
 Calls Proofs.Try.prog 77
 #[Value.agg #[Value.int IntKind.i64 x7, Value.int IntKind.i64 x8, Value.int IntKind.i64 x9, Value.int IntKind.i64 x10],
 Value.agg #[Value.int IntKind.i64 x24, Value.int IntKind.i64 x25, Value.int IntKind.i64 x26, Value.int IntKind.i64 x27]]
 w54 fun (e56 : Ending) (w57 : World) =>
 ∃ (x58 : Int),
 ∃ (x59 : Int),
 ∃ (x60 : Int),
 ∃ (x61 : Int),
 ∃ (b62 : Bool),
 e56 =
 Ending.returned
 (Value.tuple
 #[Value.agg #[Value.int IntKind.i64 x58, Value.int IntKind.i64 x59, Value.int IntKind.i64 x60, Value.int IntKind.i64 x61], Value.bool b62]) ∧
 Keeps [n1, n2, n20] w54 w57 ∧
 OpW Proofs.Try.prog
 (skipS
 (Instr.storeAt 77 (Value.pointer (some ad55))
 (Value.agg #[Value.int IntKind.i64 x58, Value.int IntKind.i64 x59, Value.int IntKind.i64 x60, Value.int IntKind.i64 x61])))
 w57 fun (v63 : Value) (w64 : World) =>
 Keeps [n1, n2, n20] w57 w64 ∧
 ((!b62) = true → ∀ (w65 : World), Bel w64 w65 → Under [n1, n2, n20] w65 → R (Ending.returned (Value.bool false)) w65) ∧
 ((!b62) = false →
 ∃ (a66 : Option Addr),
 ∃ (n67 : Nat),
 ∃ (n68 : Nat),
 Gives Proofs.Try.prog (Instr.sliceAt 77 (Value.pointer (some ad55)) none none none) (Value.slice a66 n67 n68) ∧
 ∀ (w69 : World),
 Bel w64 w69 →
 Under [n1, n2, n20] w69 →
 Calls Proofs.Try.prog 78 #[Value.slice a66 n67 n68] w69 fun (e70 : Ending) (w71 : World) =>
 ∃ (x72 : Int),
 e70 = Ending.returned (Value.int IntKind.i64 x72) ∧
 Keeps [n1, n2, n20] w69 w71 ∧
 (decide (x72 > b_1) = true → R (Ending.returned (Value.bool false)) w71) ∧
 (decide (x72 > b_1) = false →
 ∃ (x73 : Int),
 ∃ (x74 : Int),
 ∃ (x75 : Int),
 ∃ (x76 : Int),
 Reads Proofs.Try.prog [] (Instr.loadAt 77 (Value.pointer (some ad55))) w71
 (Value.agg
 #[Value.int IntKind.i64 x73, Value.int IntKind.i64 x74, Value.int IntKind.i64 x75,
 Value.int IntKind.i64 x76]) ∧
 ∀ (w77 : World),
 Evo [n2] w71 w77 →
 Under [n1, n2, n20] w77 →
 J3 (IntKind.i64.wrap (x6 + 1), x73, x74, x75, x76, ()) w77 ∧
 J4 (IntKind.i64.wrap (x6 + 1), x73, x74, x75, x76, ()) w77 <
 J4 (x6, x7, x8, x9, x10, ()) w11))) ∧
 ∀ (w78 : World),
 Evo [n20] w11 w78 →
 Under [n1, n2, n20] w78 →
 OpW Proofs.Try.prog (valueS (Instr.alloc 77 true (Value.tuple #[]))) w78 fun (v79 : Value) (w80 : World) =>
 ∃ (ad81 : Addr),
 v79 = Value.pointer (some ad81) ∧
 Keeps [n1, n2, n20] w78 w80 ∧
 Calls Proofs.Try.prog 47 #[Value.slice a14 n15 n16] w80 fun (e82 : Ending) (w83 : World) =>
 ∃ (x84 : Int),
 ∃ (x85 : Int),
 ∃ (x86 : Int),
 ∃ (x87 : Int),
 e82 = Ending.returned (Value.agg #[Value.int IntKind.i64 x84, Value.int IntKind.i64 x85, Value.int IntKind.i64 x86, Value.int IntKind.i64 x87]) ∧
 Keeps [n1, n2, n20] w80 w83 ∧
 Calls Proofs.Try.prog 77
 #[Value.agg #[Value.int IntKind.i64 x7, Value.int IntKind.i64 x8, Value.int IntKind.i64 x9, Value.int IntKind.i64 x10],
 Value.agg #[Value.int IntKind.i64 x84, Value.int IntKind.i64 x85, Value.int IntKind.i64 x86, Value.int IntKind.i64 x87]]
 w83 fun (e88 : Ending) (w89 : World) =>
 ∃ (x90 : Int),
 ∃ (x91 : Int),
 ∃ (x92 : Int),
 ∃ (x93 : Int),
 ∃ (b94 : Bool),
 e88 =
 Ending.returned
 (Value.tuple
 #[Value.agg #[Value.int IntKind.i64 x90, Value.int IntKind.i64 x91, Value.int IntKind.i64 x92, Value.int IntKind.i64 x93], Value.bool b94]) ∧
 Keeps [n1, n2, n20] w83 w89 ∧
 OpW Proofs.Try.prog
 (skipS
 (Instr.storeAt 77 (Value.pointer (some ad81))
 (Value.agg #[Value.int IntKind.i64 x90, Value.int IntKind.i64 x91, Value.int IntKind.i64 x92, Value.int IntKind.i64 x93])))
 w89 fun (v95 : Value) (w96 : World) =>
 Keeps [n1, n2, n20] w89 w96 ∧
 ((!b94) = true → ∀ (w97 : World), Bel w96 w97 → Under [n1, n2, n20] w97 → R (Ending.returned (Value.bool false)) w97) ∧
 ((!b94) = false →
 ∃ (a98 : Option Addr),
 ∃ (n99 : Nat),
 ∃ (n100 : Nat),
 Gives Proofs.Try.prog (Instr.sliceAt 77 (Value.pointer (some ad81)) none none none) (Value.slice a98 n99 n100) ∧
 ∀ (w101 : World),
 Bel w96 w101 →
 Under [n1, n2, n20] w101 →
 Calls Proofs.Try.prog 78 #[Value.slice a98 n99 n100] w101 fun (e102 : Ending) (w103 : World) =>
 ∃ (x104 : Int),
 e102 = Ending.returned (Value.int IntKind.i64 x104) ∧
 Keeps [n1, n2, n20] w101 w103 ∧
 (decide (x104 > b_1) = true → R (Ending.returned (Value.bool false)) w103) ∧
 (decide (x104 > b_1) = false →
 ∃ (x105 : Int),
 ∃ (x106 : Int),
 ∃ (x107 : Int),
 ∃ (x108 : Int),
 Reads Proofs.Try.prog [] (Instr.loadAt 77 (Value.pointer (some ad81))) w103
 (Value.agg
 #[Value.int IntKind.i64 x105, Value.int IntKind.i64 x106, Value.int IntKind.i64 x107,
 Value.int IntKind.i64 x108]) ∧
 ∀ (w109 : World),
 Evo [n2] w103 w109 →
 Under [n1, n2, n20] w109 →
 J3 (IntKind.i64.wrap (x6 + 1), x105, x106, x107, x108, ()) w109 ∧
 J4 (IntKind.i64.wrap (x6 + 1), x105, x106, x107, x108, ()) w109 <
 J4 (x6, x7, x8, x9, x10, ()) w11))) ∧
 (decide (x6 < (↑b_12n : Int)) = false → R (Ending.returned (Value.bool true)) w11)
theorem f53_eq (b_0 : Int) (b_1 : Int) (b_2 : Int) (b_3 : Int) (b_4 : Int) (b_5 : Int) (b_6 : Int) (b_7 : Int) (b_8 : Int) (b_9 : Int) (b_10 : Int) (b_11a : Option Addr) (b_11n : Nat) (b_11c : Nat) (b_12a : Option Addr) (b_12n : Nat) (b_12c : Nat) (b_13a : Option Addr) (b_13n : Nat) (b_13c : Nat) (b_14a : Option Addr) (b_14n : Nat) (b_14c : Nat) (b_15a : Option Addr) (b_15n : Nat) (b_15c : Nat) (w : World) (R : Ending → World → Prop) : (fnF Go.Proofs.Try.prog h53 Go.Proofs.Try.f53 [Value.agg
 #[Value.int IntKind.i64 b_0, Value.int IntKind.i64 b_1, Value.int IntKind.i64 b_2, Value.int IntKind.i64 b_3, Value.int IntKind.i64 b_4, Value.int IntKind.i64 b_5, Value.int IntKind.i64 b_6, Value.int IntKind.i64 b_7,
 Value.int IntKind.i64 b_8, Value.int IntKind.i64 b_9, Value.int IntKind.i64 b_10, Value.slice b_11a b_11n b_11c, Value.slice b_12a b_12n b_12c, Value.slice b_13a b_13n b_13c, Value.slice b_14a b_14n b_14c,
 Value.slice b_15a b_15n b_15c]] w R).den = f53_vc b_0 b_1 b_2 b_3 b_4 b_5 b_6 b_7 b_8 b_9 b_10 b_11a b_11n b_11c b_12a b_12n b_12c b_13a b_13n b_13c b_14a b_14n b_14c b_15a b_15n b_15c w R := by kernel_rfl
theorem f53_calls (b_0 : Int) (b_1 : Int) (b_2 : Int) (b_3 : Int) (b_4 : Int) (b_5 : Int) (b_6 : Int) (b_7 : Int) (b_8 : Int) (b_9 : Int) (b_10 : Int) (b_11a : Option Addr) (b_11n : Nat) (b_11c : Nat) (b_12a : Option Addr) (b_12n : Nat) (b_12c : Nat) (b_13a : Option Addr) (b_13n : Nat) (b_13c : Nat) (b_14a : Option Addr) (b_14n : Nat) (b_14c : Nat) (b_15a : Option Addr) (b_15n : Nat) (b_15c : Nat) (w : World) (R : Ending → World → Prop) (h : f53_vc b_0 b_1 b_2 b_3 b_4 b_5 b_6 b_7 b_8 b_9 b_10 b_11a b_11n b_11c b_12a b_12n b_12c b_13a b_13n b_13c b_14a b_14n b_14c b_15a b_15n b_15c w R) : Calls Go.Proofs.Try.prog 53 (List.toArray [Value.agg
 #[Value.int IntKind.i64 b_0, Value.int IntKind.i64 b_1, Value.int IntKind.i64 b_2, Value.int IntKind.i64 b_3, Value.int IntKind.i64 b_4, Value.int IntKind.i64 b_5, Value.int IntKind.i64 b_6, Value.int IntKind.i64 b_7,
 Value.int IntKind.i64 b_8, Value.int IntKind.i64 b_9, Value.int IntKind.i64 b_10, Value.slice b_11a b_11n b_11c, Value.slice b_12a b_12n b_12c, Value.slice b_13a b_13n b_13c, Value.slice b_14a b_14n b_14c,
 Value.slice b_15a b_15n b_15c]]) w R :=
 fn_sound (H := h53) (fn := Go.Proofs.Try.f53) (by kernel_rfl) (by kernel_rfl) (by kernel_rfl) ((f53_eq b_0 b_1 b_2 b_3 b_4 b_5 b_6 b_7 b_8 b_9 b_10 b_11a b_11n b_11c b_12a b_12n b_12c b_13a b_13n b_13c b_14a b_14n b_14c b_15a b_15n b_15c w R).mpr h)


/-! (manciple/book.look).tasks -/
def h55 : Hints := ⟨[1, 4, 5], [14, 43, 54], [12, 34, 63, 29, 37], [(7, [0, 1, 2, 3, 4, 5, 6, 7, 8, 9, 10, 11, 12, 14, 15, 16, 17, 18, 19, 20, 21, 22, 23, 13, 24, 25, 26, 27, 28])], [], [(2, ⟨[(11, .int .i64)], []⟩)], [], [], []⟩
def f55_vc (b_0 : Int) (b_1 : Int) (b_2 : Int) (b_3 : Int) (b_4 : Int) (b_5 : Int) (b_6 : Int) (b_7 : Int) (b_8 : Int) (b_9 : Int) (b_10 : Int) (b_11a : Option Addr) (b_11n : Nat) (b_11c : Nat) (b_12a : Option Addr) (b_12n : Nat) (b_12c : Nat) (b_13a : Option Addr) (b_13n : Nat) (b_13c : Nat) (b_14a : Option Addr) (b_14n : Nat) (b_14c : Nat) (b_15a : Option Addr) (b_15n : Nat) (b_15c : Nat) (w : World) (R : Ending → World → Prop) : Prop :=
 ∀ (n1 : Nat),
 w.heap.size ≤ n1 →
 ∃ (J2 : Int × Unit → World → Prop),
 ∃ (J3 : Int × Unit → World → Nat),
 (∀ (w4 : World), Bel w w4 → Under [n1] w4 → J2 (0, ()) w4) ∧
 ∀ (x5 : Int) (w6 : World),
 J2 (x5, ()) w6 →
 (decide (x5 < (↑b_14n : Int)) = true →
 ∃ (ad7 : Addr),
 Gives Proofs.Try.prog (Instr.indexAt 28 (Value.slice b_14a b_14n b_14c) (Value.int IntKind.i64 x5)) (Value.pointer (some ad7)) ∧
 ∃ (x8 : Int),
 ∃ (x9 : Int),
 ∃ (x10 : Int),
 ∃ (a11 : Option Addr),
 ∃ (n12 : Nat),
 ∃ (n13 : Nat),
 Reads Proofs.Try.prog [] (Instr.loadAt 60 (Value.pointer (some ad7))) w6 (Value.agg #[Value.int IntKind.i64 x8, Value.int IntKind.i64 x9, Value.int IntKind.i64 x10, Value.slice a11 n12 n13]) ∧
 ∀ (n14 : Nat),
 w6.heap.size ≤ n14 →
 ∀ (w15 : World),
 Evo [n14] w6 w15 →
 Under [n1, n14] w15 →
 Calls Proofs.Try.prog 79
 #[Value.agg
 #[Value.int IntKind.i64 b_0, Value.int IntKind.i64 b_1, Value.int IntKind.i64 b_2, Value.int IntKind.i64 b_3, Value.int IntKind.i64 b_4, Value.int IntKind.i64 b_5,
 Value.int IntKind.i64 b_6, Value.int IntKind.i64 b_7, Value.int IntKind.i64 b_8, Value.int IntKind.i64 b_9, Value.int IntKind.i64 b_10, Value.slice b_11a b_11n b_11c,
 Value.slice b_12a b_12n b_12c, Value.slice b_13a b_13n b_13c, Value.slice b_14a b_14n b_14c, Value.slice b_15a b_15n b_15c],
 Value.int IntKind.i64 x8, Value.int IntKind.i64 x10, Value.slice a11 n12 n13]
 w15 fun (e16 : Ending) (w17 : World) =>
 ∃ (x18 : Int),
 ∃ (x19 : Int),
 ∃ (x20 : Int),
 ∃ (b21 : Bool),
 ∃ (b22 : Bool),
 ∃ (x23 : Int),
 ∃ (x24 : Int),
 ∃ (b25 : Bool),
 e16 =
 Ending.returned
 (Value.tuple
 #[Value.agg
 #[Value.int IntKind.i64 x18, Value.int IntKind.i64 x19, Value.int IntKind.i64 x20, Value.bool b21, Value.bool b22, Value.int IntKind.i64 x23,
 Value.int IntKind.i64 x24],
 Value.bool b25]) ∧
 Keeps [n1, n14] w15 w17 ∧
 ∀ (n26 : Nat),
 w17.heap.size ≤ n26 →
 ((!b25) = true → ∀ (w27 : World), Evo [n26] w17 w27 → Under [n1, n14, n26] w27 → R (Ending.returned (Value.bool false)) w27) ∧
 ((!b25) = false →
 ∀ (w28 : World),
 Evo [n26] w17 w28 →
 Under [n1, n14, n26] w28 →
 Calls Proofs.Try.prog 76 #[Value.int IntKind.i64 x9] w28 fun (e29 : Ending) (w30 : World) =>
 ∃ (b31 : Bool),
 e29 = Ending.returned (Value.bool b31) ∧
 Keeps [n1, n14, n26] w28 w30 ∧
 ((!b31) = true → R (Ending.returned (Value.bool false)) w30) ∧
 ((!b31) = false →
 (decide (x5 > 0) = true →
 ∃ (ad32 : Addr),
 Gives Proofs.Try.prog (Instr.indexAt 28 (Value.slice b_14a b_14n b_14c) (Value.int IntKind.i64 (IntKind.i64.wrap (x5 - 1))))
 (Value.pointer (some ad32)) ∧
 ∃ (x33 : Int),
 Reads Proofs.Try.prog [] (Instr.loadAt 2 (Value.pointer (some ad32))) w30 (Value.int IntKind.i64 x33) ∧
 ∃ (ad34 : Addr),
 Gives Proofs.Try.prog (Instr.indexAt 28 (Value.slice b_14a b_14n b_14c) (Value.int IntKind.i64 (IntKind.i64.wrap (x5 - 1))))
 (Value.pointer (some ad34)) ∧
 ∃ (x35 : Int),
 Reads Proofs.Try.prog [] (Instr.loadAt 2 (Value.pointer (some (Addr.mk ad34.block (ad34.off + 1) none)))) w30
 (Value.int IntKind.i64 x35) ∧
 ∀ (w36 : World),
 Bel w30 w36 →
 Under [n1, n14, n26] w36 →
 Calls Proofs.Try.prog 81 #[Value.int IntKind.i64 x33, Value.int IntKind.i64 x8] w36 fun (e37 : Ending) (w38 : World) =>
 ∃ (x39 : Int),
 e37 = Ending.returned (Value.int IntKind.i64 x39) ∧
 Keeps [n1, n14, n26] w36 w38 ∧
 Reads Proofs.Try.prog [] (Instr.loadAt 2 (Value.pointer (some (Addr.mk ad34.block (ad34.off + 1) none)))) w38
 (Value.int IntKind.i64 x35) ∧
 Calls Proofs.Try.prog 81 #[Value.int IntKind.i64 x35, Value.int IntKind.i64 x9] w38
 fun (e40 : Ending) (w41 : World) =>
 ∃ (x42 : Int),
 e40 = Ending.returned (Value.int IntKind.i64 x42) ∧
 Keeps [n1, n14, n26] w38 w41 ∧
 OpW Proofs.Try.prog
 (valueS (Instr.buildSlice 68 2 #[(0, Value.int IntKind.i64 x39), (1, Value.int IntKind.i64 x42)]))
 w41 fun (v43 : Value) (w44 : World) =>
 ∃ (a45 : Option Addr),
 ∃ (n46 : Nat),
 ∃ (n47 : Nat),
 v43 = Value.slice a45 n46 n47 ∧
 Keeps [n1, n14, n26] w41 w44 ∧
 Calls Proofs.Try.prog 80 #[Value.slice a45 n46 n47] w44
 fun (e48 : Ending) (w49 : World) =>
 ∃ (x50 : Int),
 e48 = Ending.returned (Value.int IntKind.i64 x50) ∧
 Keeps [n1, n14, n26] w44 w49 ∧
 (decide (x50 ≥ 0) = true → R (Ending.returned (Value.bool false)) w49) ∧
 (decide (x50 ≥ 0) = false →
 J2 (IntKind.i64.wrap (x5 + 1), ()) w49 ∧
 J3 (IntKind.i64.wrap (x5 + 1), ()) w49 < J3 (x5, ()) w6)) ∧
 (decide (x5 > 0) = false →
 ∀ (w51 : World),
 Bel w30 w51 →
 Under [n1, n14, n26] w51 → J2 (IntKind.i64.wrap (x5 + 1), ()) w51 ∧ J3 (IntKind.i64.wrap (x5 + 1), ()) w51 < J3 (x5, ()) w6)))) ∧
 (decide (x5 < (↑b_14n : Int)) = false → R (Ending.returned (Value.bool (decide ((↑b_14n : Int) ≤ b_4)))) w6)
theorem f55_eq (b_0 : Int) (b_1 : Int) (b_2 : Int) (b_3 : Int) (b_4 : Int) (b_5 : Int) (b_6 : Int) (b_7 : Int) (b_8 : Int) (b_9 : Int) (b_10 : Int) (b_11a : Option Addr) (b_11n : Nat) (b_11c : Nat) (b_12a : Option Addr) (b_12n : Nat) (b_12c : Nat) (b_13a : Option Addr) (b_13n : Nat) (b_13c : Nat) (b_14a : Option Addr) (b_14n : Nat) (b_14c : Nat) (b_15a : Option Addr) (b_15n : Nat) (b_15c : Nat) (w : World) (R : Ending → World → Prop) : (fnF Go.Proofs.Try.prog h55 Go.Proofs.Try.f55 [Value.agg
 #[Value.int IntKind.i64 b_0, Value.int IntKind.i64 b_1, Value.int IntKind.i64 b_2, Value.int IntKind.i64 b_3, Value.int IntKind.i64 b_4, Value.int IntKind.i64 b_5, Value.int IntKind.i64 b_6, Value.int IntKind.i64 b_7,
 Value.int IntKind.i64 b_8, Value.int IntKind.i64 b_9, Value.int IntKind.i64 b_10, Value.slice b_11a b_11n b_11c, Value.slice b_12a b_12n b_12c, Value.slice b_13a b_13n b_13c, Value.slice b_14a b_14n b_14c,
 Value.slice b_15a b_15n b_15c]] w R).den = f55_vc b_0 b_1 b_2 b_3 b_4 b_5 b_6 b_7 b_8 b_9 b_10 b_11a b_11n b_11c b_12a b_12n b_12c b_13a b_13n b_13c b_14a b_14n b_14c b_15a b_15n b_15c w R := by kernel_rfl
theorem f55_calls (b_0 : Int) (b_1 : Int) (b_2 : Int) (b_3 : Int) (b_4 : Int) (b_5 : Int) (b_6 : Int) (b_7 : Int) (b_8 : Int) (b_9 : Int) (b_10 : Int) (b_11a : Option Addr) (b_11n : Nat) (b_11c : Nat) (b_12a : Option Addr) (b_12n : Nat) (b_12c : Nat) (b_13a : Option Addr) (b_13n : Nat) (b_13c : Nat) (b_14a : Option Addr) (b_14n : Nat) (b_14c : Nat) (b_15a : Option Addr) (b_15n : Nat) (b_15c : Nat) (w : World) (R : Ending → World → Prop) (h : f55_vc b_0 b_1 b_2 b_3 b_4 b_5 b_6 b_7 b_8 b_9 b_10 b_11a b_11n b_11c b_12a b_12n b_12c b_13a b_13n b_13c b_14a b_14n b_14c b_15a b_15n b_15c w R) : Calls Go.Proofs.Try.prog 55 (List.toArray [Value.agg
 #[Value.int IntKind.i64 b_0, Value.int IntKind.i64 b_1, Value.int IntKind.i64 b_2, Value.int IntKind.i64 b_3, Value.int IntKind.i64 b_4, Value.int IntKind.i64 b_5, Value.int IntKind.i64 b_6, Value.int IntKind.i64 b_7,
 Value.int IntKind.i64 b_8, Value.int IntKind.i64 b_9, Value.int IntKind.i64 b_10, Value.slice b_11a b_11n b_11c, Value.slice b_12a b_12n b_12c, Value.slice b_13a b_13n b_13c, Value.slice b_14a b_14n b_14c,
 Value.slice b_15a b_15n b_15c]]) w R :=
 fn_sound (H := h55) (fn := Go.Proofs.Try.f55) (by kernel_rfl) (by kernel_rfl) (by kernel_rfl) ((f55_eq b_0 b_1 b_2 b_3 b_4 b_5 b_6 b_7 b_8 b_9 b_10 b_11a b_11n b_11c b_12a b_12n b_12c b_13a b_13n b_13c b_14a b_14n b_14c b_15a b_15n b_15c w R).mpr h)


/-! (manciple/book.look).filters -/
def h56 : Hints := ⟨[1, 4], [12, 61], [10, 52, 66, 20, 28, 34, 40, 48, 55], [(6, [0, 1, 2, 3, 4, 5, 6, 7, 8, 9, 10, 11, 12, 13])], [], [(2, ⟨[(9, .int .i64)], []⟩)], [], [], []⟩
def f56_vc (b_0 : Int) (b_1 : Int) (b_2 : Int) (b_3 : Int) (b_4 : Int) (b_5 : Int) (b_6 : Int) (b_7 : Int) (b_8 : Int) (b_9 : Int) (b_10 : Int) (b_11a : Option Addr) (b_11n : Nat) (b_11c : Nat) (b_12a : Option Addr) (b_12n : Nat) (b_12c : Nat) (b_13a : Option Addr) (b_13n : Nat) (b_13c : Nat) (b_14a : Option Addr) (b_14n : Nat) (b_14c : Nat) (b_15a : Option Addr) (b_15n : Nat) (b_15c : Nat) (w : World) (R : Ending → World → Prop) : Prop :=
 ∀ (n1 : Nat),
 w.heap.size ≤ n1 →
 ∃ (J2 : Int × Unit → World → Prop),
 ∃ (J3 : Int × Unit → World → Nat),
 (∀ (w4 : World), Bel w w4 → Under [n1] w4 → J2 (0, ()) w4) ∧
 ∀ (x5 : Int) (w6 : World),
 J2 (x5, ()) w6 →
 (decide (x5 < (↑b_15n : Int)) = true →
 ∃ (ad7 : Addr),
 Gives Proofs.Try.prog (Instr.indexAt 29 (Value.slice b_15a b_15n b_15c) (Value.int IntKind.i64 x5)) (Value.pointer (some ad7)) ∧
 ∃ (x8 : Int),
 ∃ (x9 : Int),
 ∃ (x10 : Int),
 ∃ (a11 : Option Addr),
 ∃ (n12 : Nat),
 ∃ (n13 : Nat),
 Reads Proofs.Try.prog [] (Instr.loadAt 62 (Value.pointer (some ad7))) w6 (Value.agg #[Value.int IntKind.i64 x8, Value.int IntKind.i64 x9, Value.int IntKind.i64 x10, Value.slice a11 n12 n13]) ∧
 ∀ (n14 : Nat),
 w6.heap.size ≤ n14 →
 ∀ (w15 : World),
 Evo [n14] w6 w15 →
 Under [n1, n14] w15 →
 Calls Proofs.Try.prog 26
 #[Value.agg
 #[Value.int IntKind.i64 b_0, Value.int IntKind.i64 b_1, Value.int IntKind.i64 b_2, Value.int IntKind.i64 b_3, Value.int IntKind.i64 b_4, Value.int IntKind.i64 b_5,
 Value.int IntKind.i64 b_6, Value.int IntKind.i64 b_7, Value.int IntKind.i64 b_8, Value.int IntKind.i64 b_9, Value.int IntKind.i64 b_10, Value.slice b_11a b_11n b_11c,
 Value.slice b_12a b_12n b_12c, Value.slice b_13a b_13n b_13c, Value.slice b_14a b_14n b_14c, Value.slice b_15a b_15n b_15c],
 Value.int IntKind.i64 x8]
 w15 fun (e16 : Ending) (w17 : World) =>
 ∃ (x18 : Int),
 e16 = Ending.returned (Value.int IntKind.i64 x18) ∧
 Keeps [n1, n14] w15 w17 ∧
 (decide (x18 < 0) = true → R (Ending.returned (Value.bool false)) w17) ∧
 (decide (x18 < 0) = false →
 Calls Proofs.Try.prog 27
 #[Value.agg
 #[Value.int IntKind.i64 b_0, Value.int IntKind.i64 b_1, Value.int IntKind.i64 b_2, Value.int IntKind.i64 b_3, Value.int IntKind.i64 b_4, Value.int IntKind.i64 b_5,
 Value.int IntKind.i64 b_6, Value.int IntKind.i64 b_7, Value.int IntKind.i64 b_8, Value.int IntKind.i64 b_9, Value.int IntKind.i64 b_10, Value.slice b_11a b_11n b_11c,
 Value.slice b_12a b_12n b_12c, Value.slice b_13a b_13n b_13c, Value.slice b_14a b_14n b_14c, Value.slice b_15a b_15n b_15c],
 Value.int IntKind.i64 x9]
 w17 fun (e19 : Ending) (w20 : World) =>
 ∃ (x21 : Int),
 e19 = Ending.returned (Value.int IntKind.i64 x21) ∧
 Keeps [n1, n14] w17 w20 ∧
 (decide (x21 < 0) = true → R (Ending.returned (Value.bool false)) w20) ∧
 (decide (x21 < 0) = false →
 (((↑n12 : Int) == 0) = true → R (Ending.returned (Value.bool false)) w20) ∧
 (((↑n12 : Int) == 0) = false →
 Calls Proofs.Try.prog 63 #[Value.slice a11 n12 n13] w20 fun (e22 : Ending) (w23 : World) =>
 ∃ (b24 : Bool),
 e22 = Ending.returned (Value.bool b24) ∧
 Keeps [n1, n14] w20 w23 ∧
 ((!b24) = true → R (Ending.returned (Value.bool false)) w23) ∧
 ((!b24) = false →
 (decide (x10 ≤ b_9) = true → R (Ending.returned (Value.bool false)) w23) ∧
 (decide (x10 ≤ b_9) = false →
 (decide (x10 > 18014398509481984) = true → R (Ending.returned (Value.bool false)) w23) ∧
 (decide (x10 > 18014398509481984) = false →
 (decide (x5 > 0) = true →
 ∃ (ad25 : Addr),
 Gives Proofs.Try.prog (Instr.indexAt 29 (Value.slice b_15a b_15n b_15c) (Value.int IntKind.i64 (IntKind.i64.wrap (x5 - 1))))
 (Value.pointer (some ad25)) ∧
 ∃ (x26 : Int),
 ∃ (x27 : Int),
 ∃ (x28 : Int),
 ∃ (a29 : Option Addr),
 ∃ (n30 : Nat),
 ∃ (n31 : Nat),
 Reads Proofs.Try.prog [] (Instr.loadAt 62 (Value.pointer (some ad25))) w23
 (Value.agg #[Value.int IntKind.i64 x26, Value.int IntKind.i64 x27, Value.int IntKind.i64 x28, Value.slice a29 n30 n31]) ∧
 ∀ (w32 : World),
 Bel w23 w32 →
 Under [n1, n14] w32 →
 Calls Proofs.Try.prog 82
 #[Value.agg
 #[Value.int IntKind.i64 x26, Value.int IntKind.i64 x27, Value.int IntKind.i64 x28, Value.slice a29 n30 n31],
 Value.agg
 #[Value.int IntKind.i64 x8, Value.int IntKind.i64 x9, Value.int IntKind.i64 x10, Value.slice a11 n12 n13]]
 w32 fun (e33 : Ending) (w34 : World) =>
 ∃ (x35 : Int),
 e33 = Ending.returned (Value.int IntKind.i64 x35) ∧
 Keeps [n1, n14] w32 w34 ∧
 (decide (x35 ≥ 0) = true → R (Ending.returned (Value.bool false)) w34) ∧
 (decide (x35 ≥ 0) = false →
 J2 (IntKind.i64.wrap (x5 + 1), ()) w34 ∧ J3 (IntKind.i64.wrap (x5 + 1), ()) w34 < J3 (x5, ()) w6)) ∧
 (decide (x5 > 0) = false →
 ∀ (w36 : World),
 Bel w23 w36 →
 Under [n1, n14] w36 → J2 (IntKind.i64.wrap (x5 + 1), ()) w36 ∧ J3 (IntKind.i64.wrap (x5 + 1), ()) w36 < J3 (x5, ()) w6)))))))) ∧
 (decide (x5 < (↑b_15n : Int)) = false → R (Ending.returned (Value.bool (decide ((↑b_15n : Int) ≤ b_4)))) w6)
theorem f56_eq (b_0 : Int) (b_1 : Int) (b_2 : Int) (b_3 : Int) (b_4 : Int) (b_5 : Int) (b_6 : Int) (b_7 : Int) (b_8 : Int) (b_9 : Int) (b_10 : Int) (b_11a : Option Addr) (b_11n : Nat) (b_11c : Nat) (b_12a : Option Addr) (b_12n : Nat) (b_12c : Nat) (b_13a : Option Addr) (b_13n : Nat) (b_13c : Nat) (b_14a : Option Addr) (b_14n : Nat) (b_14c : Nat) (b_15a : Option Addr) (b_15n : Nat) (b_15c : Nat) (w : World) (R : Ending → World → Prop) : (fnF Go.Proofs.Try.prog h56 Go.Proofs.Try.f56 [Value.agg
 #[Value.int IntKind.i64 b_0, Value.int IntKind.i64 b_1, Value.int IntKind.i64 b_2, Value.int IntKind.i64 b_3, Value.int IntKind.i64 b_4, Value.int IntKind.i64 b_5, Value.int IntKind.i64 b_6, Value.int IntKind.i64 b_7,
 Value.int IntKind.i64 b_8, Value.int IntKind.i64 b_9, Value.int IntKind.i64 b_10, Value.slice b_11a b_11n b_11c, Value.slice b_12a b_12n b_12c, Value.slice b_13a b_13n b_13c, Value.slice b_14a b_14n b_14c,
 Value.slice b_15a b_15n b_15c]] w R).den = f56_vc b_0 b_1 b_2 b_3 b_4 b_5 b_6 b_7 b_8 b_9 b_10 b_11a b_11n b_11c b_12a b_12n b_12c b_13a b_13n b_13c b_14a b_14n b_14c b_15a b_15n b_15c w R := by kernel_rfl
theorem f56_calls (b_0 : Int) (b_1 : Int) (b_2 : Int) (b_3 : Int) (b_4 : Int) (b_5 : Int) (b_6 : Int) (b_7 : Int) (b_8 : Int) (b_9 : Int) (b_10 : Int) (b_11a : Option Addr) (b_11n : Nat) (b_11c : Nat) (b_12a : Option Addr) (b_12n : Nat) (b_12c : Nat) (b_13a : Option Addr) (b_13n : Nat) (b_13c : Nat) (b_14a : Option Addr) (b_14n : Nat) (b_14c : Nat) (b_15a : Option Addr) (b_15n : Nat) (b_15c : Nat) (w : World) (R : Ending → World → Prop) (h : f56_vc b_0 b_1 b_2 b_3 b_4 b_5 b_6 b_7 b_8 b_9 b_10 b_11a b_11n b_11c b_12a b_12n b_12c b_13a b_13n b_13c b_14a b_14n b_14c b_15a b_15n b_15c w R) : Calls Go.Proofs.Try.prog 56 (List.toArray [Value.agg
 #[Value.int IntKind.i64 b_0, Value.int IntKind.i64 b_1, Value.int IntKind.i64 b_2, Value.int IntKind.i64 b_3, Value.int IntKind.i64 b_4, Value.int IntKind.i64 b_5, Value.int IntKind.i64 b_6, Value.int IntKind.i64 b_7,
 Value.int IntKind.i64 b_8, Value.int IntKind.i64 b_9, Value.int IntKind.i64 b_10, Value.slice b_11a b_11n b_11c, Value.slice b_12a b_12n b_12c, Value.slice b_13a b_13n b_13c, Value.slice b_14a b_14n b_14c,
 Value.slice b_15a b_15n b_15c]]) w R :=
 fn_sound (H := h56) (fn := Go.Proofs.Try.f56) (by kernel_rfl) (by kernel_rfl) (by kernel_rfl) ((f56_eq b_0 b_1 b_2 b_3 b_4 b_5 b_6 b_7 b_8 b_9 b_10 b_11a b_11n b_11c b_12a b_12n b_12c b_13a b_13n b_13c b_14a b_14n b_14c b_15a b_15n b_15c w R).mpr h)


/-! (manciple/book.look).ledger -/
def h57 : Hints := ⟨[1, 7, 9, 11], [20, 27, 35, 42, 50, 57], [19, 34, 49, 60], [], [], [(5, ⟨[(18, .int .i64)], []⟩), (10, ⟨[(33, .int .i64)], []⟩), (15, ⟨[(48, .int .i64)], []⟩)], [], [], []⟩
def f57_vc (b_0 : Int) (b_1 : Int) (b_2 : Int) (b_3 : Int) (b_4 : Int) (b_5 : Int) (b_6 : Int) (b_7 : Int) (b_8 : Int) (b_9 : Int) (b_10 : Int) (b_11a : Option Addr) (b_11n : Nat) (b_11c : Nat) (b_12a : Option Addr) (b_12n : Nat) (b_12c : Nat) (b_13a : Option Addr) (b_13n : Nat) (b_13c : Nat) (b_14a : Option Addr) (b_14n : Nat) (b_14c : Nat) (b_15a : Option Addr) (b_15n : Nat) (b_15c : Nat) (w : World) (R : Ending → World → Prop) : Prop :=
 ∀ (n1 : Nat),
 w.heap.size ≤ n1 →
 ∀ (w2 : World),
 Bel w w2 →
 Under [n1] w2 →
 OpW Proofs.Try.prog (valueS (Instr.makeMap 109 none)) w2 fun (v3 : Value) (w4 : World) =>
 ∃ (r5 : Option Nat),
 v3 = Value.map r5 ∧
 Keeps [n1] w2 w4 ∧
 OpW Proofs.Try.prog (valueS (Instr.alloc 109 true (Value.tuple #[]))) w4 fun (v6 : Value) (w7 : World) =>
 ∃ (ad8 : Addr),
 v6 = Value.pointer (some ad8) ∧
 Keeps [n1] w4 w7 ∧
 OpW Proofs.Try.prog (skipS (Instr.storeAt 109 (Value.pointer (some ad8)) (Value.map r5))) w7 fun (v9 : Value) (w10 : World) =>
 Keeps [n1] w7 w10 ∧
 OpW Proofs.Try.prog (valueS (Instr.alloc 4 true (Value.tuple #[]))) w10 fun (v11 : Value) (w12 : World) =>
 ∃ (ad13 : Addr),
 v11 = Value.pointer (some ad13) ∧
 Keeps [n1] w10 w12 ∧
 OpW Proofs.Try.prog (skipS (Instr.storeAt 4 (Value.pointer (some ad13)) (Value.bool true))) w12 fun (v14 : Value) (w15 : World) =>
 Keeps [n1] w12 w15 ∧
 ∃ (J16 : Int × Unit → World → Prop),
 ∃ (J17 : Int × Unit → World → Nat),
 J16 (0, ()) w15 ∧
 ∀ (x18 : Int) (w19 : World),
 J16 (x18, ()) w19 →
 (decide (x18 < (↑b_12n : Int)) = true →
 ∃ (ad20 : Addr),
 Gives Proofs.Try.prog (Instr.indexAt 26 (Value.slice b_12a b_12n b_12c) (Value.int IntKind.i64 x18)) (Value.pointer (some ad20)) ∧
 ∃ (x21 : Int),
 ∃ (a22 : Option Addr),
 ∃ (n23 : Nat),
 ∃ (n24 : Nat),
 ∃ (a25 : Option Addr),
 ∃ (n26 : Nat),
 ∃ (n27 : Nat),
 Reads Proofs.Try.prog [] (Instr.loadAt 56 (Value.pointer (some ad20))) w19
 (Value.agg #[Value.int IntKind.i64 x21, Value.slice a22 n23 n24, Value.slice a25 n26 n27]) ∧
 ∀ (n28 : Nat),
 w19.heap.size ≤ n28 →
 ∀ (w29 : World),
 Evo [n28] w19 w29 →
 Under [n1, n28] w29 →
 OpW Proofs.Try.prog
 (invokeS (Value.func (Fn.func 83) #[] #[Value.pointer (some ad8), Value.pointer (some ad13)]) #[Value.int IntKind.i64 x21, Value.slice a25 n26 n27]) w29
 fun (v30 : Value) (w31 : World) =>
 v30 = Value.tuple #[] ∧
 Keeps [n1, n28] w29 w31 ∧ J16 (IntKind.i64.wrap (x18 + 1), ()) w31 ∧ J17 (IntKind.i64.wrap (x18 + 1), ()) w31 < J17 (x18, ()) w19) ∧
 (decide (x18 < (↑b_12n : Int)) = false →
 ∃ (J32 : Int × Unit → World → Prop),
 ∃ (J33 : Int × Unit → World → Nat),
 J32 (0, ()) w19 ∧
 ∀ (x34 : Int) (w35 : World),
 J32 (x34, ()) w35 →
 (decide (x34 < (↑b_13n : Int)) = true →
 ∃ (ad36 : Addr),
 Gives Proofs.Try.prog (Instr.indexAt 27 (Value.slice b_13a b_13n b_13c) (Value.int IntKind.i64 x34)) (Value.pointer (some ad36)) ∧
 ∃ (x37 : Int),
 ∃ (x38 : Int),
 ∃ (x39 : Int),
 ∃ (a40 : Option Addr),
 ∃ (n41 : Nat),
 ∃ (n42 : Nat),
 ∃ (x43 : Int),
 Reads Proofs.Try.prog [] (Instr.loadAt 58 (Value.pointer (some ad36))) w35
 (Value.agg #[Value.int IntKind.i64 x37, Value.int IntKind.i64 x38, Value.int IntKind.i64 x39, Value.slice a40 n41 n42, Value.int IntKind.i64 x43]) ∧
 ∀ (n44 : Nat),
 w35.heap.size ≤ n44 →
 ∀ (w45 : World),
 Evo [n44] w35 w45 →
 Under [n1, n44] w45 →
 OpW Proofs.Try.prog
 (invokeS (Value.func (Fn.func 83) #[] #[Value.pointer (some ad8), Value.pointer (some ad13)])
 #[Value.int IntKind.i64 x39, Value.slice a40 n41 n42])
 w45 fun (v46 : Value) (w47 : World) =>
 v46 = Value.tuple #[] ∧
 Keeps [n1, n44] w45 w47 ∧ J32 (IntKind.i64.wrap (x34 + 1), ()) w47 ∧ J33 (IntKind.i64.wrap (x34 + 1), ()) w47 < J33 (x34, ()) w35) ∧
 (decide (x34 < (↑b_13n : Int)) = false →
 ∃ (J48 : Int × Unit → World → Prop),
 ∃ (J49 : Int × Unit → World → Nat),
 J48 (0, ()) w35 ∧
 ∀ (x50 : Int) (w51 : World),
 J48 (x50, ()) w51 →
 (decide (x50 < (↑b_14n : Int)) = true →
 ∃ (ad52 : Addr),
 Gives Proofs.Try.prog (Instr.indexAt 28 (Value.slice b_14a b_14n b_14c) (Value.int IntKind.i64 x50)) (Value.pointer (some ad52)) ∧
 ∃ (x53 : Int),
 ∃ (x54 : Int),
 ∃ (x55 : Int),
 ∃ (a56 : Option Addr),
 ∃ (n57 : Nat),
 ∃ (n58 : Nat),
 Reads Proofs.Try.prog [] (Instr.loadAt 60 (Value.pointer (some ad52))) w51
 (Value.agg #[Value.int IntKind.i64 x53, Value.int IntKind.i64 x54, Value.int IntKind.i64 x55, Value.slice a56 n57 n58]) ∧
 ∀ (n59 : Nat),
 w51.heap.size ≤ n59 →
 ∀ (w60 : World),
 Evo [n59] w51 w60 →
 Under [n1, n59] w60 →
 OpW Proofs.Try.prog
 (invokeS (Value.func (Fn.func 83) #[] #[Value.pointer (some ad8), Value.pointer (some ad13)])
 #[Value.int IntKind.i64 x55, Value.slice a56 n57 n58])
 w60 fun (v61 : Value) (w62 : World) =>
 v61 = Value.tuple #[] ∧
 Keeps [n1, n59] w60 w62 ∧
 J48 (IntKind.i64.wrap (x50 + 1), ()) w62 ∧ J49 (IntKind.i64.wrap (x50 + 1), ()) w62 < J49 (x50, ()) w51) ∧
 (decide (x50 < (↑b_14n : Int)) = false →
 ∃ (b63 : Bool),
 Reads Proofs.Try.prog [] (Instr.loadAt 4 (Value.pointer (some ad13))) w51 (Value.bool b63) ∧
 (b63 = true →
 Calls Proofs.Try.prog 85 #[Value.slice b_12a b_12n b_12c, Value.func (Fn.func 86) #[] #[Value.pointer (some ad8)]] w51
 fun (e64 : Ending) (w65 : World) =>
 ∃ (b66 : Bool), e64 = Ending.returned (Value.bool b66) ∧ Keeps [n1] w51 w65 ∧ R (Ending.returned (Value.bool !b66)) w65) ∧
 (b63 = false → R (Ending.returned (Value.bool false)) w51))))
theorem f57_eq (b_0 : Int) (b_1 : Int) (b_2 : Int) (b_3 : Int) (b_4 : Int) (b_5 : Int) (b_6 : Int) (b_7 : Int) (b_8 : Int) (b_9 : Int) (b_10 : Int) (b_11a : Option Addr) (b_11n : Nat) (b_11c : Nat) (b_12a : Option Addr) (b_12n : Nat) (b_12c : Nat) (b_13a : Option Addr) (b_13n : Nat) (b_13c : Nat) (b_14a : Option Addr) (b_14n : Nat) (b_14c : Nat) (b_15a : Option Addr) (b_15n : Nat) (b_15c : Nat) (w : World) (R : Ending → World → Prop) : (fnF Go.Proofs.Try.prog h57 Go.Proofs.Try.f57 [Value.agg
 #[Value.int IntKind.i64 b_0, Value.int IntKind.i64 b_1, Value.int IntKind.i64 b_2, Value.int IntKind.i64 b_3, Value.int IntKind.i64 b_4, Value.int IntKind.i64 b_5, Value.int IntKind.i64 b_6, Value.int IntKind.i64 b_7,
 Value.int IntKind.i64 b_8, Value.int IntKind.i64 b_9, Value.int IntKind.i64 b_10, Value.slice b_11a b_11n b_11c, Value.slice b_12a b_12n b_12c, Value.slice b_13a b_13n b_13c, Value.slice b_14a b_14n b_14c,
 Value.slice b_15a b_15n b_15c]] w R).den = f57_vc b_0 b_1 b_2 b_3 b_4 b_5 b_6 b_7 b_8 b_9 b_10 b_11a b_11n b_11c b_12a b_12n b_12c b_13a b_13n b_13c b_14a b_14n b_14c b_15a b_15n b_15c w R := by kernel_rfl
theorem f57_calls (b_0 : Int) (b_1 : Int) (b_2 : Int) (b_3 : Int) (b_4 : Int) (b_5 : Int) (b_6 : Int) (b_7 : Int) (b_8 : Int) (b_9 : Int) (b_10 : Int) (b_11a : Option Addr) (b_11n : Nat) (b_11c : Nat) (b_12a : Option Addr) (b_12n : Nat) (b_12c : Nat) (b_13a : Option Addr) (b_13n : Nat) (b_13c : Nat) (b_14a : Option Addr) (b_14n : Nat) (b_14c : Nat) (b_15a : Option Addr) (b_15n : Nat) (b_15c : Nat) (w : World) (R : Ending → World → Prop) (h : f57_vc b_0 b_1 b_2 b_3 b_4 b_5 b_6 b_7 b_8 b_9 b_10 b_11a b_11n b_11c b_12a b_12n b_12c b_13a b_13n b_13c b_14a b_14n b_14c b_15a b_15n b_15c w R) : Calls Go.Proofs.Try.prog 57 (List.toArray [Value.agg
 #[Value.int IntKind.i64 b_0, Value.int IntKind.i64 b_1, Value.int IntKind.i64 b_2, Value.int IntKind.i64 b_3, Value.int IntKind.i64 b_4, Value.int IntKind.i64 b_5, Value.int IntKind.i64 b_6, Value.int IntKind.i64 b_7,
 Value.int IntKind.i64 b_8, Value.int IntKind.i64 b_9, Value.int IntKind.i64 b_10, Value.slice b_11a b_11n b_11c, Value.slice b_12a b_12n b_12c, Value.slice b_13a b_13n b_13c, Value.slice b_14a b_14n b_14c,
 Value.slice b_15a b_15n b_15c]]) w R :=
 fn_sound (H := h57) (fn := Go.Proofs.Try.f57) (by kernel_rfl) (by kernel_rfl) (by kernel_rfl) ((f57_eq b_0 b_1 b_2 b_3 b_4 b_5 b_6 b_7 b_8 b_9 b_10 b_11a b_11n b_11c b_12a b_12n b_12c b_13a b_13n b_13c b_14a b_14n b_14c b_15a b_15n b_15c w R).mpr h)


/-! manciple/conf.Check -/
def h75 : Hints := ⟨[1], [9], [8, 12, 41, 18, 24, 30, 36], [], [], [(2, ⟨[(7, .int .i64)], []⟩)], [], [], []⟩
def f75_vc (c_0 : Int) (c_1 : Int) (c_2 : Int) (c_3 : Int) (c_4 : Int) (c_5 : Int) (c_6 : Int) (c_7 : Int) (c_8 : Int) (w : World) (R : Ending → World → Prop) : Prop :=
 ∀ (n1 : Nat),
 w.heap.size ≤ n1 →
 ∃ (J2 : Int × Unit → World → Prop),
 ∃ (J3 : Int × Unit → World → Nat),
 (∀ (w4 : World), Bel w w4 → Under [n1] w4 → J2 (0, ()) w4) ∧
 ∀ (x5 : Int) (w6 : World),
 J2 (x5, ()) w6 →
 (decide (x5 < 4) = true →
 ∃ (x7 : Int),
 Gives Proofs.Try.prog (Instr.index 22 (Value.agg #[Value.int IntKind.i64 c_5, Value.int IntKind.i64 c_6, Value.int IntKind.i64 c_7, Value.int IntKind.i64 c_8]) (Value.int IntKind.i64 x5)) (Value.int IntKind.i64 x7) ∧
 Calls Proofs.Try.prog 95 #[Value.int IntKind.i64 x7, Value.int IntKind.i64 0, Value.int IntKind.i64 9007199254740992] w6 fun (e8 : Ending) (w9 : World) =>
 ∃ (b10 : Bool),
 e8 = Ending.returned (Value.bool b10) ∧
 Keeps [n1] w6 w9 ∧ ((!b10) = true → R (Ending.returned (Value.int IntKind.i64 41)) w9) ∧ ((!b10) = false → J2 (IntKind.i64.wrap (x5 + 1), ()) w9 ∧ J3 (IntKind.i64.wrap (x5 + 1), ()) w9 < J3 (x5, ()) w6)) ∧
 (decide (x5 < 4) = false →
 Calls Proofs.Try.prog 95 #[Value.int IntKind.i64 c_0, Value.int IntKind.i64 0, Value.int IntKind.i64 9007199254740992] w6 fun (e11 : Ending) (w12 : World) =>
 ∃ (b13 : Bool),
 e11 = Ending.returned (Value.bool b13) ∧
 Keeps [n1] w6 w12 ∧
 ((!b13) = true → R (Ending.returned (Value.int IntKind.i64 41)) w12) ∧
 ((!b13) = false →
 Calls Proofs.Try.prog 95 #[Value.int IntKind.i64 c_1, Value.int IntKind.i64 1, Value.int IntKind.i64 9007199254740992] w12 fun (e14 : Ending) (w15 : World) =>
 ∃ (b16 : Bool),
 e14 = Ending.returned (Value.bool b16) ∧
 Keeps [n1] w12 w15 ∧
 ((!b16) = true → R (Ending.returned (Value.int IntKind.i64 41)) w15) ∧
 ((!b16) = false →
 Calls Proofs.Try.prog 95 #[Value.int IntKind.i64 c_2, Value.int IntKind.i64 0, Value.int IntKind.i64 9007199254740992] w15 fun (e17 : Ending) (w18 : World) =>
 ∃ (b19 : Bool),
 e17 = Ending.returned (Value.bool b19) ∧
 Keeps [n1] w15 w18 ∧
 ((!b19) = true → R (Ending.returned (Value.int IntKind.i64 41)) w18) ∧
 ((!b19) = false →
 Calls Proofs.Try.prog 95 #[Value.int IntKind.i64 c_3, Value.int IntKind.i64 0, Value.int IntKind.i64 9007199254740992] w18 fun (e20 : Ending) (w21 : World) =>
 ∃ (b22 : Bool),
 e20 = Ending.returned (Value.bool b22) ∧
 Keeps [n1] w18 w21 ∧
 ((!b22) = true → R (Ending.returned (Value.int IntKind.i64 41)) w21) ∧
 ((!b22) = false →
 Calls Proofs.Try.prog 95 #[Value.int IntKind.i64 c_4, Value.int IntKind.i64 1, Value.int IntKind.i64 4096] w21 fun (e23 : Ending) (w24 : World) =>
 ∃ (b25 : Bool),
 e23 = Ending.returned (Value.bool b25) ∧
 Keeps [n1] w21 w24 ∧ ((!b25) = true → R (Ending.returned (Value.int IntKind.i64 41)) w24) ∧ ((!b25) = false → R (Ending.returned (Value.int IntKind.i64 0)) w24))))))
theorem f75_eq (c_0 : Int) (c_1 : Int) (c_2 : Int) (c_3 : Int) (c_4 : Int) (c_5 : Int) (c_6 : Int) (c_7 : Int) (c_8 : Int) (w : World) (R : Ending → World → Prop) : (fnF Go.Proofs.Try.prog h75 Go.Proofs.Try.f75 [Value.agg
 #[Value.int IntKind.i64 c_0, Value.int IntKind.i64 c_1, Value.int IntKind.i64 c_2, Value.int IntKind.i64 c_3, Value.int IntKind.i64 c_4, Value.int IntKind.i64 c_5, Value.int IntKind.i64 c_6, Value.int IntKind.i64 c_7,
 Value.int IntKind.i64 c_8]] w R).den = f75_vc c_0 c_1 c_2 c_3 c_4 c_5 c_6 c_7 c_8 w R := by kernel_rfl
theorem f75_calls (c_0 : Int) (c_1 : Int) (c_2 : Int) (c_3 : Int) (c_4 : Int) (c_5 : Int) (c_6 : Int) (c_7 : Int) (c_8 : Int) (w : World) (R : Ending → World → Prop) (h : f75_vc c_0 c_1 c_2 c_3 c_4 c_5 c_6 c_7 c_8 w R) : Calls Go.Proofs.Try.prog 75 (List.toArray [Value.agg
 #[Value.int IntKind.i64 c_0, Value.int IntKind.i64 c_1, Value.int IntKind.i64 c_2, Value.int IntKind.i64 c_3, Value.int IntKind.i64 c_4, Value.int IntKind.i64 c_5, Value.int IntKind.i64 c_6, Value.int IntKind.i64 c_7,
 Value.int IntKind.i64 c_8]]) w R :=
 fn_sound (H := h75) (fn := Go.Proofs.Try.f75) (by kernel_rfl) (by kernel_rfl) (by kernel_rfl) ((f75_eq c_0 c_1 c_2 c_3 c_4 c_5 c_6 c_7 c_8 w R).mpr h)


/-! manciple/book.number -/
def h76 : Hints := ⟨[], [], [5], [], [], [], [], [], []⟩
def f76_vc (n : Int) (w : World) (R : Ending → World → Prop) : Prop :=
 (decide (n ≥ 1) = true → R (Ending.returned (Value.bool (decide (n ≤ 9007199254740992)))) w) ∧ (decide (n ≥ 1) = false → R (Ending.returned (Value.bool false)) w)
theorem f76_eq (n : Int) (w : World) (R : Ending → World → Prop) : (fnF Go.Proofs.Try.prog h76 Go.Proofs.Try.f76 [Value.int IntKind.i64 n] w R).den = f76_vc n w R := by kernel_rfl
theorem f76_calls (n : Int) (w : World) (R : Ending → World → Prop) (h : f76_vc n w R) : Calls Go.Proofs.Try.prog 76 (List.toArray [Value.int IntKind.i64 n]) w R :=
 fn_sound (H := h76) (fn := Go.Proofs.Try.f76) (by kernel_rfl) (by kernel_rfl) (by kernel_rfl) ((f76_eq n w R).mpr h)


/-! (manciple/sums.Sums).Add -/
def h77 : Hints := ⟨[2, 3, 4], [20, 23, 26], [14, 30, 10], [(6, [0, 1, 2, 3, 4, 5, 6, 7, 8])], [(4, 5)], [], [], [], []⟩
def f77_vc (a_0 : Int) (a_1 : Int) (a_2 : Int) (a_3 : Int) (b_0 : Int) (b_1 : Int) (b_2 : Int) (b_3 : Int) (w : World) (R : Ending → World → Prop) : Prop :=
 ∀ (n1 : Nat),
 w.heap.size ≤ n1 →
 ∀ (n2 : Nat),
 w.heap.size ≤ n2 →
 ∀ (n3 : Nat),
 w.heap.size ≤ n3 →
 ∀ (w4 : World),
 Bel w w4 →
 Under [n1, n2, n3] w4 →
 Calls Proofs.Try.prog 74 #[Value.agg #[Value.int IntKind.i64 a_0, Value.int IntKind.i64 a_1, Value.int IntKind.i64 a_2, Value.int IntKind.i64 a_3]] w4 fun (e5 : Ending) (w6 : World) =>
 ∃ (b7 : Bool),
 e5 = Ending.returned (Value.bool b7) ∧
 Keeps [n1, n2, n3] w4 w6 ∧
 ((!b7) = true →
 ∀ (w8 : World),
 Evo [n3] w6 w8 →
 Under [n1, n2, n3] w8 → R (Ending.returned (Value.tuple #[Value.agg #[Value.int IntKind.i64 0, Value.int IntKind.i64 0, Value.int IntKind.i64 0, Value.int IntKind.i64 0], Value.bool false])) w8) ∧
 ((!b7) = false →
 Calls Proofs.Try.prog 74 #[Value.agg #[Value.int IntKind.i64 b_0, Value.int IntKind.i64 b_1, Value.int IntKind.i64 b_2, Value.int IntKind.i64 b_3]] w6 fun (e9 : Ending) (w10 : World) =>
 ∃ (b11 : Bool),
 e9 = Ending.returned (Value.bool b11) ∧
 Keeps [n1, n2, n3] w6 w10 ∧
 ((!b11) = true →
 ∀ (w12 : World),
 Evo [n3] w10 w12 →
 Under [n1, n2, n3] w12 →
 R (Ending.returned (Value.tuple #[Value.agg #[Value.int IntKind.i64 0, Value.int IntKind.i64 0, Value.int IntKind.i64 0, Value.int IntKind.i64 0], Value.bool false])) w12) ∧
 ((!b11) = false →
 ∀ (w13 : World),
 Evo [n1, n1, n1, n1] w10 w13 →
 Under [n1, n2, n3] w13 →
 Calls Proofs.Try.prog 74
 #[Value.agg
 #[Value.int IntKind.i64 (IntKind.i64.wrap (a_0 + b_0)), Value.int IntKind.i64 (IntKind.i64.wrap (a_1 + b_1)), Value.int IntKind.i64 (IntKind.i64.wrap (a_2 + b_2)),
 Value.int IntKind.i64 (IntKind.i64.wrap (a_3 + b_3))]]
 w13 fun (e14 : Ending) (w15 : World) =>
 ∃ (b16 : Bool),
 e14 = Ending.returned (Value.bool b16) ∧
 Keeps [n1, n2, n3] w13 w15 ∧
 ((!b16) = true →
 ∀ (w17 : World),
 Evo [n3] w15 w17 →
 Under [n1, n2, n3] w17 →
 R (Ending.returned (Value.tuple #[Value.agg #[Value.int IntKind.i64 0, Value.int IntKind.i64 0, Value.int IntKind.i64 0, Value.int IntKind.i64 0], Value.bool false])) w17) ∧
 ((!b16) = false →
 ∀ (w18 : World),
 Evo [n3] w15 w18 →
 Under [n1, n2, n3] w18 →
 R
 (Ending.returned
 (Value.tuple
 #[Value.agg
 #[Value.int IntKind.i64 (IntKind.i64.wrap (a_0 + b_0)), Value.int IntKind.i64 (IntKind.i64.wrap (a_1 + b_1)), Value.int IntKind.i64 (IntKind.i64.wrap (a_2 + b_2)),
 Value.int IntKind.i64 (IntKind.i64.wrap (a_3 + b_3))],
 Value.bool true]))
 w18)))
theorem f77_eq (a_0 : Int) (a_1 : Int) (a_2 : Int) (a_3 : Int) (b_0 : Int) (b_1 : Int) (b_2 : Int) (b_3 : Int) (w : World) (R : Ending → World → Prop) : (fnF Go.Proofs.Try.prog h77 Go.Proofs.Try.f77 [Value.agg #[Value.int IntKind.i64 a_0, Value.int IntKind.i64 a_1, Value.int IntKind.i64 a_2, Value.int IntKind.i64 a_3],
 Value.agg #[Value.int IntKind.i64 b_0, Value.int IntKind.i64 b_1, Value.int IntKind.i64 b_2, Value.int IntKind.i64 b_3]] w R).den = f77_vc a_0 a_1 a_2 a_3 b_0 b_1 b_2 b_3 w R := by kernel_rfl
theorem f77_calls (a_0 : Int) (a_1 : Int) (a_2 : Int) (a_3 : Int) (b_0 : Int) (b_1 : Int) (b_2 : Int) (b_3 : Int) (w : World) (R : Ending → World → Prop) (h : f77_vc a_0 a_1 a_2 a_3 b_0 b_1 b_2 b_3 w R) : Calls Go.Proofs.Try.prog 77 (List.toArray [Value.agg #[Value.int IntKind.i64 a_0, Value.int IntKind.i64 a_1, Value.int IntKind.i64 a_2, Value.int IntKind.i64 a_3],
 Value.agg #[Value.int IntKind.i64 b_0, Value.int IntKind.i64 b_1, Value.int IntKind.i64 b_2, Value.int IntKind.i64 b_3]]) w R :=
 fn_sound (H := h77) (fn := Go.Proofs.Try.f77) (by kernel_rfl) (by kernel_rfl) (by kernel_rfl) ((f77_eq a_0 a_1 a_2 a_3 b_0 b_1 b_2 b_3 w R).mpr h)


/-! slices.Max[[]int64,int64] -/
def h78 : Hints := ⟨[], [10, 21], [7, 15], [], [], [(5, ⟨[(3, .int .i64), (4, .int .i64)], []⟩)], [], [], []⟩
def f78_vc (xa : Option Addr) (xn : Nat) (xc : Nat) (w : World) (R : Ending → World → Prop) : Prop :=
 (decide ((↑xn : Int) < 1) = true →
 OpW Proofs.Try.prog (Sem.halt (Halt.panic (Value.iface 9 (Value.string (ByteArray.mk #[115, 108, 105, 99, 101, 115, 46, 77, 97, 120, 58, 32, 101, 109, 112, 116, 121, 32, 108, 105, 115, 116]))))) w fun (v1 : Value) (w2 : World) =>
 v1 = Value.tuple #[] ∧
 ∃ (ad3 : Addr),
 Gives Proofs.Try.prog (Instr.indexAt 43 (Value.slice xa xn xc) (Value.int IntKind.i64 0)) (Value.pointer (some ad3)) ∧
 ∃ (x4 : Int),
 Reads Proofs.Try.prog [] (Instr.loadAt 2 (Value.pointer (some ad3))) w2 (Value.int IntKind.i64 x4) ∧
 ∃ (J5 : Int × Int × Unit → World → Prop),
 ∃ (J6 : Int × Int × Unit → World → Nat),
 J5 (x4, 1, ()) w2 ∧
 ∀ (x7 x8 : Int) (w9 : World),
 J5 (x7, x8, ()) w9 →
 (decide (x8 < (↑xn : Int)) = true →
 ∃ (ad10 : Addr),
 Gives Proofs.Try.prog (Instr.indexAt 43 (Value.slice xa xn xc) (Value.int IntKind.i64 x8)) (Value.pointer (some ad10)) ∧
 ∃ (x11 : Int),
 Reads Proofs.Try.prog [] (Instr.loadAt 2 (Value.pointer (some ad10))) w9 (Value.int IntKind.i64 x11) ∧
 J5 (if x11 > x7 then x11 else x7, IntKind.i64.wrap (x8 + 1), ()) w9 ∧ J6 (if x11 > x7 then x11 else x7, IntKind.i64.wrap (x8 + 1), ()) w9 < J6 (x7, x8, ()) w9) ∧
 (decide (x8 < (↑xn : Int)) = false → R (Ending.returned (Value.int IntKind.i64 x7)) w9)) ∧
 (decide ((↑xn : Int) < 1) = false →
 ∃ (ad12 : Addr),
 Gives Proofs.Try.prog (Instr.indexAt 43 (Value.slice xa xn xc) (Value.int IntKind.i64 0)) (Value.pointer (some ad12)) ∧
 ∃ (x13 : Int),
 Reads Proofs.Try.prog [] (Instr.loadAt 2 (Value.pointer (some ad12))) w (Value.int IntKind.i64 x13) ∧
 ∃ (J14 : Int × Int × Unit → World → Prop),
 ∃ (J15 : Int × Int × Unit → World → Nat),
 J14 (x13, 1, ()) w ∧
 ∀ (x16 x17 : Int) (w18 : World),
 J14 (x16, x17, ()) w18 →
 (decide (x17 < (↑xn : Int)) = true →
 ∃ (ad19 : Addr),
 Gives Proofs.Try.prog (Instr.indexAt 43 (Value.slice xa xn xc) (Value.int IntKind.i64 x17)) (Value.pointer (some ad19)) ∧
 ∃ (x20 : Int),
 Reads Proofs.Try.prog [] (Instr.loadAt 2 (Value.pointer (some ad19))) w18 (Value.int IntKind.i64 x20) ∧
 J14 (if x20 > x16 then x20 else x16, IntKind.i64.wrap (x17 + 1), ()) w18 ∧ J15 (if x20 > x16 then x20 else x16, IntKind.i64.wrap (x17 + 1), ()) w18 < J15 (x16, x17, ()) w18) ∧
 (decide (x17 < (↑xn : Int)) = false → R (Ending.returned (Value.int IntKind.i64 x16)) w18))
theorem f78_eq (xa : Option Addr) (xn : Nat) (xc : Nat) (w : World) (R : Ending → World → Prop) : (fnF Go.Proofs.Try.prog h78 Go.Proofs.Try.f78 [Value.slice xa xn xc] w R).den = f78_vc xa xn xc w R := by kernel_rfl
theorem f78_calls (xa : Option Addr) (xn : Nat) (xc : Nat) (w : World) (R : Ending → World → Prop) (h : f78_vc xa xn xc w R) : Calls Go.Proofs.Try.prog 78 (List.toArray [Value.slice xa xn xc]) w R :=
 fn_sound (H := h78) (fn := Go.Proofs.Try.f78) (by kernel_rfl) (by kernel_rfl) (by kernel_rfl) ((f78_eq xa xn xc w R).mpr h)


/-! (manciple/book.look).held -/
def h79 : Hints := ⟨[4, 8, 11], [40], [34, 18, 25, 30], [(5, [0, 1, 2, 3, 7, 8, 4, 5, 6, 9, 10, 11])], [], [], [], [], []⟩
def f79_vc (b_0 : Int) (b_1 : Int) (b_2 : Int) (b_3 : Int) (b_4 : Int) (b_5 : Int) (b_6 : Int) (b_7 : Int) (b_8 : Int) (b_9 : Int) (b_10 : Int) (b_11a : Option Addr) (b_11n : Nat) (b_11c : Nat) (b_12a : Option Addr) (b_12n : Nat) (b_12c : Nat) (b_13a : Option Addr) (b_13n : Nat) (b_13c : Nat) (b_14a : Option Addr) (b_14n : Nat) (b_14c : Nat) (b_15a : Option Addr) (b_15n : Nat) (b_15c : Nat) (frame : Int) (agent : Int) (va : Option Addr) (vn : Nat) (vc : Nat) (w : World) (R : Ending → World → Prop) : Prop :=
 ∀ (n1 : Nat),
 w.heap.size ≤ n1 →
 ∀ (n2 : Nat),
 w.heap.size ≤ n2 →
 ∀ (w3 : World),
 Bel w w3 →
 Under [n1, n2] w3 →
 Calls Proofs.Try.prog 26
 #[Value.agg
 #[Value.int IntKind.i64 b_0, Value.int IntKind.i64 b_1, Value.int IntKind.i64 b_2, Value.int IntKind.i64 b_3, Value.int IntKind.i64 b_4, Value.int IntKind.i64 b_5, Value.int IntKind.i64 b_6, Value.int IntKind.i64 b_7,
 Value.int IntKind.i64 b_8, Value.int IntKind.i64 b_9, Value.int IntKind.i64 b_10, Value.slice b_11a b_11n b_11c, Value.slice b_12a b_12n b_12c, Value.slice b_13a b_13n b_13c, Value.slice b_14a b_14n b_14c,
 Value.slice b_15a b_15n b_15c],
 Value.int IntKind.i64 frame]
 w3 fun (e4 : Ending) (w5 : World) =>
 ∃ (x6 : Int),
 e4 = Ending.returned (Value.int IntKind.i64 x6) ∧
 Keeps [n1, n2] w3 w5 ∧
 (decide (x6 < 0) = true →
 ∀ (w7 : World),
 Evo [n2] w5 w7 →
 Under [n1, n2] w7 →
 R
 (Ending.returned
 (Value.tuple
 #[Value.agg #[Value.int IntKind.i64 0, Value.int IntKind.i64 0, Value.int IntKind.i64 0, Value.bool false, Value.bool false, Value.int IntKind.i64 0, Value.int IntKind.i64 0], Value.bool false]))
 w7) ∧
 (decide (x6 < 0) = false →
 Calls Proofs.Try.prog 27
 #[Value.agg
 #[Value.int IntKind.i64 b_0, Value.int IntKind.i64 b_1, Value.int IntKind.i64 b_2, Value.int IntKind.i64 b_3, Value.int IntKind.i64 b_4, Value.int IntKind.i64 b_5, Value.int IntKind.i64 b_6,
 Value.int IntKind.i64 b_7, Value.int IntKind.i64 b_8, Value.int IntKind.i64 b_9, Value.int IntKind.i64 b_10, Value.slice b_11a b_11n b_11c, Value.slice b_12a b_12n b_12c, Value.slice b_13a b_13n b_13c,
 Value.slice b_14a b_14n b_14c, Value.slice b_15a b_15n b_15c],
 Value.int IntKind.i64 agent]
 w5 fun (e8 : Ending) (w9 : World) =>
 ∃ (x10 : Int),
 e8 = Ending.returned (Value.int IntKind.i64 x10) ∧
 Keeps [n1, n2] w5 w9 ∧
 (decide (x10 < 0) = true →
 ∀ (w11 : World),
 Evo [n2] w9 w11 →
 Under [n1, n2] w11 →
 R
 (Ending.returned
 (Value.tuple
 #[Value.agg #[Value.int IntKind.i64 0, Value.int IntKind.i64 0, Value.int IntKind.i64 0, Value.bool false, Value.bool false, Value.int IntKind.i64 0, Value.int IntKind.i64 0],
 Value.bool false]))
 w11) ∧
 (decide (x10 < 0) = false →
 (((↑vn : Int) == 0) = true →
 ∀ (w12 : World),
 Evo [n2] w9 w12 →
 Under [n1, n2] w12 →
 R
 (Ending.returned
 (Value.tuple
 #[Value.agg #[Value.int IntKind.i64 0, Value.int IntKind.i64 0, Value.int IntKind.i64 0, Value.bool false, Value.bool false, Value.int IntKind.i64 0, Value.int IntKind.i64 0],
 Value.bool false]))
 w12) ∧
 (((↑vn : Int) == 0) = false →
 Calls Proofs.Try.prog 63 #[Value.slice va vn vc] w9 fun (e13 : Ending) (w14 : World) =>
 ∃ (b15 : Bool),
 e13 = Ending.returned (Value.bool b15) ∧
 Keeps [n1, n2] w9 w14 ∧
 ((!b15) = true →
 ∀ (w16 : World),
 Evo [n2] w14 w16 →
 Under [n1, n2] w16 →
 R
 (Ending.returned
 (Value.tuple
 #[Value.agg
 #[Value.int IntKind.i64 0, Value.int IntKind.i64 0, Value.int IntKind.i64 0, Value.bool false, Value.bool false, Value.int IntKind.i64 0, Value.int IntKind.i64 0],
 Value.bool false]))
 w16) ∧
 ((!b15) = false →
 ∃ (ad17 : Addr),
 Gives Proofs.Try.prog (Instr.indexAt 25 (Value.slice b_11a b_11n b_11c) (Value.int IntKind.i64 x6)) (Value.pointer (some ad17)) ∧
 ∃ (x18 : Int),
 ∃ (x19 : Int),
 ∃ (x20 : Int),
 ∃ (b21 : Bool),
 ∃ (b22 : Bool),
 ∃ (x23 : Int),
 ∃ (x24 : Int),
 Reads Proofs.Try.prog [] (Instr.loadAt 48 (Value.pointer (some ad17))) w14
 (Value.agg
 #[Value.int IntKind.i64 x18, Value.int IntKind.i64 x19, Value.int IntKind.i64 x20, Value.bool b21, Value.bool b22, Value.int IntKind.i64 x23,
 Value.int IntKind.i64 x24]) ∧
 ∀ (n25 : Nat),
 w14.heap.size ≤ n25 →
 ∀ (w26 : World),
 Evo [n25] w14 w26 →
 Under [n1, n2, n25] w26 →
 OpW Proofs.Try.prog (valueS (Instr.buildSlice 68 2 #[(0, Value.int IntKind.i64 0), (1, Value.int IntKind.i64 x19)])) w26 fun (v27 : Value) (w28 : World) =>
 ∃ (a29 : Option Addr),
 ∃ (n30 : Nat),
 ∃ (n31 : Nat),
 v27 = Value.slice a29 n30 n31 ∧
 Keeps [n1, n2, n25] w26 w28 ∧
 Calls Proofs.Try.prog 40 #[Value.slice va vn vc, Value.slice a29 n30 n31] w28 fun (e32 : Ending) (w33 : World) =>
 ∃ (a34 : Option Addr),
 ∃ (n35 : Nat),
 ∃ (n36 : Nat),
 e32 = Ending.returned (Value.slice a34 n35 n36) ∧
 Keeps [n1, n2, n25] w28 w33 ∧
 ∀ (w37 : World),
 Evo [n2] w33 w37 →
 Under [n1, n2, n25] w37 →
 R
 (Ending.returned
 (Value.tuple
 #[Value.agg
 #[Value.int IntKind.i64 x18, Value.int IntKind.i64 x19, Value.int IntKind.i64 x20, Value.bool b21, Value.bool b22,
 Value.int IntKind.i64 x23, Value.int IntKind.i64 x24],
 Value.bool ((↑n35 : Int) == (↑vn : Int))]))
 w37))))
theorem f79_eq (b_0 : Int) (b_1 : Int) (b_2 : Int) (b_3 : Int) (b_4 : Int) (b_5 : Int) (b_6 : Int) (b_7 : Int) (b_8 : Int) (b_9 : Int) (b_10 : Int) (b_11a : Option Addr) (b_11n : Nat) (b_11c : Nat) (b_12a : Option Addr) (b_12n : Nat) (b_12c : Nat) (b_13a : Option Addr) (b_13n : Nat) (b_13c : Nat) (b_14a : Option Addr) (b_14n : Nat) (b_14c : Nat) (b_15a : Option Addr) (b_15n : Nat) (b_15c : Nat) (frame : Int) (agent : Int) (va : Option Addr) (vn : Nat) (vc : Nat) (w : World) (R : Ending → World → Prop) : (fnF Go.Proofs.Try.prog h79 Go.Proofs.Try.f79 [Value.agg
 #[Value.int IntKind.i64 b_0, Value.int IntKind.i64 b_1, Value.int IntKind.i64 b_2, Value.int IntKind.i64 b_3, Value.int IntKind.i64 b_4, Value.int IntKind.i64 b_5, Value.int IntKind.i64 b_6, Value.int IntKind.i64 b_7,
 Value.int IntKind.i64 b_8, Value.int IntKind.i64 b_9, Value.int IntKind.i64 b_10, Value.slice b_11a b_11n b_11c, Value.slice b_12a b_12n b_12c, Value.slice b_13a b_13n b_13c, Value.slice b_14a b_14n b_14c,
 Value.slice b_15a b_15n b_15c],
 Value.int IntKind.i64 frame, Value.int IntKind.i64 agent, Value.slice va vn vc] w R).den = f79_vc b_0 b_1 b_2 b_3 b_4 b_5 b_6 b_7 b_8 b_9 b_10 b_11a b_11n b_11c b_12a b_12n b_12c b_13a b_13n b_13c b_14a b_14n b_14c b_15a b_15n b_15c frame agent va vn vc w R := by kernel_rfl
theorem f79_calls (b_0 : Int) (b_1 : Int) (b_2 : Int) (b_3 : Int) (b_4 : Int) (b_5 : Int) (b_6 : Int) (b_7 : Int) (b_8 : Int) (b_9 : Int) (b_10 : Int) (b_11a : Option Addr) (b_11n : Nat) (b_11c : Nat) (b_12a : Option Addr) (b_12n : Nat) (b_12c : Nat) (b_13a : Option Addr) (b_13n : Nat) (b_13c : Nat) (b_14a : Option Addr) (b_14n : Nat) (b_14c : Nat) (b_15a : Option Addr) (b_15n : Nat) (b_15c : Nat) (frame : Int) (agent : Int) (va : Option Addr) (vn : Nat) (vc : Nat) (w : World) (R : Ending → World → Prop) (h : f79_vc b_0 b_1 b_2 b_3 b_4 b_5 b_6 b_7 b_8 b_9 b_10 b_11a b_11n b_11c b_12a b_12n b_12c b_13a b_13n b_13c b_14a b_14n b_14c b_15a b_15n b_15c frame agent va vn vc w R) : Calls Go.Proofs.Try.prog 79 (List.toArray [Value.agg
 #[Value.int IntKind.i64 b_0, Value.int IntKind.i64 b_1, Value.int IntKind.i64 b_2, Value.int IntKind.i64 b_3, Value.int IntKind.i64 b_4, Value.int IntKind.i64 b_5, Value.int IntKind.i64 b_6, Value.int IntKind.i64 b_7,
 Value.int IntKind.i64 b_8, Value.int IntKind.i64 b_9, Value.int IntKind.i64 b_10, Value.slice b_11a b_11n b_11c, Value.slice b_12a b_12n b_12c, Value.slice b_13a b_13n b_13c, Value.slice b_14a b_14n b_14c,
 Value.slice b_15a b_15n b_15c],
 Value.int IntKind.i64 frame, Value.int IntKind.i64 agent, Value.slice va vn vc]) w R :=
 fn_sound (H := h79) (fn := Go.Proofs.Try.f79) (by kernel_rfl) (by kernel_rfl) (by kernel_rfl) ((f79_eq b_0 b_1 b_2 b_3 b_4 b_5 b_6 b_7 b_8 b_9 b_10 b_11a b_11n b_11c b_12a b_12n b_12c b_13a b_13n b_13c b_14a b_14n b_14c b_15a b_15n b_15c frame agent va vn vc w R).mpr h)


/-! cmp.Or[int] -/
def h80 : Hints := ⟨[], [10], [9, 14], [], [], [(3, ⟨[(8, .int .i64)], []⟩)], [], [], []⟩
def f80_vc (valsa : Option Addr) (valsn : Nat) (valsc : Nat) (w : World) (R : Ending → World → Prop) : Prop :=
 ∃ (J1 : Int × Unit → World → Prop),
 ∃ (J2 : Int × Unit → World → Nat),
 J1 (0, ()) w ∧
 ∀ (x3 : Int) (w4 : World),
 J1 (x3, ()) w4 →
 (decide (x3 < (↑valsn : Int)) = true →
 ∃ (ad5 : Addr),
 Gives Proofs.Try.prog (Instr.indexAt 68 (Value.slice valsa valsn valsc) (Value.int IntKind.i64 x3)) (Value.pointer (some ad5)) ∧
 ∃ (x6 : Int),
 Reads Proofs.Try.prog [] (Instr.loadAt 3 (Value.pointer (some ad5))) w4 (Value.int IntKind.i64 x6) ∧
 ((x6 != 0) = true → R (Ending.returned (Value.int IntKind.i64 x6)) w4) ∧ ((x6 != 0) = false → J1 (IntKind.i64.wrap (x3 + 1), ()) w4 ∧ J2 (IntKind.i64.wrap (x3 + 1), ()) w4 < J2 (x3, ()) w4)) ∧
 (decide (x3 < (↑valsn : Int)) = false → R (Ending.returned (Value.int IntKind.i64 0)) w4)
theorem f80_eq (valsa : Option Addr) (valsn : Nat) (valsc : Nat) (w : World) (R : Ending → World → Prop) : (fnF Go.Proofs.Try.prog h80 Go.Proofs.Try.f80 [Value.slice valsa valsn valsc] w R).den = f80_vc valsa valsn valsc w R := by kernel_rfl
theorem f80_calls (valsa : Option Addr) (valsn : Nat) (valsc : Nat) (w : World) (R : Ending → World → Prop) (h : f80_vc valsa valsn valsc w R) : Calls Go.Proofs.Try.prog 80 (List.toArray [Value.slice valsa valsn valsc]) w R :=
 fn_sound (H := h80) (fn := Go.Proofs.Try.f80) (by kernel_rfl) (by kernel_rfl) (by kernel_rfl) ((f80_eq valsa valsn valsc w R).mpr h)


/-! cmp.Compare[int64] -/
def h81 : Hints := ⟨[], [], [11, 12, 13, 16, 19], [], [], [], [], [], []⟩
def f81_vc (x : Int) (y : Int) (w : World) (R : Ending → World → Prop) : Prop :=
 Calls Proofs.Try.prog 96 #[Value.int IntKind.i64 x] w fun (e1 : Ending) (w2 : World) =>
 ∃ (b3 : Bool),
 e1 = Ending.returned (Value.bool b3) ∧
 Calls Proofs.Try.prog 96 #[Value.int IntKind.i64 y] w2 fun (e4 : Ending) (w5 : World) =>
 ∃ (b6 : Bool),
 e4 = Ending.returned (Value.bool b6) ∧
 (b3 = true → (b6 = true → R (Ending.returned (Value.int IntKind.i64 0)) w5) ∧ (b6 = false → R (Ending.returned (Value.int IntKind.i64 (-1))) w5)) ∧
 (b3 = false →
 (b6 = true → R (Ending.returned (Value.int IntKind.i64 1)) w5) ∧
 (b6 = false →
 (decide (x < y) = true → R (Ending.returned (Value.int IntKind.i64 (-1))) w5) ∧
 (decide (x < y) = false → (decide (x > y) = true → R (Ending.returned (Value.int IntKind.i64 1)) w5) ∧ (decide (x > y) = false → R (Ending.returned (Value.int IntKind.i64 0)) w5))))
theorem f81_eq (x : Int) (y : Int) (w : World) (R : Ending → World → Prop) : (fnF Go.Proofs.Try.prog h81 Go.Proofs.Try.f81 [Value.int IntKind.i64 x, Value.int IntKind.i64 y] w R).den = f81_vc x y w R := by kernel_rfl
theorem f81_calls (x : Int) (y : Int) (w : World) (R : Ending → World → Prop) (h : f81_vc x y w R) : Calls Go.Proofs.Try.prog 81 (List.toArray [Value.int IntKind.i64 x, Value.int IntKind.i64 y]) w R :=
 fn_sound (H := h81) (fn := Go.Proofs.Try.f81) (by kernel_rfl) (by kernel_rfl) (by kernel_rfl) ((f81_eq x y w R).mpr h)


/-! manciple/book.ahead -/
def h82 : Hints := ⟨[2, 3], [], [], [(1, [0, 1, 2, 3, 5, 6, 7, 8, 10, 11, 12, 13, 15, 16, 17, 18, 4, 9, 14, 19, 20, 21, 22])], [], [], [], [], []⟩
def f82_vc (x_0 : Int) (x_1 : Int) (x_2 : Int) (x_3a : Option Addr) (x_3n : Nat) (x_3c : Nat) (y_0 : Int) (y_1 : Int) (y_2 : Int) (y_3a : Option Addr) (y_3n : Nat) (y_3c : Nat) (w : World) (R : Ending → World → Prop) : Prop :=
 ∀ (n1 : Nat),
 w.heap.size ≤ n1 →
 ∀ (n2 : Nat),
 w.heap.size ≤ n2 →
 ∀ (w3 : World),
 Bel w w3 →
 Under [n1, n2] w3 →
 Calls Proofs.Try.prog 81 #[Value.int IntKind.i64 x_0, Value.int IntKind.i64 y_0] w3 fun (e4 : Ending) (w5 : World) =>
 ∃ (x6 : Int),
 e4 = Ending.returned (Value.int IntKind.i64 x6) ∧
 Keeps [n1, n2] w3 w5 ∧
 Calls Proofs.Try.prog 81 #[Value.int IntKind.i64 x_1, Value.int IntKind.i64 y_1] w5 fun (e7 : Ending) (w8 : World) =>
 ∃ (x9 : Int),
 e7 = Ending.returned (Value.int IntKind.i64 x9) ∧
 Keeps [n1, n2] w5 w8 ∧
 Calls Proofs.Try.prog 81 #[Value.int IntKind.i64 x_2, Value.int IntKind.i64 y_2] w8 fun (e10 : Ending) (w11 : World) =>
 ∃ (x12 : Int),
 e10 = Ending.returned (Value.int IntKind.i64 x12) ∧
 Keeps [n1, n2] w8 w11 ∧
 Calls Proofs.Try.prog 97 #[Value.slice x_3a x_3n x_3c, Value.slice y_3a y_3n y_3c] w11 fun (e13 : Ending) (w14 : World) =>
 ∃ (x15 : Int),
 e13 = Ending.returned (Value.int IntKind.i64 x15) ∧
 Keeps [n1, n2] w11 w14 ∧
 OpW Proofs.Try.prog (valueS (Instr.buildSlice 68 4 #[(0, Value.int IntKind.i64 x6), (1, Value.int IntKind.i64 x9), (2, Value.int IntKind.i64 x12), (3, Value.int IntKind.i64 x15)])) w14
 fun (v16 : Value) (w17 : World) =>
 ∃ (a18 : Option Addr),
 ∃ (n19 : Nat),
 ∃ (n20 : Nat),
 v16 = Value.slice a18 n19 n20 ∧
 Keeps [n1, n2] w14 w17 ∧
 Calls Proofs.Try.prog 80 #[Value.slice a18 n19 n20] w17 fun (e21 : Ending) (w22 : World) =>
 ∃ (x23 : Int), e21 = Ending.returned (Value.int IntKind.i64 x23) ∧ Keeps [n1, n2] w17 w22 ∧ R (Ending.returned (Value.int IntKind.i64 x23)) w22
theorem f82_eq (x_0 : Int) (x_1 : Int) (x_2 : Int) (x_3a : Option Addr) (x_3n : Nat) (x_3c : Nat) (y_0 : Int) (y_1 : Int) (y_2 : Int) (y_3a : Option Addr) (y_3n : Nat) (y_3c : Nat) (w : World) (R : Ending → World → Prop) : (fnF Go.Proofs.Try.prog h82 Go.Proofs.Try.f82 [Value.agg #[Value.int IntKind.i64 x_0, Value.int IntKind.i64 x_1, Value.int IntKind.i64 x_2, Value.slice x_3a x_3n x_3c],
 Value.agg #[Value.int IntKind.i64 y_0, Value.int IntKind.i64 y_1, Value.int IntKind.i64 y_2, Value.slice y_3a y_3n y_3c]] w R).den = f82_vc x_0 x_1 x_2 x_3a x_3n x_3c y_0 y_1 y_2 y_3a y_3n y_3c w R := by kernel_rfl
theorem f82_calls (x_0 : Int) (x_1 : Int) (x_2 : Int) (x_3a : Option Addr) (x_3n : Nat) (x_3c : Nat) (y_0 : Int) (y_1 : Int) (y_2 : Int) (y_3a : Option Addr) (y_3n : Nat) (y_3c : Nat) (w : World) (R : Ending → World → Prop) (h : f82_vc x_0 x_1 x_2 x_3a x_3n x_3c y_0 y_1 y_2 y_3a y_3n y_3c w R) : Calls Go.Proofs.Try.prog 82 (List.toArray [Value.agg #[Value.int IntKind.i64 x_0, Value.int IntKind.i64 x_1, Value.int IntKind.i64 x_2, Value.slice x_3a x_3n x_3c],
 Value.agg #[Value.int IntKind.i64 y_0, Value.int IntKind.i64 y_1, Value.int IntKind.i64 y_2, Value.slice y_3a y_3n y_3c]]) w R :=
 fn_sound (H := h82) (fn := Go.Proofs.Try.f82) (by kernel_rfl) (by kernel_rfl) (by kernel_rfl) ((f82_eq x_0 x_1 x_2 x_3a x_3n x_3c y_0 y_1 y_2 y_3a y_3n y_3c w R).mpr h)


/-! (manciple/book.look).ledger$1 -/
def h83 : Hints := ⟨[], [], [20], [], [], [], [], [], []⟩
def f83_vc (agent : Int) (va : Option Addr) (vn : Nat) (vc : Nat) (cap0 : Value) (cap1 : Value) (w : World) (R : Ending → World → Prop) : Prop :=
 ∃ (r1 : Option Nat),
 Reads Proofs.Try.prog [] (Instr.loadAt 109 cap0) w (Value.map r1) ∧
 ∃ (a2 : Option Addr),
 ∃ (n3 : Nat),
 ∃ (n4 : Nat),
 Reads Proofs.Try.prog [] (Instr.lookup 109 (Value.map r1) (Value.int IntKind.i64 agent) false) w (Value.slice a2 n3 n4) ∧
 Calls Proofs.Try.prog 84 #[Value.slice a2 n3 n4, Value.slice va vn vc] w fun (e5 : Ending) (w6 : World) =>
 ∃ (a7 : Option Addr),
 ∃ (n8 : Nat),
 ∃ (n9 : Nat),
 ∃ (b10 : Bool),
 e5 = Ending.returned (Value.tuple #[Value.slice a7 n8 n9, Value.bool b10]) ∧
 ∃ (r11 : Option Nat),
 Reads Proofs.Try.prog [] (Instr.loadAt 109 cap0) w6 (Value.map r11) ∧
 ∃ (b12 : Bool),
 Reads Proofs.Try.prog [] (Instr.loadAt 4 cap1) w6 (Value.bool b12) ∧
 (b12 = true →
 OpW Proofs.Try.prog (skipS (Instr.mapUpdate 109 (Value.map r11) (Value.int IntKind.i64 agent) (Value.slice a7 n8 n9))) w6 fun (v13 : Value) (w14 : World) =>
 OpW Proofs.Try.prog (skipS (Instr.storeAt 4 cap1 (Value.bool b10))) w14 fun (v15 : Value) (w16 : World) => R (Ending.returned (Value.tuple #[])) w16) ∧
 (b12 = false →
 OpW Proofs.Try.prog (skipS (Instr.mapUpdate 109 (Value.map r11) (Value.int IntKind.i64 agent) (Value.slice a7 n8 n9))) w6 fun (v17 : Value) (w18 : World) =>
 OpW Proofs.Try.prog (skipS (Instr.storeAt 4 cap1 (Value.bool false))) w18 fun (v19 : Value) (w20 : World) => R (Ending.returned (Value.tuple #[])) w20)
theorem f83_eq (agent : Int) (va : Option Addr) (vn : Nat) (vc : Nat) (cap0 : Value) (cap1 : Value) (w : World) (R : Ending → World → Prop) : (fnF Go.Proofs.Try.prog h83 Go.Proofs.Try.f83 [Value.int IntKind.i64 agent, Value.slice va vn vc, cap0, cap1] w R).den = f83_vc agent va vn vc cap0 cap1 w R := by kernel_rfl
theorem f83_calls (agent : Int) (va : Option Addr) (vn : Nat) (vc : Nat) (cap0 : Value) (cap1 : Value) (w : World) (R : Ending → World → Prop) (h : f83_vc agent va vn vc cap0 cap1 w R) : Calls Go.Proofs.Try.prog 83 (List.toArray [Value.int IntKind.i64 agent, Value.slice va vn vc, cap0, cap1]) w R :=
 fn_sound (H := h83) (fn := Go.Proofs.Try.f83) (by kernel_rfl) (by kernel_rfl) (by kernel_rfl) ((f83_eq agent va vn vc cap0 cap1 w R).mpr h)


/-! slices.ContainsFunc[[]manciple/api.Agent,manciple/api.Agent] -/
def h85 : Hints := ⟨[], [], [], [], [], [], [], [], []⟩
def f85_vc (sa : Option Addr) (sn : Nat) (sc : Nat) (f : Value) (w : World) (R : Ending → World → Prop) : Prop :=
 Calls Proofs.Try.prog 61 #[Value.slice sa sn sc, f] w fun (e1 : Ending) (w2 : World) => ∃ (x3 : Int), e1 = Ending.returned (Value.int IntKind.i64 x3) ∧ R (Ending.returned (Value.bool (decide (x3 ≥ 0)))) w2
theorem f85_eq (sa : Option Addr) (sn : Nat) (sc : Nat) (f : Value) (w : World) (R : Ending → World → Prop) : (fnF Go.Proofs.Try.prog h85 Go.Proofs.Try.f85 [Value.slice sa sn sc, f] w R).den = f85_vc sa sn sc f w R := by kernel_rfl
theorem f85_calls (sa : Option Addr) (sn : Nat) (sc : Nat) (f : Value) (w : World) (R : Ending → World → Prop) (h : f85_vc sa sn sc f w R) : Calls Go.Proofs.Try.prog 85 (List.toArray [Value.slice sa sn sc, f]) w R :=
 fn_sound (H := h85) (fn := Go.Proofs.Try.f85) (by kernel_rfl) (by kernel_rfl) (by kernel_rfl) ((f85_eq sa sn sc f w R).mpr h)


/-! (manciple/book.look).ledger$2 -/
def h86 : Hints := ⟨[2], [], [], [], [], [], [], [], []⟩
def f86_vc (a_0 : Int) (a_1a : Option Addr) (a_1n : Nat) (a_1c : Nat) (a_2a : Option Addr) (a_2n : Nat) (a_2c : Nat) (cap0 : Value) (w : World) (R : Ending → World → Prop) : Prop :=
 ∀ (n1 : Nat),
 w.heap.size ≤ n1 →
 ∃ (r2 : Option Nat),
 Reads Proofs.Try.prog [] (Instr.loadAt 109 cap0) w (Value.map r2) ∧
 ∃ (a3 : Option Addr),
 ∃ (n4 : Nat),
 ∃ (n5 : Nat),
 Reads Proofs.Try.prog [] (Instr.lookup 109 (Value.map r2) (Value.int IntKind.i64 a_0) false) w (Value.slice a3 n4 n5) ∧
 ∀ (w6 : World),
 Bel w w6 →
 Under [n1] w6 →
 Calls Proofs.Try.prog 87 #[Value.slice a3 n4 n5, Value.slice a_1a a_1n a_1c] w6 fun (e7 : Ending) (w8 : World) =>
 ∃ (b9 : Bool), e7 = Ending.returned (Value.bool b9) ∧ Keeps [n1] w6 w8 ∧ R (Ending.returned (Value.bool !b9)) w8
theorem f86_eq (a_0 : Int) (a_1a : Option Addr) (a_1n : Nat) (a_1c : Nat) (a_2a : Option Addr) (a_2n : Nat) (a_2c : Nat) (cap0 : Value) (w : World) (R : Ending → World → Prop) : (fnF Go.Proofs.Try.prog h86 Go.Proofs.Try.f86 [Value.agg #[Value.int IntKind.i64 a_0, Value.slice a_1a a_1n a_1c, Value.slice a_2a a_2n a_2c], cap0] w R).den = f86_vc a_0 a_1a a_1n a_1c a_2a a_2n a_2c cap0 w R := by kernel_rfl
theorem f86_calls (a_0 : Int) (a_1a : Option Addr) (a_1n : Nat) (a_1c : Nat) (a_2a : Option Addr) (a_2n : Nat) (a_2c : Nat) (cap0 : Value) (w : World) (R : Ending → World → Prop) (h : f86_vc a_0 a_1a a_1n a_1c a_2a a_2n a_2c cap0 w R) : Calls Go.Proofs.Try.prog 86 (List.toArray [Value.agg #[Value.int IntKind.i64 a_0, Value.slice a_1a a_1n a_1c, Value.slice a_2a a_2n a_2c], cap0]) w R :=
 fn_sound (H := h86) (fn := Go.Proofs.Try.f86) (by kernel_rfl) (by kernel_rfl) (by kernel_rfl) ((f86_eq a_0 a_1a a_1n a_1c a_2a a_2n a_2c cap0 w R).mpr h)


/-! manciple/conf.within -/
def h95 : Hints := ⟨[], [], [10], [], [], [], [], [], []⟩
def f95_vc (n : Int) (lo : Int) (hi : Int) (w : World) (R : Ending → World → Prop) : Prop :=
 (decide (n ≥ lo) = true → R (Ending.returned (Value.bool (decide (n ≤ hi)))) w) ∧ (decide (n ≥ lo) = false → R (Ending.returned (Value.bool false)) w)
theorem f95_eq (n : Int) (lo : Int) (hi : Int) (w : World) (R : Ending → World → Prop) : (fnF Go.Proofs.Try.prog h95 Go.Proofs.Try.f95 [Value.int IntKind.i64 n, Value.int IntKind.i64 lo, Value.int IntKind.i64 hi] w R).den = f95_vc n lo hi w R := by kernel_rfl
theorem f95_calls (n : Int) (lo : Int) (hi : Int) (w : World) (R : Ending → World → Prop) (h : f95_vc n lo hi w R) : Calls Go.Proofs.Try.prog 95 (List.toArray [Value.int IntKind.i64 n, Value.int IntKind.i64 lo, Value.int IntKind.i64 hi]) w R :=
 fn_sound (H := h95) (fn := Go.Proofs.Try.f95) (by kernel_rfl) (by kernel_rfl) (by kernel_rfl) ((f95_eq n lo hi w R).mpr h)


/-! cmp.isNaN[int64] -/
def h96 : Hints := ⟨[], [], [], [], [], [], [], [], []⟩
def f96_vc (x : Int) (w : World) (R : Ending → World → Prop) : Prop :=
 R (Ending.returned (Value.bool (x != x))) w
theorem f96_eq (x : Int) (w : World) (R : Ending → World → Prop) : (fnF Go.Proofs.Try.prog h96 Go.Proofs.Try.f96 [Value.int IntKind.i64 x] w R).den = f96_vc x w R := by kernel_rfl
theorem f96_calls (x : Int) (w : World) (R : Ending → World → Prop) (h : f96_vc x w R) : Calls Go.Proofs.Try.prog 96 (List.toArray [Value.int IntKind.i64 x]) w R :=
 fn_sound (H := h96) (fn := Go.Proofs.Try.f96) (by kernel_rfl) (by kernel_rfl) (by kernel_rfl) ((f96_eq x w R).mpr h)


/-! manciple/book.Order -/
def h97 : Hints := ⟨[], [], [], [], [], [], [], [], []⟩
def f97_vc (aa : Option Addr) (an : Nat) (ac : Nat) (ba : Option Addr) (bn : Nat) (bc : Nat) (w : World) (R : Ending → World → Prop) : Prop :=
 Calls Proofs.Try.prog 104 #[Value.slice aa an ac, Value.slice ba bn bc, Value.func (Fn.func 105) #[] #[]] w fun (e1 : Ending) (w2 : World) =>
 ∃ (x3 : Int), e1 = Ending.returned (Value.int IntKind.i64 x3) ∧ R (Ending.returned (Value.int IntKind.i64 x3)) w2
theorem f97_eq (aa : Option Addr) (an : Nat) (ac : Nat) (ba : Option Addr) (bn : Nat) (bc : Nat) (w : World) (R : Ending → World → Prop) : (fnF Go.Proofs.Try.prog h97 Go.Proofs.Try.f97 [Value.slice aa an ac, Value.slice ba bn bc] w R).den = f97_vc aa an ac ba bn bc w R := by kernel_rfl
theorem f97_calls (aa : Option Addr) (an : Nat) (ac : Nat) (ba : Option Addr) (bn : Nat) (bc : Nat) (w : World) (R : Ending → World → Prop) (h : f97_vc aa an ac ba bn bc w R) : Calls Go.Proofs.Try.prog 97 (List.toArray [Value.slice aa an ac, Value.slice ba bn bc]) w R :=
 fn_sound (H := h97) (fn := Go.Proofs.Try.f97) (by kernel_rfl) (by kernel_rfl) (by kernel_rfl) ((f97_eq aa an ac ba bn bc w R).mpr h)


/-! slices.CompareFunc[[]manciple/api.Part,[]manciple/api.Part,manciple/api.Part,manciple/api.Part] -/
def h104 : Hints := ⟨[8, 9], [16, 24, 29], [14, 21, 31, 38], [], [], [(2, ⟨[(13, .int .i64)], []⟩)], [], [], []⟩
def f104_vc (s1a : Option Addr) (s1n : Nat) (s1c : Nat) (s2a : Option Addr) (s2n : Nat) (s2c : Nat) (cmp : Value) (w : World) (R : Ending → World → Prop) : Prop :=
 ∃ (J1 : Int × Unit → World → Prop),
 ∃ (J2 : Int × Unit → World → Nat),
 J1 (0, ()) w ∧
 ∀ (x3 : Int) (w4 : World),
 J1 (x3, ()) w4 →
 (decide (x3 < (↑s1n : Int)) = true →
 ∃ (ad5 : Addr),
 Gives Proofs.Try.prog (Instr.indexAt 33 (Value.slice s1a s1n s1c) (Value.int IntKind.i64 x3)) (Value.pointer (some ad5)) ∧
 ∃ (x6 : Int),
 ∃ (x7 : Int),
 ∃ (x8 : Int),
 Reads Proofs.Try.prog [] (Instr.loadAt 66 (Value.pointer (some ad5))) w4 (Value.agg #[Value.int IntKind.i64 x6, Value.int IntKind.i64 x7, Value.int IntKind.i64 x8]) ∧
 ∀ (n9 : Nat),
 w4.heap.size ≤ n9 →
 (decide (x3 ≥ (↑s2n : Int)) = true → ∀ (w10 : World), Evo [n9] w4 w10 → Under [n9] w10 → R (Ending.returned (Value.int IntKind.i64 1)) w10) ∧
 (decide (x3 ≥ (↑s2n : Int)) = false →
 ∃ (ad11 : Addr),
 Gives Proofs.Try.prog (Instr.indexAt 33 (Value.slice s2a s2n s2c) (Value.int IntKind.i64 x3)) (Value.pointer (some ad11)) ∧
 ∃ (x12 : Int),
 ∃ (x13 : Int),
 ∃ (x14 : Int),
 Reads Proofs.Try.prog [n9] (Instr.loadAt 66 (Value.pointer (some ad11))) w4 (Value.agg #[Value.int IntKind.i64 x12, Value.int IntKind.i64 x13, Value.int IntKind.i64 x14]) ∧
 ∀ (n15 : Nat),
 w4.heap.size ≤ n15 →
 ∀ (w16 : World),
 Evo [n15, n9] w4 w16 →
 Under [n9, n15] w16 →
 OpW Proofs.Try.prog
 (invokeS cmp
 #[Value.agg #[Value.int IntKind.i64 x6, Value.int IntKind.i64 x7, Value.int IntKind.i64 x8],
 Value.agg #[Value.int IntKind.i64 x12, Value.int IntKind.i64 x13, Value.int IntKind.i64 x14]])
 w16 fun (v17 : Value) (w18 : World) =>
 ∃ (x19 : Int),
 v17 = Value.int IntKind.i64 x19 ∧
 Keeps [n9, n15] w16 w18 ∧
 ((x19 != 0) = true → R (Ending.returned (Value.int IntKind.i64 x19)) w18) ∧
 ((x19 != 0) = false → J1 (IntKind.i64.wrap (x3 + 1), ()) w18 ∧ J2 (IntKind.i64.wrap (x3 + 1), ()) w18 < J2 (x3, ()) w4))) ∧
 (decide (x3 < (↑s1n : Int)) = false →
 (decide ((↑s1n : Int) < (↑s2n : Int)) = true → R (Ending.returned (Value.int IntKind.i64 (-1))) w4) ∧ (decide ((↑s1n : Int) < (↑s2n : Int)) = false → R (Ending.returned (Value.int IntKind.i64 0)) w4))
theorem f104_eq (s1a : Option Addr) (s1n : Nat) (s1c : Nat) (s2a : Option Addr) (s2n : Nat) (s2c : Nat) (cmp : Value) (w : World) (R : Ending → World → Prop) : (fnF Go.Proofs.Try.prog h104 Go.Proofs.Try.f104 [Value.slice s1a s1n s1c, Value.slice s2a s2n s2c, cmp] w R).den = f104_vc s1a s1n s1c s2a s2n s2c cmp w R := by kernel_rfl
theorem f104_calls (s1a : Option Addr) (s1n : Nat) (s1c : Nat) (s2a : Option Addr) (s2n : Nat) (s2c : Nat) (cmp : Value) (w : World) (R : Ending → World → Prop) (h : f104_vc s1a s1n s1c s2a s2n s2c cmp w R) : Calls Go.Proofs.Try.prog 104 (List.toArray [Value.slice s1a s1n s1c, Value.slice s2a s2n s2c, cmp]) w R :=
 fn_sound (H := h104) (fn := Go.Proofs.Try.f104) (by kernel_rfl) (by kernel_rfl) (by kernel_rfl) ((f104_eq s1a s1n s1c s2a s2n s2c cmp w R).mpr h)


/-! manciple/book.Order$1 -/
def h105 : Hints := ⟨[2, 3], [], [], [(1, [0, 1, 2, 3, 5, 6, 7, 8, 10, 11, 12, 13, 4, 9, 14, 15, 16, 17])], [], [], [], [], []⟩
def f105_vc (x_0 : Int) (x_1 : Int) (x_2 : Int) (y_0 : Int) (y_1 : Int) (y_2 : Int) (w : World) (R : Ending → World → Prop) : Prop :=
 ∀ (n1 : Nat),
 w.heap.size ≤ n1 →
 ∀ (n2 : Nat),
 w.heap.size ≤ n2 →
 ∀ (w3 : World),
 Bel w w3 →
 Under [n1, n2] w3 →
 Calls Proofs.Try.prog 106 #[Value.int IntKind.i64 x_0, Value.int IntKind.i64 y_0] w3 fun (e4 : Ending) (w5 : World) =>
 ∃ (x6 : Int),
 e4 = Ending.returned (Value.int IntKind.i64 x6) ∧
 Keeps [n1, n2] w3 w5 ∧
 Calls Proofs.Try.prog 106 #[Value.int IntKind.i64 x_1, Value.int IntKind.i64 y_1] w5 fun (e7 : Ending) (w8 : World) =>
 ∃ (x9 : Int),
 e7 = Ending.returned (Value.int IntKind.i64 x9) ∧
 Keeps [n1, n2] w5 w8 ∧
 Calls Proofs.Try.prog 81 #[Value.int IntKind.i64 x_2, Value.int IntKind.i64 y_2] w8 fun (e10 : Ending) (w11 : World) =>
 ∃ (x12 : Int),
 e10 = Ending.returned (Value.int IntKind.i64 x12) ∧
 Keeps [n1, n2] w8 w11 ∧
 OpW Proofs.Try.prog (valueS (Instr.buildSlice 68 3 #[(0, Value.int IntKind.i64 x6), (1, Value.int IntKind.i64 x9), (2, Value.int IntKind.i64 x12)])) w11 fun (v13 : Value) (w14 : World) =>
 ∃ (a15 : Option Addr),
 ∃ (n16 : Nat),
 ∃ (n17 : Nat),
 v13 = Value.slice a15 n16 n17 ∧
 Keeps [n1, n2] w11 w14 ∧
 Calls Proofs.Try.prog 80 #[Value.slice a15 n16 n17] w14 fun (e18 : Ending) (w19 : World) =>
 ∃ (x20 : Int), e18 = Ending.returned (Value.int IntKind.i64 x20) ∧ Keeps [n1, n2] w14 w19 ∧ R (Ending.returned (Value.int IntKind.i64 x20)) w19
theorem f105_eq (x_0 : Int) (x_1 : Int) (x_2 : Int) (y_0 : Int) (y_1 : Int) (y_2 : Int) (w : World) (R : Ending → World → Prop) : (fnF Go.Proofs.Try.prog h105 Go.Proofs.Try.f105 [Value.agg #[Value.int IntKind.i64 x_0, Value.int IntKind.i64 x_1, Value.int IntKind.i64 x_2], Value.agg #[Value.int IntKind.i64 y_0, Value.int IntKind.i64 y_1, Value.int IntKind.i64 y_2]] w R).den = f105_vc x_0 x_1 x_2 y_0 y_1 y_2 w R := by kernel_rfl
theorem f105_calls (x_0 : Int) (x_1 : Int) (x_2 : Int) (y_0 : Int) (y_1 : Int) (y_2 : Int) (w : World) (R : Ending → World → Prop) (h : f105_vc x_0 x_1 x_2 y_0 y_1 y_2 w R) : Calls Go.Proofs.Try.prog 105 (List.toArray [Value.agg #[Value.int IntKind.i64 x_0, Value.int IntKind.i64 x_1, Value.int IntKind.i64 x_2], Value.agg #[Value.int IntKind.i64 y_0, Value.int IntKind.i64 y_1, Value.int IntKind.i64 y_2]]) w R :=
 fn_sound (H := h105) (fn := Go.Proofs.Try.f105) (by kernel_rfl) (by kernel_rfl) (by kernel_rfl) ((f105_eq x_0 x_1 x_2 y_0 y_1 y_2 w R).mpr h)


/-! cmp.Compare[int] -/
def h106 : Hints := ⟨[], [], [11, 12, 13, 16, 19], [], [], [], [], [], []⟩
def f106_vc (x : Int) (y : Int) (w : World) (R : Ending → World → Prop) : Prop :=
 Calls Proofs.Try.prog 108 #[Value.int IntKind.i64 x] w fun (e1 : Ending) (w2 : World) =>
 ∃ (b3 : Bool),
 e1 = Ending.returned (Value.bool b3) ∧
 Calls Proofs.Try.prog 108 #[Value.int IntKind.i64 y] w2 fun (e4 : Ending) (w5 : World) =>
 ∃ (b6 : Bool),
 e4 = Ending.returned (Value.bool b6) ∧
 (b3 = true → (b6 = true → R (Ending.returned (Value.int IntKind.i64 0)) w5) ∧ (b6 = false → R (Ending.returned (Value.int IntKind.i64 (-1))) w5)) ∧
 (b3 = false →
 (b6 = true → R (Ending.returned (Value.int IntKind.i64 1)) w5) ∧
 (b6 = false →
 (decide (x < y) = true → R (Ending.returned (Value.int IntKind.i64 (-1))) w5) ∧
 (decide (x < y) = false → (decide (x > y) = true → R (Ending.returned (Value.int IntKind.i64 1)) w5) ∧ (decide (x > y) = false → R (Ending.returned (Value.int IntKind.i64 0)) w5))))
theorem f106_eq (x : Int) (y : Int) (w : World) (R : Ending → World → Prop) : (fnF Go.Proofs.Try.prog h106 Go.Proofs.Try.f106 [Value.int IntKind.i64 x, Value.int IntKind.i64 y] w R).den = f106_vc x y w R := by kernel_rfl
theorem f106_calls (x : Int) (y : Int) (w : World) (R : Ending → World → Prop) (h : f106_vc x y w R) : Calls Go.Proofs.Try.prog 106 (List.toArray [Value.int IntKind.i64 x, Value.int IntKind.i64 y]) w R :=
 fn_sound (H := h106) (fn := Go.Proofs.Try.f106) (by kernel_rfl) (by kernel_rfl) (by kernel_rfl) ((f106_eq x y w R).mpr h)


/-! cmp.isNaN[int] -/
def h108 : Hints := ⟨[], [], [], [], [], [], [], [], []⟩
def f108_vc (x : Int) (w : World) (R : Ending → World → Prop) : Prop :=
 R (Ending.returned (Value.bool (x != x))) w
theorem f108_eq (x : Int) (w : World) (R : Ending → World → Prop) : (fnF Go.Proofs.Try.prog h108 Go.Proofs.Try.f108 [Value.int IntKind.i64 x] w R).den = f108_vc x w R := by kernel_rfl
theorem f108_calls (x : Int) (w : World) (R : Ending → World → Prop) (h : f108_vc x w R) : Calls Go.Proofs.Try.prog 108 (List.toArray [Value.int IntKind.i64 x]) w R :=
 fn_sound (H := h108) (fn := Go.Proofs.Try.f108) (by kernel_rfl) (by kernel_rfl) (by kernel_rfl) ((f108_eq x w R).mpr h)

end Vcxa

/- Own text of this claim: X2. -/
set_option maxRecDepth 20000
namespace Go.Vc.W
open Go Go.Vc Go.Vc.V Go.RowKit Go.Proofs Vcw Vcxa

def sg (a b : Int) : Int := if a < b then -1 else if a > b then 1 else 0
theorem c96 (x : Int) (w : World) : Ret Try.prog 96 #[.int .i64 x] w (.bool false) := by
  intro R h
  refine f96_calls _ w R ?_
  unfold f96_vc
  first
    | exact leaf h (At.refl w) (by simp)
    | simpa using leaf h (At.refl w) rfl
theorem c81 (a b : Int) (w : World) : Ret Try.prog 81 #[.int .i64 a, .int .i64 b] w (.int .i64 (sg a b)) := by
  intro R h
  refine f81_calls _ _ w R ?_
  unfold f81_vc
  unfold sg at h
  refine at_callb (At.refl w) (c96 a w) fun w2 hA _ _ => ⟨_, rfl, at_callb hA (c96 b w2) fun w5 hA _ _ => ⟨_, rfl, brB (fun e => by cases e) (fun _ => brB (fun e => by cases e) (fun _ => ?_))⟩⟩
  refine brD (fun h1 => ?_) (fun h1 => brD (fun h2 => ?_) (fun h2 => ?_))
  · rw [if_pos h1] at h; exact leaf h hA rfl
  · rw [if_neg h1, if_pos h2] at h; exact leaf h hA rfl
  · rw [if_neg h1, if_neg h2] at h; exact leaf h hA rfl
def orL : List Int → Int
  | [] => 0
  | x :: t => if x ≠ 0 then x else orL t
theorem orL_drop : ∀ (l : List Int) (k : Nat), (∀ q, q < k → ∀ y, l[q]? = some y → y = 0) → orL l = orL (l.drop k)
  | l, 0, _ => by simp
  | [], k + 1, _ => by simp
  | x :: t, k + 1, h => by
    have hx : x = 0 := h 0 (by omega) x rfl
    rw [List.drop_succ_cons, ← orL_drop t k fun q hq y hy => h (q + 1) (by omega) y (by simpa using hy), orL, if_neg (by simp [hx])]
theorem c80 {l : List Int} {a : Option Addr} {n c : Nat} (w : World) (hs : SlE w 1 (fun x => [Value.int .i64 x]) l a n c) (hl : l.length < 1099511627776) : Ret Try.prog 80 #[.slice a n c] w (.int .i64 (orL l)) := by
  intro R h
  refine f80_calls _ _ _ w R ?_
  unfold f80_vc
  have hA := At.refl w
  have hn := hs.len_le.1
  refine ⟨fun v w4 => ∃ k : Nat, v.1 = k ∧ At w [] w4 ∧ (∀ q, q < k → ∀ y, l[q]? = some y → y = 0), fun v _ => (n - v.1).toNat, ⟨0, rfl, hA, fun q hq => by omega⟩, ?_⟩
  rintro x3 w4 ⟨k, hk, hA, hmin⟩
  simp only at hk
  subst hk
  have hd := orL_drop l k hmin
  refine brD (fun hlt => ?_) (fun hge => leaf h hA ?_)
  · obtain ⟨x, hx⟩ : ∃ x, l[k]? = some x := ⟨_, List.getElem?_eq_getElem (by omega)⟩
    obtain ⟨hkl, hxe⟩ := List.getElem?_eq_some_iff.1 hx
    have hdr : l.drop k = x :: l.drop (k + 1) := by rw [← hxe]; exact List.drop_eq_getElem_cons hkl
    obtain ⟨ad, g1, el, _⟩ := elt_at (P := Try.prog) (k := .i64) (t := 68) (hs.call hA.below) hx (e := 3) (by kernel_rfl) (by kernel_rfl)
    refine ⟨ad, g1, _, el.one (by kernel_rfl) (by simp), brN (fun hne => leaf h hA ?_) (fun he => ?_)⟩
    · rw [hd, hdr, orL, if_pos hne]
    · have e1 : IntKind.i64.wrap ((k : Int) + 1) = ((k + 1 : Nat) : Int) := by rw [wrap_i64 (by omega) (by omega)]; rfl
      rw [e1]
      refine ⟨⟨k + 1, rfl, hA, fun q hq y hy => ?_⟩, by simp only; omega⟩
      by_cases hqk : q = k
      · subst hqk
        rw [hx] at hy
        cases hy
        exact he
      · exact hmin q (by omega) y hy
  · rw [hd, List.drop_eq_nil_of_le (by omega)]; rfl
end Go.Vc.W

/- Filters: how two stand, in the code. -/
set_option maxRecDepth 20000
set_option maxHeartbeats 1000000
namespace Go.Vc.W
open Go Go.Vc Go.Vc.V Go.RowKit Go.Proofs Vcw Vcxa

variable {w W W' W2 : World} {M N : Nat → Prop} {gs ds : List Nat}

theorem sg_cases (a b : Int) : (a < b ∧ sg a b = -1) ∨ (b < a ∧ sg a b = 1) ∨ (a = b ∧ sg a b = 0) := by
  unfold sg
  split
  · exact .inl ⟨by assumption, rfl⟩
  · split
    · exact .inr (.inl ⟨by omega, rfl⟩)
    · exact .inr (.inr ⟨by omega, rfl⟩)
/-- How two rows of numbers stand. -/
def cmpL : List Int → List Int → Int
  | [], [] => 0
  | [], _ :: _ => -1
  | _ :: _, [] => 1
  | x :: a, y :: b => if sg x y ≠ 0 then sg x y else cmpL a b
theorem cmpL_neg : ∀ a b : List Int, cmpL b a = - cmpL a b
  | [], [] => rfl
  | [], _ :: _ => rfl
  | _ :: _, [] => rfl
  | x :: a, y :: b => by
    unfold cmpL
    rw [cmpL_neg a b]
    rcases sg_cases x y with ⟨h, e⟩ | ⟨h, e⟩ | ⟨h, e⟩
    · have : sg y x = 1 := by rcases sg_cases y x with ⟨_, e⟩ | ⟨_, e⟩ | ⟨_, e⟩ <;> omega
      rw [e, this]; simp
    · have : sg y x = -1 := by rcases sg_cases y x with ⟨_, e⟩ | ⟨_, e⟩ | ⟨_, e⟩ <;> omega
      rw [e, this]; simp
    · have : sg y x = 0 := by rcases sg_cases y x with ⟨_, e⟩ | ⟨_, e⟩ | ⟨_, e⟩ <;> omega
      rw [e, this]; simp
theorem cmpL_self : ∀ a : List Int, cmpL a a = 0
  | [] => rfl
  | x :: a => by
    unfold cmpL
    have : sg x x = 0 := by rcases sg_cases x x with ⟨h, _⟩ | ⟨h, _⟩ | ⟨_, e⟩ <;> omega
    rw [this, if_neg (by simp)]
    exact cmpL_self a
theorem cmpL_eq : ∀ {a b : List Int}, cmpL a b = 0 → a = b
  | [], [], _ => rfl
  | [], _ :: _, h => by simp [cmpL] at h
  | _ :: _, [], h => by simp [cmpL] at h
  | x :: a, y :: b, h => by
    unfold cmpL at h
    rcases sg_cases x y with ⟨_, e⟩ | ⟨_, e⟩ | ⟨e1, e⟩
    · rw [e] at h; simp at h
    · rw [e] at h; simp at h
    · rw [e] at h
      simp at h
      rw [e1, cmpL_eq h]
theorem cmpL_lt_trans : ∀ {a b c : List Int}, cmpL a b < 0 → cmpL b c < 0 → cmpL a c < 0
  | [], [], _, h, _ => by simp [cmpL] at h
  | [], _ :: _, [], _, k => by simp [cmpL] at k
  | [], _ :: _, _ :: _, _, _ => by simp [cmpL]
  | _ :: _, [], _, h, _ => by simp [cmpL] at h
  | _ :: _, _ :: _, [], _, k => by simp [cmpL] at k
  | x :: a, y :: b, z :: c, h, k => by
    unfold cmpL at h k ⊢
    rcases sg_cases x y with ⟨h1, e⟩ | ⟨h1, e⟩ | ⟨h1, e⟩ <;> rcases sg_cases y z with ⟨k1, f⟩ | ⟨k1, f⟩ | ⟨k1, f⟩ <;> rcases sg_cases x z with ⟨m1, g⟩ | ⟨m1, g⟩ | ⟨m1, g⟩ <;> rw [e] at h <;> rw [f] at k <;> rw [g] <;> simp at h k ⊢ <;> first | omega | exact cmpL_lt_trans h k
theorem cmpL_tri (a b : List Int) : cmpL a b < 0 ∨ a = b ∨ cmpL b a < 0 := by
  have h1 := cmpL_neg a b
  by_cases h0 : cmpL a b = 0
  · exact .inr (.inl (cmpL_eq h0))
  · omega
/-! ### Vectors as rows of numbers -/
def flatV : List PartT → List Int
  | [] => []
  | p :: l => p.1 :: p.2.1 :: p.2.2 :: flatV l
theorem flatV_inj : ∀ {a b : List PartT}, flatV a = flatV b → a = b
  | [], [], _ => rfl
  | [], _ :: _, h => by simp [flatV] at h
  | _ :: _, [], h => by simp [flatV] at h
  | (p1, p2, p3) :: a, (q1, q2, q3) :: b, h => by
    simp only [flatV, List.cons.injEq] at h
    obtain ⟨h1, h2, h3, h4⟩ := h
    rw [h1, h2, h3, flatV_inj h4]
def cmp3 (x y : PartT) : Int := orL [sg x.1 y.1, sg x.2.1 y.2.1, sg x.2.2 y.2.2]
theorem cmpV_cons (x y : PartT) (a b : List PartT) : cmpL (flatV (x :: a)) (flatV (y :: b)) = if cmp3 x y ≠ 0 then cmp3 x y else cmpL (flatV a) (flatV b) := by
  have e1 : ∀ (z : PartT) (l : List PartT), flatV (z :: l) = z.1 :: z.2.1 :: z.2.2 :: flatV l := fun _ _ => rfl
  rw [e1, e1]
  unfold cmp3
  generalize flatV a = u
  generalize flatV b = v
  simp only [cmpL, orL]
  by_cases h1 : sg x.1 y.1 = 0
  · by_cases h2 : sg x.2.1 y.2.1 = 0
    · by_cases h3 : sg x.2.2 y.2.2 = 0
      · simp [h1, h2, h3]
      · simp [h1, h2, h3]
    · simp [h1, h2]
  · simp [h1]
/-! ### Filters -/
def keyF (x : TkT) : List Int := x.1 :: x.2.1 :: x.2.2.1 :: flatV x.2.2.2
theorem keyF_inj {x y : TkT} (h : keyF x = keyF y) : x = y := by
  obtain ⟨a, b, c, v⟩ := x
  obtain ⟨a', b', c', v'⟩ := y
  simp only [keyF, List.cons.injEq] at h
  obtain ⟨h1, h2, h3, h4⟩ := h
  rw [h1, h2, h3, flatV_inj h4]
def aF (x y : TkT) : Int := cmpL (keyF x) (keyF y)
theorem aF_or (x y : TkT) : aF x y = orL [sg x.1 y.1, sg x.2.1 y.2.1, sg x.2.2.1 y.2.2.1, cmpL (flatV x.2.2.2) (flatV y.2.2.2)] := by
  unfold aF keyF
  simp only [cmpL, orL]
  by_cases h1 : sg x.1 y.1 = 0
  · by_cases h2 : sg x.2.1 y.2.1 = 0
    · by_cases h3 : sg x.2.2.1 y.2.2.1 = 0
      · by_cases h4 : cmpL (flatV x.2.2.2) (flatV y.2.2.2) = 0
        · simp [h1, h2, h3, h4]
        · simp [h1, h2, h3, h4]
      · simp [h1, h2, h3]
    · simp [h1, h2]
  · simp [h1]
theorem aF_neg (x y : TkT) : aF y x = - aF x y := cmpL_neg _ _
theorem aF_eq {x y : TkT} (h : aF x y = 0) : x = y := keyF_inj (cmpL_eq h)
theorem aF_self (x : TkT) : aF x x = 0 := cmpL_self _
theorem aF_trans {x y z : TkT} (h : aF x y < 0) (k : aF y z < 0) : aF x z < 0 := cmpL_lt_trans h k
theorem aF_ntrans {x y z : TkT} (h : ¬ aF x y < 0) (k : ¬ aF y z < 0) : ¬ aF x z < 0 := by
  intro hh
  have h1 := aF_neg x y
  have k1 := aF_neg y z
  by_cases h0 : aF x y = 0
  · rw [aF_eq h0] at hh; exact k hh
  · by_cases k0 : aF y z = 0
    · rw [← aF_eq k0] at hh; exact h hh
    · have := aF_trans (x := z) (y := y) (z := x) (by omega) (by omega)
      have := aF_neg x z
      omega

theorem c108 (x : Int) (w : World) : Ret Try.prog 108 #[.int .i64 x] w (.bool false) := by
  intro R h
  refine f108_calls _ w R ?_
  unfold f108_vc
  first
    | exact leaf h (At.refl w) (by simp)
    | simpa using leaf h (At.refl w) rfl
theorem c106 (a b : Int) (w : World) : Ret Try.prog 106 #[.int .i64 a, .int .i64 b] w (.int .i64 (sg a b)) := by
  intro R h
  refine f106_calls _ _ w R ?_
  unfold f106_vc
  unfold sg at h
  refine at_callb (At.refl w) (c108 a w) fun w2 hA _ _ => ⟨_, rfl, at_callb hA (c108 b w2) fun w5 hA _ _ => ⟨_, rfl, brB (fun e => by cases e) (fun _ => brB (fun e => by cases e) (fun _ => ?_))⟩⟩
  refine brD (fun h1 => ?_) (fun h1 => brD (fun h2 => ?_) (fun h2 => ?_))
  · rw [if_pos h1] at h; exact leaf h hA rfl
  · rw [if_neg h1, if_pos h2] at h; exact leaf h hA rfl
  · rw [if_neg h1, if_neg h2] at h; exact leaf h hA rfl
abbrev ptV (p : PartT) : Value := .agg #[.int .i64 p.1, .int .i64 p.2.1, .int .i64 p.2.2]
theorem c105 (x y : PartT) (w : World) : Ret Try.prog 105 #[ptV x, ptV y] w (.int .i64 (cmp3 x y)) := by
  intro R h
  refine f105_calls _ _ _ _ _ _ w R ?_
  unfold f105_vc
  intro n1 hn1 n2 hn2 w3 hb3 hu3
  have hA : At w [n1, n2] w3 := ⟨((At.refl w).call hb3).chg, hu3⟩
  refine at_callb hA (c106 _ _ w3) fun w5 hA hk _ => ⟨_, rfl, hk, ?_⟩
  refine at_callb hA (c106 _ _ w5) fun w8 hA hk _ => ⟨_, rfl, hk, ?_⟩
  refine at_callb hA (c81 _ _ w8) fun w11 hA hk _ => ⟨_, rfl, hk, ?_⟩
  refine opw_litL (e' := 3) (f := fun x => [Value.int .i64 x]) (size := 1) (l := [sg x.1 y.1, sg x.2.1 y.2.1, sg x.2.2 y.2.2]) hA rfl (fun _ _ => rfl) (by decide) (by kernel_rfl) fun g w14 _ hA hk _ ho => ⟨_, _, _, rfl, hk, ?_⟩
  exact at_callb hA (c80 w14 (ho.sl fun _ _ => rfl) (by simp)) fun w19 hA hk _ => ⟨_, rfl, hk, leaf h hA rfl⟩
theorem c104 {l1 l2 : List PartT} {a1 a2 : Option Addr} {n1 c1 n2 c2 : Nat} (w : World) (h1 : SlE w 3 partE l1 a1 n1 c1) (h2 : SlE w 3 partE l2 a2 n2 c2) : Ret Try.prog 104 #[.slice a1 n1 c1, .slice a2 n2 c2, .func (.func 105) #[] #[]] w (.int .i64 (cmpL (flatV l1) (flatV l2))) := by
  intro R h
  refine f104_calls _ _ _ _ _ _ _ w R ?_
  unfold f104_vc
  have e1 := h1.len_le
  have e2 := h2.len_le
  refine ⟨fun v W' => At w [] W' ∧ ∃ k : Nat, v.1 = k ∧ k ≤ l1.length ∧ k ≤ l2.length ∧ cmpL (flatV (l1.drop k)) (flatV (l2.drop k)) = cmpL (flatV l1) (flatV l2), fun v _ => (n1 - v.1).toNat, ⟨At.refl w, 0, rfl, Nat.zero_le _, Nat.zero_le _, by simp⟩, ?_⟩
  rintro x3 w4 ⟨hA, k, hk, hk1, hk2, hc⟩
  simp only at hk
  subst hk
  refine brD (fun hlt => ?_) (fun hge => brD (fun hlt => leaf h hA ?_) (fun hge2 => leaf h hA ?_))
  · obtain ⟨x, hx⟩ : ∃ x, l1[k]? = some x := ⟨_, List.getElem?_eq_getElem (by omega)⟩
    have d1 := drop_cons hx
    obtain ⟨ad, g1, el, _⟩ := elt_at (P := Try.prog) (k := .i64) (t := 33) (h1.call hA.below) hx (e := 66) (by kernel_rfl) (by kernel_rfl)
    refine ⟨ad, g1, _, _, _, el.agg 3 (by kernel_rfl) (by kernel_rfl) (by simp) (by simp), fun n9 hn9 => brD (fun hge w10 hev hu => ?_) (fun hlt2 => ?_)⟩
    · have : k = l2.length := by omega
      rw [d1, this, List.drop_length] at hc
      refine leaf h (hA.evo (gs' := []) (by have := hA.size; simp; omega) hev (fun _ h => by cases h)) ?_
      rw [← hc]
      simp [flatV, cmpL]
    · obtain ⟨y, hy⟩ : ∃ y, l2[k]? = some y := ⟨_, List.getElem?_eq_getElem (by omega)⟩
      have d2 := drop_cons hy
      have hs := hA.size
      obtain ⟨ad2, g2, el2, _⟩ := elt_at (P := Try.prog) (k := .i64) (t := 33) (h2.call hA.below) hy (e := 66) (by kernel_rfl) (by kernel_rfl)
      have far : ∀ d ∈ [n9], d ≠ ad2.block := el2.far (by simpa using hn9)
      refine ⟨ad2, g2, _, _, _, el2.agg 3 (by kernel_rfl) (by kernel_rfl) (by simp) far, fun n15 hn15 w16 hev hu => ?_⟩
      have hA := hA.evo (gs' := [n9, n15]) (by simp; omega) hev hu
      rw [d1, d2, cmpV_cons] at hc
      refine at_inv hA (RetI.of (by kernel_rfl) (c105 x y w16)) fun w18 hA hk hb => ⟨_, rfl, hk, brN (fun hne => leaf h hA ?_) (fun he => ?_)⟩
      · rw [← hc, if_pos hne]
      · rw [if_neg (by simp [he])] at hc
        rw [succ_i k (by omega)]
        exact ⟨⟨hA.sub (by simp), k + 1, rfl, by omega, by omega, hc⟩, by simp only; omega⟩
  · have : k = l1.length := by omega
    obtain ⟨y, hy⟩ : ∃ y, l2[k]? = some y := ⟨_, List.getElem?_eq_getElem (by omega)⟩
    rw [this, List.drop_length, ← this, drop_cons hy] at hc
    rw [← hc]
    simp [flatV, cmpL]
  · rw [show k = l1.length by omega, List.drop_length, show l1.length = l2.length by omega, List.drop_length] at hc
    rw [← hc]
    simp [flatV, cmpL]
theorem c97 {l1 l2 : List PartT} {a1 a2 : Option Addr} {n1 c1 n2 c2 : Nat} (w : World) (h1 : SlE w 3 partE l1 a1 n1 c1) (h2 : SlE w 3 partE l2 a2 n2 c2) : Ret Try.prog 97 #[.slice a1 n1 c1, .slice a2 n2 c2] w (.int .i64 (cmpL (flatV l1) (flatV l2))) := by
  intro R h
  refine f97_calls _ _ _ _ _ _ w R ?_
  unfold f97_vc
  exact at_callb (At.refl w) (c104 w h1 h2) fun w2 hA _ _ => ⟨_, rfl, leaf h hA rfl⟩
theorem c82 (x y : TkT) {a1 a2 : Option Addr} {n1 c1 n2 c2 : Nat} (w : World) (h1 : SlE w 3 partE x.2.2.2 a1 n1 c1) (h2 : SlE w 3 partE y.2.2.2 a2 n2 c2) : Ret Try.prog 82 #[.agg #[.int .i64 x.1, .int .i64 x.2.1, .int .i64 x.2.2.1, .slice a1 n1 c1], .agg #[.int .i64 y.1, .int .i64 y.2.1, .int .i64 y.2.2.1, .slice a2 n2 c2]] w (.int .i64 (aF x y)) := by
  intro R h
  refine f82_calls _ _ _ _ _ _ _ _ _ _ _ _ w R ?_
  unfold f82_vc
  rw [aF_or] at h
  intro n1 hn1 n2 hn2 w3 hb3 hu3
  have hA : At w [n1, n2] w3 := ⟨((At.refl w).call hb3).chg, hu3⟩
  refine at_callb hA (c81 _ _ w3) fun w5 hA hk _ => ⟨_, rfl, hk, ?_⟩
  refine at_callb hA (c81 _ _ w5) fun w8 hA hk _ => ⟨_, rfl, hk, ?_⟩
  refine at_callb hA (c81 _ _ w8) fun w11 hA hk _ => ⟨_, rfl, hk, ?_⟩
  refine at_callb hA (c97 w11 (h1.call hA.below) (h2.call hA.below)) fun w14 hA hk _ => ⟨_, rfl, hk, ?_⟩
  refine opw_litL (e' := 3) (f := fun x => [Value.int .i64 x]) (size := 1) (l := [sg x.1 y.1, sg x.2.1 y.2.1, sg x.2.2.1 y.2.2.1, cmpL (flatV x.2.2.2) (flatV y.2.2.2)]) hA rfl (fun _ _ => rfl) (by decide) (by kernel_rfl) fun g w17 _ hA hk _ ho => ⟨_, _, _, rfl, hk, ?_⟩
  exact at_callb hA (c80 w17 (ho.sl fun _ _ => rfl) (by simp)) fun w22 hA hk _ => ⟨_, rfl, hk, leaf h hA rfl⟩
end Go.Vc.W

/- Own text of this claim: X4. -/
set_option maxRecDepth 20000
namespace Go.Vc.W
open Go Go.Vc Go.Vc.V Go.RowKit Go.Proofs Vcw Vcxa

theorem c84 {l1 l2 : List PartT} {aa ba : Option Addr} {an ac bn bc : Nat} (w : World) (h1 : SlE w 3 partE l1 aa an ac) (h2 : SlE w 3 partE l2 ba bn bc) (hl1 : l1.length ≤ 1000000) (hl2 : l2.length ≤ 1000000) :
    RetLB Try.prog 84 #[.slice aa an ac, .slice ba bn bc] w 66 3 partE (if vecB l1 = true ∧ vecB l2 = true then vout (vadd l1 l2) else []) (decide (vecB l1 = true ∧ vecB l2 = true) && (vadd l1 l2).isSome) := by
  intro R h
  refine f84_calls aa an ac ba bn bc w R ?_
  unfold f84_vc
  have hA := At.refl w
  refine at_call hA (c63 _ h1) (fun _ hA hk => ?_)
  first | refine ⟨_, rfl, ?_⟩ | refine ⟨_, _, rfl, ?_⟩ | refine ⟨_, _, _, rfl, ?_⟩ | refine ⟨_, _, _, _, rfl, ?_⟩ | refine ⟨_, _, _, _, _, rfl, ?_⟩ | refine ⟨_, _, _, _, _, _, rfl, ?_⟩ | refine ⟨_, _, _, _, _, _, _, rfl, ?_⟩ | refine ⟨_, _, _, _, _, _, _, _, rfl, ?_⟩
  refine brNB (fun hn => leaflb h hA OwnL.nil (by rw [if_neg (by rw [hn]; simp)]) (by rw [hn]; rfl)) (fun hv1 => ?_)
  refine at_call hA (c63 _ (h2.call hA.below)) (fun _ hA hk => ?_)
  first | refine ⟨_, rfl, ?_⟩ | refine ⟨_, _, rfl, ?_⟩ | refine ⟨_, _, _, rfl, ?_⟩ | refine ⟨_, _, _, _, rfl, ?_⟩ | refine ⟨_, _, _, _, _, rfl, ?_⟩ | refine ⟨_, _, _, _, _, _, rfl, ?_⟩ | refine ⟨_, _, _, _, _, _, _, rfl, ?_⟩ | refine ⟨_, _, _, _, _, _, _, _, rfl, ?_⟩
  refine brNB (fun hn => leaflb h hA OwnL.nil (by rw [if_neg (by rw [hn]; simp)]) (by rw [hn]; simp)) (fun hv2 => ?_)
  rw [if_pos ⟨hv1, hv2⟩, decide_eq_true ⟨hv1, hv2⟩, Bool.true_and] at h
  refine ⟨fun s W => At w [] W ∧ ∃ (a b out : List PartT), SlE w 3 partE a s.1.1 s.1.2.1 s.1.2.2 ∧ SlE w 3 partE b s.2.1.1 s.2.1.2.1 s.2.1.2.2 ∧ OwnL w [] W 66 3 partE (.slice s.2.2.1.1 s.2.2.1.2.1 s.2.2.1.2.2) out ∧ out.length + a.length + b.length ≤ l1.length + l2.length ∧ (∀ p ∈ a, partR p) ∧ (∀ p ∈ b, partR p) ∧ (vadd a b).map (out ++ ·) = vadd l1 l2, fun s _ => s.1.2.1 + s.2.1.2.1,
    ⟨hA, l1, l2, [], h1, h2, OwnL.nil, by simp, (vecB_iff.1 hv1).1, (vecB_iff.1 hv2).1, by simp⟩, ?_⟩
  rintro a9 n10 n11 a12 n13 n14 a15 n16 n17 W ⟨hA, a, b, out, ha, hb, ho, hlen, hpa, hpb, hg⟩
  simp only at ha hb ho
  have hna := ha.1
  have hnb := hb.1
  have hno := ho.len
  subst hna hnb hno
  -- places and values
  have rdh : ∀ {W : World} {gs : List Nat} {p : PartT} {r l : List PartT} {aa : Option Addr} {an ac : Nat}, At w gs W → l = p :: r → SlE w 3 partE l aa an ac → ∃ ad, Gives Try.prog (Instr.indexAt 33 (.slice aa an ac) (.int .i64 0)) (.pointer (some ad)) ∧ (Reads Try.prog [] (Instr.loadAt 66 (.pointer (some ad))) W (partV p)) ∧ Elt W ad (partE p) := by
    intro W gs p r l aa an ac hA hl hs
    subst hl
    obtain ⟨ad, g, e, _⟩ := elt_at (P := Try.prog) (t := 33) (e := 66) (k := .i64) (i := 0) (hs.call hA.below) rfl (by kernel_rfl) (by kernel_rfl)
    exact ⟨ad, g, Elt.agg 3 e (by kernel_rfl) (by kernel_rfl) (by simp) no_ds, e⟩
  have rest : ∀ {p : PartT} {r l : List PartT} {aa : Option Addr} {ac : Nat}, l = p :: r → SlE w 3 partE l aa l.length ac → ∃ a', Gives Try.prog (Instr.sliceAt 33 (.slice aa l.length ac) (some (.int .i64 1)) none none) (.slice a' (l.length - 1) (ac - 1)) ∧ SlE w 3 partE r a' (l.length - 1) (ac - 1) := by
    intro p r l aa ac hl hs
    obtain ⟨a', g, k⟩ := gives_from (P := Try.prog) (t := 33) (e := 66) (k := .i64) (i := 1) hs (by rw [hl]; simp) (by kernel_rfl) (by kernel_rfl)
    have := k w hs
    rw [hl, List.drop_one, List.tail_cons] at this
    rw [hl] at g ⊢
    exact ⟨a', g, this⟩
  have hlp : ∀ x : PartT, (partE x).length = 3 := fun x => rfl
  have oc : ∀ x : PartT, ∀ u ∈ partE x, u.oneCell' = true := fun x u hu => by
    simp at hu
    rcases hu with rfl | rfl | rfl <;> rfl
  -- one of the two, or both, are there
  refine ⟨fun _ W' => W' = W ∧ ¬ (a = [] ∧ b = []), brD (fun hp => ⟨rfl, fun hh => by rw [hh.1] at hp; simp at hp⟩) (fun hp => brD (fun hq => ⟨rfl, fun hh => by rw [hh.2] at hq; simp at hq⟩) (fun hq => ?_)), ?_⟩
  · have e1 : a = [] := List.eq_nil_of_length_eq_zero (by omega)
    have e2 : b = [] := List.eq_nil_of_length_eq_zero (by omega)
    subst e1 e2
    rw [vadd_nil] at hg
    simp at hg
    exact leaflb h hA ho (by rw [← hg]; rfl) (by rw [← hg]; rfl)
  rintro _ ⟨rfl, hne⟩
  -- is the first of a the next?
  refine ⟨fun s W' => At w [] W' ∧ OwnL w [] W' 66 3 partE (.slice a15 out.length n17) out ∧ (s.1 = true ↔ ∃ p r, a = p :: r ∧ (b = [] ∨ ∃ q t, b = q :: t ∧ slt p q)), ?_, ?_⟩
  · refine ⟨fun he => go_below0_too hA fun _ hA hb => ⟨hA, ho.call hb, ⟨fun _ => ?_, fun _ => rfl⟩⟩, fun he => brD (fun hp => ?_) (fun hp => go_below0_too hA fun _ hA hb => ⟨hA, ho.call hb, ⟨fun h => (by cases h), fun ⟨p, r, h, _⟩ => ?_⟩⟩)⟩
    · have e2 : b = [] := List.eq_nil_of_length_eq_zero (by simpa using he)
      cases a with
      | nil => exact absurd ⟨rfl, e2⟩ hne
      | cons p r => exact ⟨p, r, rfl, .inl e2⟩
    · obtain ⟨p, r, rfl⟩ : ∃ p r, a = p :: r := by
        cases a with
        | nil => simp at hp
        | cons p r => exact ⟨p, r, rfl⟩
      obtain ⟨q, t, rfl⟩ : ∃ p r, b = p :: r := by
        cases b with
        | nil => simp at he
        | cons p r => exact ⟨p, r, rfl⟩
      obtain ⟨ad, g1, r1, _⟩ := rdh hA rfl ha
      obtain ⟨ad2, g2, r2, e2⟩ := rdh hA rfl hb
      refine ⟨_, g1, _, _, _, r1, _, g2, _, _, _, r2, go_below0_too hA fun w31 hA hb31 => ?_⟩
      refine at_callb hA (c65 _ _ _ _) (fun w33 hA hk hb33 => ⟨_, _, rfl, fun W hW => r2 W (Below_tr hb31 (Below_tr hb33 hW)), ?_⟩)
      refine at_callb hA (c65 _ _ _ _) (fun w37 hA hk hb37 => ⟨_, _, rfl, ?_⟩)
      refine at_callb hA (c91 _ _ _ _ _) (fun w41 hA hk hb41 => ⟨_, rfl, hA, (((ho.call hb31).call hb33).call hb37).call hb41, ?_⟩)
      simp only [decide_eq_true_eq, slotC_lt]
      exact ⟨fun h => ⟨p, r, rfl, .inr ⟨q, t, rfl, h⟩⟩, fun ⟨p', r', h1, h2⟩ => by
        cases h1
        rcases h2 with h2 | ⟨q', t', h2, h3⟩
        · cases h2
        · cases h2; exact h3⟩
    · rw [h] at hp
      simp at hp
  rintro b44 W2 ⟨hA2, ho2, hfa⟩
  simp only at hfa
  have hlen1 : l1.length + l2.length ≤ 2000000 := by omega
  have push : ∀ {W : World} {gs : List Nat} (x : PartT), At w gs W → OwnL w gs W 66 3 partE (.slice a15 out.length n17) out → ∀ {K : Option Addr → Nat → Nat → World → Prop}, (a ≠ [] ∨ b ≠ []) →
      (∀ a' c' w2, At w gs w2 → OwnL w gs w2 66 3 partE (.slice a' (out ++ [x]).length c') (out ++ [x]) → W.grownBy w2 (Value.slice a15 out.length n17).ownBlock → ((Value.slice a' (out ++ [x]).length c').ownBlock = (Value.slice a15 out.length n17).ownBlock ∨ ∀ k, (Value.slice a' (out ++ [x]).length c').ownBlock = some k → W.heap.size ≤ k) → K a' (out ++ [x]).length c' w2) →
      OpW Try.prog (valueS (Instr.buildSlice 33 1 #[(0, partV x)])) W fun v w1 => ∃ a1 n1 c1, v = .slice a1 n1 c1 ∧ OpW Try.prog (builtin .append #[33, 33] 33 #[false, false] #[.slice a15 out.length n17, .slice a1 n1 c1]) w1 fun v w2 => ∃ a2 n2 c2, v = .slice a2 n2 c2 ∧ K a2 n2 c2 w2 := by
    intro W gs x hA ho K hab h
    refine opw_push0 (e' := 66) (bytes := 24) hA ho x (by kernel_rfl) (by kernel_rfl) rfl (fun y _ => rfl) (oc x) ?_ (by decide) h
    have : 0 < a.length + b.length := by
      rcases hab with h | h
      · have := List.length_pos_iff.2 h; omega
      · have := List.length_pos_iff.2 h; omega
    omega
  refine brB (fun hb44 => ?_) (fun hb44 => ?_)
  · obtain ⟨p, r, rfl, hq⟩ := hfa.1 hb44
    obtain ⟨ad, g1, r1, _⟩ := rdh hA2 rfl ha
    obtain ⟨a', g2, s2⟩ := rest rfl ha
    refine ⟨_, g1, _, _, _, r1, _, _, _, g2, go_below0_too hA2 fun w53 hA hb53 => ?_⟩
    refine push p hA (ho2.call hb53) (.inl (by simp)) fun a2 c2 w60 hA ho _ _ => ⟨⟨hA, r, b, out ++ [p], s2, hb, ho, by simp at hlen ⊢; omega, fun x hx => hpa x (List.mem_cons_of_mem _ hx), hpb, ?_⟩, by simp only [List.length_cons]; omega⟩
    rw [← hg]
    rcases hq with rfl | ⟨q, t, rfl, hlt⟩
    · rw [vadd_nil', vadd_nil']
      simp
    · rw [vadd_lt hlt, map_append]
  have hna : ∀ p r, a = p :: r → ∃ q t, b = q :: t ∧ ¬ slt p q := by
    intro p r hap
    cases hbq : b with
    | nil => exact absurd (hfa.2 ⟨p, r, hap, .inl hbq⟩) (by rw [hb44]; decide)
    | cons q t => exact ⟨q, t, rfl, fun hlt => absurd (hfa.2 ⟨p, r, hap, .inr ⟨q, t, hbq, hlt⟩⟩) (by rw [hb44]; decide)⟩
  refine ⟨fun s W' => At w [] W' ∧ OwnL w [] W' 66 3 partE (.slice a15 out.length n17) out ∧ (s.1 = true ↔ ∃ q t, b = q :: t ∧ (a = [] ∨ ∃ p r, a = p :: r ∧ slt q p)), ?_, ?_⟩
  · refine ⟨fun he => go_below0_too hA2 fun _ hA hb => ⟨hA, ho2.call hb, ⟨fun _ => ?_, fun _ => rfl⟩⟩, fun he => ?_⟩
    · have e1 : a = [] := List.eq_nil_of_length_eq_zero (by simpa using he)
      cases b with
      | nil => exact absurd ⟨e1, rfl⟩ hne
      | cons q t => exact ⟨q, t, rfl, .inl e1⟩
    · obtain ⟨p, r, rfl⟩ : ∃ p r, a = p :: r := by
        cases a with
        | nil => simp at he
        | cons p r => exact ⟨p, r, rfl⟩
      obtain ⟨q, t, rfl, hnl⟩ := hna p r rfl
      obtain ⟨ad, g1, r1, _⟩ := rdh hA2 rfl ha
      obtain ⟨ad2, g2, r2, e2⟩ := rdh hA2 rfl hb
      refine ⟨_, g1, _, _, _, r1, _, g2, _, _, _, r2, go_below0_too hA2 fun w31 hA hb31 => ?_⟩
      refine at_callb hA (c65 _ _ _ _) (fun w33 hA hk hb33 => ⟨_, _, rfl, fun W hW => r2 W (Below_tr hb31 (Below_tr hb33 hW)), ?_⟩)
      refine at_callb hA (c65 _ _ _ _) (fun w37 hA hk hb37 => ⟨_, _, rfl, ?_⟩)
      refine at_callb hA (c91 _ _ _ _ _) (fun w41 hA hk hb41 => ⟨_, rfl, hA, (((ho2.call hb31).call hb33).call hb37).call hb41, ?_⟩)
      simp only [decide_eq_true_eq, slotC_gt]
      exact ⟨fun h => ⟨q, t, rfl, .inr ⟨p, r, rfl, h⟩⟩, fun ⟨q', t', h1, h2⟩ => by
        cases h1
        rcases h2 with h2 | ⟨p', r', h2, h3⟩
        · cases h2
        · cases h2; exact h3⟩
  rintro b86 W3 ⟨hA3, ho3, hfb⟩
  simp only at hfb
  refine brB (fun hb86 => ?_) (fun hb86 => ?_)
  · obtain ⟨q, t, rfl, hq⟩ := hfb.1 hb86
    obtain ⟨ad, g1, r1, _⟩ := rdh hA3 rfl hb
    obtain ⟨a', g2, s2⟩ := rest rfl hb
    refine ⟨_, g1, _, _, _, r1, _, _, _, g2, go_below0_too hA3 fun w53 hA hb53 => ?_⟩
    refine push q hA (ho3.call hb53) (.inr (by simp)) fun a2 c2 w60 hA ho _ _ => ⟨⟨hA, a, t, out ++ [q], ha, s2, ho, by simp at hlen ⊢; omega, hpa, fun x hx => hpb x (List.mem_cons_of_mem _ hx), ?_⟩, by simp only [List.length_cons]; omega⟩
    rw [← hg]
    rcases hq with rfl | ⟨p, r, rfl, hlt⟩
    · rw [vadd_nil, vadd_nil]
      simp
    · obtain ⟨q', t', h1, h2⟩ := hna p r rfl
      cases h1
      rw [vadd_gt h2 hlt, map_append]
  obtain ⟨p, r, rfl⟩ : ∃ p r, a = p :: r := by
    cases a with
    | nil =>
      cases b with
      | nil => exact absurd ⟨rfl, rfl⟩ hne
      | cons q t => exact absurd (hfb.2 ⟨q, t, rfl, .inl rfl⟩) (by rw [hb86]; decide)
    | cons p r => exact ⟨p, r, rfl⟩
  obtain ⟨q, t, rfl, hn1⟩ := hna p r rfl
  have hn2 : ¬ slt q p := fun hlt => absurd (hfb.2 ⟨q, t, rfl, .inr ⟨p, r, rfl, hlt⟩⟩) (by rw [hb86]; decide)
  rw [vadd_eq hn1 hn2] at hg
  have bp := (hpa p (List.mem_cons_self ..)).2
  have bq := (hpb q (List.mem_cons_self ..)).2
  obtain ⟨ad, g1, r1, _⟩ := rdh hA3 rfl ha
  obtain ⟨ad2, g2, r2, e2⟩ := rdh hA3 rfl hb
  refine ⟨_, g1, _, _, _, r1, fun n110 hn110 => ⟨_, g2, _, (e2.sub (o := 2) (by decide)).one (by kernel_rfl) (e2.far (by intro d hd; simp at hd; omega)), ?_⟩⟩
  have hsz := hA3.size
  refine go_evo_too hA3 (by intro d hd; simp at hd; omega) fun w113 hA hev => ?_
  have ho113 := (ho3.more (gs' := [n110]) (by intro g h1 h2; simp at h1; omega)).evo (by intro d hd h2; simp at hd h2; omega) hev
  refine at_callb hA (c98 p.2.2 q.2.2 9007199254740992 (by unfold I64; omega) (by unfold I64; omega) (by unfold I64; omega) _) (fun w115 hA hk hb115 => ?_)
  rw [qsum2 (by omega) (by omega)]
  by_cases hfit : p.2.2 + q.2.2 ≤ 9007199254740992
  · rw [if_pos hfit] at hg ⊢
    refine ⟨_, _, rfl, hk, ⟨fun hf => by simp at hf, fun _ => ?_⟩⟩
    obtain ⟨a', g3, s3⟩ := rest rfl ha
    obtain ⟨b', g4, s4⟩ := rest rfl hb
    refine ⟨_, _, _, g3, _, _, _, g4, ?_⟩
    have hsz := hA.size
    refine go_evo_too hA (by intro d hd; simp at hd; omega) fun w124 hA hev => ?_
    have ho124 := (ho113.call hb115).evo (by intro d hd h2; simp at hd h2; omega) hev
    refine opw_push (e' := 66) (bytes := 24) hA ho124 (p.1, p.2.1, p.2.2 + q.2.2) (by kernel_rfl) (by kernel_rfl) rfl (fun y _ => rfl) (oc _) (by simp at hlen; omega) (by decide) fun a2 c2 w131 hA ho _ _ => ⟨⟨hA.off, r, t, out ++ [(p.1, p.2.1, p.2.2 + q.2.2)], s3, s4, ho.more (by intro g h1 h2; simp at h1), by simp at hlen ⊢; omega, fun x hx => hpa x (List.mem_cons_of_mem _ hx), fun x hx => hpb x (List.mem_cons_of_mem _ hx), ?_⟩, by simp only [List.length_cons]; omega⟩
    rw [← hg, map_append]
  · rw [if_neg hfit] at hg ⊢
    refine ⟨_, _, rfl, hk, ⟨fun _ => ?_, fun hf => by simp at hf⟩⟩
    have : vadd l1 l2 = none := by rw [← hg]; rfl
    exact leaflb h hA OwnL.nil (by rw [this]; rfl) (by rw [this]; rfl)
theorem c102e {l1 l2 : List PartT} {aa ba : Option Addr} {an ac bn bc : Nat} (w : World) (h1 : SlE w 3 partE l1 aa an ac) (h2 : SlE w 3 partE l2 ba bn bc) :
    RetLB Try.prog 84 #[.slice aa an ac, .slice ba bn bc] w 66 3 partE (if vecB l1 = true ∧ vecB l2 = true then vout (vadd l1 l2) else []) (decide (vecB l1 = true ∧ vecB l2 = true) && (vadd l1 l2).isSome) := by
  by_cases hv : vecB l1 = true ∧ vecB l2 = true
  · exact c84 w h1 h2 (by have := vec_len' hv.1; omega) (by have := vec_len' hv.2; omega)
  · intro R h
    refine f84_calls aa an ac ba bn bc w R ?_
    unfold f84_vc
    have hA := At.refl w
    refine at_call hA (c63 _ h1) fun _ hA hk => ⟨_, rfl, ?_⟩
    refine brNB (fun hn => leaflb h hA OwnL.nil (by rw [if_neg (by rw [hn]; simp)]) (by rw [hn]; rfl)) (fun hv1 => ?_)
    refine at_call hA (c63 _ (h2.call hA.below)) fun _ hA hk => ⟨_, rfl, ?_⟩
    exact brNB (fun hn => leaflb h hA OwnL.nil (by rw [if_neg (by rw [hn]; simp)]) (by rw [hn]; simp)) (fun hv2 => absurd ⟨hv1, hv2⟩ hv)
end Go.Vc.W

/- Own text of this claim: X5. -/
set_option maxRecDepth 20000
namespace Go.Vc.W
open Go Go.Vc Go.Vc.V Go.RowKit Go.Proofs Vcw Vcxa

def sumA (a0 a1 a2 a3 b0 b1 b2 b3 : Int) : Value := if sumR a0 a1 a2 a3 ∧ sumR b0 b1 b2 b3 ∧ sumR (a0 + b0) (a1 + b1) (a2 + b2) (a3 + b3) then pairA (a0 + b0) (a1 + b1) (a2 + b2) (a3 + b3) true else pairA 0 0 0 0 false

theorem c77 (a0 a1 a2 a3 b0 b1 b2 b3 : Int) (w : World) : Ret Try.prog 77 #[arrV a0 a1 a2 a3, arrV b0 b1 b2 b3] w (sumA a0 a1 a2 a3 b0 b1 b2 b3) := by
  intro R h
  refine f77_calls a0 a1 a2 a3 b0 b1 b2 b3 w R ?_
  unfold f77_vc
  have hA := At.refl w
  refine go_n hA fun n1 h_n1 => ?_
  refine go_n hA fun n2 h_n2 => ?_
  refine go_n hA fun n3 h_n3 => ?_
  refine go_below hA fun _ hA => ?_
  refine at_call hA (c74 _ _ _ _ _) (fun _ hA hk => ⟨_, rfl, hk, ?_⟩)
  refine brND (fun hr => go_evo hA (by intro d hd; simp at hd; omega) fun _ hA => leaf h hA (by rw [sumA, if_neg (fun hh => hr hh.1)])) (fun ha => ?_)
  refine at_call hA (c74 _ _ _ _ _) (fun _ hA hk => ⟨_, rfl, hk, ?_⟩)
  refine brND (fun hr => go_evo hA (by intro d hd; simp at hd; omega) fun _ hA => leaf h hA (by rw [sumA, if_neg (fun hh => hr hh.2.1)])) (fun hb => ?_)
  have ha' := ha
  have hb' := hb
  unfold sumR at ha' hb'
  rw [wrap_i64 (x := a0 + b0) (by omega) (by omega), wrap_i64 (x := a1 + b1) (by omega) (by omega), wrap_i64 (x := a2 + b2) (by omega) (by omega), wrap_i64 (x := a3 + b3) (by omega) (by omega)]
  refine go_evo hA (by intro d hd; simp at hd; omega) fun _ hA => ?_
  refine at_call hA (c74 _ _ _ _ _) (fun _ hA hk => ⟨_, rfl, hk, ?_⟩)
  exact brND (fun hr => go_evo hA (by intro d hd; simp at hd; omega) fun _ hA => leaf h hA (by rw [sumA, if_neg (fun hh => hr hh.2.2)])) (fun hc => go_evo hA (by intro d hd; simp at hd; omega) fun _ hA => leaf h hA (by rw [sumA, if_pos ⟨ha, hb, hc⟩]))


theorem gives_slice_arr0 {t e : TypeId} {n m : Nat} {ad : Addr} (ht : Try.prog.underlying t = some (.array m e)) (hs : pureRun Try.prog (sizeOf e) = some n) : Gives Try.prog (Instr.sliceAt t (.pointer (some ad)) none none none) (.slice (some ad) m m) := by
  intro W
  have he : Try.prog.elem t = e := by simp [Program.elem, ht]
  have hl : Try.prog.arrayLen t = m := by simp [Program.arrayLen, ht]
  have hh := run_sliceAt_array_all (P := Try.prog) W t ad (by rw [he, hl]; exact ht)
  rw [hh, he, pureRun_run hs W, hl]
  have h0 : ad.add 0 = ad := by unfold Addr.add; simp
  simp only [Result.andThen, slicedAt, Nat.sub_zero, Nat.zero_mul, h0, ite_self]
abbrev intE (x : Int) : List Value := [.int .i64 x]
def maxG (a : Int) (l : List Int) : Int := l.foldl (fun a x => if x > a then x else a) a
theorem c78 {x0 : Int} {l : List Int} {a : Option Addr} {n c : Nat} (w : World) (hs : SlE w 1 intE (x0 :: l) a n c) : Ret Try.prog 78 #[.slice a n c] w (.int .i64 (maxG x0 l)) := by
  intro R hR
  refine f78_calls a n c w R ?_
  unfold f78_vc
  have hn := hs.len_le
  have e1 : n = l.length + 1 := hs.1
  refine brD (fun h => by omega) (fun _ => ?_)
  obtain ⟨ad, g1, el, _⟩ := elt_at (P := Try.prog) (k := .i64) (t := 43) hs (i := 0) (x := x0) rfl (e := 2) (by kernel_rfl) (by kernel_rfl)
  refine ⟨ad, g1, _, el.one (by kernel_rfl) (by simp), fun v W' => At w [] W' ∧ ∃ i : Nat, v.2.1 = ((i + 1 : Nat) : Int) ∧ i ≤ l.length ∧ v.1 = maxG x0 (l.take i), fun v _ => (n - v.2.1).toNat, ⟨At.refl w, 0, rfl, Nat.zero_le _, rfl⟩, ?_⟩
  rintro x16 x17 w18 ⟨hA, i, hi, hil, hx⟩
  simp only at hi hx
  subst hi
  refine brD (fun hlt => ?_) (fun hge => ?_)
  · obtain ⟨y, hy⟩ : ∃ y, l[i]? = some y := ⟨_, List.getElem?_eq_getElem (by omega)⟩
    obtain ⟨ad, g1, el, _⟩ := elt_at (P := Try.prog) (k := .i64) (t := 43) (hs.call hA.below) (i := i + 1) (x := y) (by simpa using hy) (e := 2) (by kernel_rfl) (by kernel_rfl)
    rw [succ_i (i + 1) (by omega)]
    refine ⟨ad, g1, _, el.one (by kernel_rfl) (by simp), ⟨hA, i + 1, rfl, by omega, ?_⟩, by simp only; omega⟩
    simp only
    unfold maxG at *
    rw [List.take_add_one, hy, List.foldl_append, ← hx]
    rfl
  · have : i = l.length := by omega
    rw [hx, this, List.take_length]
    exact leaf hR hA rfl
end Go.Vc.W

/- The formulas of functions, printed by a program (VcTool.lean): each is what the generator's formula comes to, by the kernel's reckoning; whoever proves one has the function's contract. -/
set_option maxRecDepth 100000
set_option maxHeartbeats 1000000
set_option linter.unusedVariables false
namespace Vcxa
open Go Go.Vc Go.RowKit
/-! manciple/manciplelaw17.ViewGrows -/
def h5 : Hints := ⟨[3], [85, 94, 118, 124, 135], [32, 60, 68, 70, 104, 109, 143, 21, 27, 46, 52, 78, 81, 90, 98, 114, 129, 148, 154, 162], [(4, [0, 1, 2, 4, 5, 6, 3, 7, 8, 9]), (18, [0, 1, 2, 3, 4, 5, 6, 7, 8, 9, 10, 11, 12, 13, 14, 15, 16, 17, 18, 19, 20, 21, 22, 23, 24, 25, 26, 27, 28, 29, 30, 31])], [], [(11, ⟨[(12, .int .i64)], []⟩), (16, ⟨[(13, .int .i64)], []⟩)], [(7, ⟨[], []⟩), (6, ⟨[(60, .bool)], []⟩), (12, ⟨[], []⟩), (14, ⟨[(104, .bool)], []⟩), (17, ⟨[], []⟩), (19, ⟨[(143, .bool)], []⟩)], [], []⟩
def f5_vc (b_0 : Int) (b_1 : Int) (b_2 : Int) (b_3 : Int) (b_4 : Int) (b_5 : Int) (b_6 : Int) (b_7 : Int) (b_8 : Int) (b_9 : Int) (b_10 : Int) (b_11a : Option Addr) (b_11n : Nat) (b_11c : Nat) (b_12a : Option Addr) (b_12n : Nat) (b_12c : Nat) (b_13a : Option Addr) (b_13n : Nat) (b_13c : Nat) (b_14a : Option Addr) (b_14n : Nat) (b_14c : Nat) (b_15a : Option Addr) (b_15n : Nat) (b_15c : Nat) (frame : Int) (agent : Int) (w : World) (R : Ending → World → Prop) : Prop :=
 ∀ (n1 : Nat),
 w.heap.size ≤ n1 →
 ∀ (w2 : World),
 Bel w w2 →
 Under [n1] w2 →
 Calls Proofs.Try.prog 24
 #[Value.agg
 #[Value.int IntKind.i64 b_0, Value.int IntKind.i64 b_1, Value.int IntKind.i64 b_2, Value.int IntKind.i64 b_3, Value.int IntKind.i64 b_4, Value.int IntKind.i64 b_5, Value.int IntKind.i64 b_6, Value.int IntKind.i64 b_7,
 Value.int IntKind.i64 b_8, Value.int IntKind.i64 b_9, Value.int IntKind.i64 b_10, Value.slice b_11a b_11n b_11c, Value.slice b_12a b_12n b_12c, Value.slice b_13a b_13n b_13c, Value.slice b_14a b_14n b_14c,
 Value.slice b_15a b_15n b_15c]]
 w2 fun (e3 : Ending) (w4 : World) =>
 ∃ (x5 : Int),
 ∃ (b6 : Bool),
 e3 = Ending.returned (Value.tuple #[Value.int IntKind.i64 x5, Value.bool b6]) ∧
 Keeps [n1] w2 w4 ∧
 ((!b6) = true → Calls Proofs.Try.prog 8 #[] w4 fun (e7 : Ending) (w8 : World) => ∃ (b9 : Bool), e7 = Ending.returned (Value.bool b9) ∧ Keeps [n1] w4 w8 ∧ R (Ending.returned (Value.bool b9)) w8) ∧
 ((!b6) = false →
 (decide ((↑b_15n : Int) > 100) = true →
 Calls Proofs.Try.prog 8 #[] w4 fun (e10 : Ending) (w11 : World) => ∃ (b12 : Bool), e10 = Ending.returned (Value.bool b12) ∧ Keeps [n1] w4 w11 ∧ R (Ending.returned (Value.bool b12)) w11) ∧
 (decide ((↑b_15n : Int) > 100) = false →
 (decide ((↑b_11n : Int) > 60) = true →
 Calls Proofs.Try.prog 8 #[] w4 fun (e13 : Ending) (w14 : World) => ∃ (b15 : Bool), e13 = Ending.returned (Value.bool b15) ∧ Keeps [n1] w4 w14 ∧ R (Ending.returned (Value.bool b15)) w14) ∧
 (decide ((↑b_11n : Int) > 60) = false →
 ∀ (w16 : World),
 Bel w4 w16 →
 Under [n1] w16 →
 Calls Proofs.Try.prog 11
 #[Value.agg
 #[Value.int IntKind.i64 b_0, Value.int IntKind.i64 b_1, Value.int IntKind.i64 b_2, Value.int IntKind.i64 b_3, Value.int IntKind.i64 b_4, Value.int IntKind.i64 b_5, Value.int IntKind.i64 b_6,
 Value.int IntKind.i64 b_7, Value.int IntKind.i64 b_8, Value.int IntKind.i64 b_9, Value.int IntKind.i64 b_10, Value.slice b_11a b_11n b_11c, Value.slice b_12a b_12n b_12c,
 Value.slice b_13a b_13n b_13c, Value.slice b_14a b_14n b_14c, Value.slice b_15a b_15n b_15c],
 Value.int IntKind.i64 frame, Value.int IntKind.i64 agent, Value.int IntKind.i64 1]
 w16 fun (e17 : Ending) (w18 : World) =>
 ∃ (a19 : Option Addr),
 ∃ (n20 : Nat),
 ∃ (n21 : Nat),
 e17 = Ending.returned (Value.slice a19 n20 n21) ∧
 Keeps [n1] w16 w18 ∧
 Calls Proofs.Try.prog 11
 #[Value.agg
 #[Value.int IntKind.i64 b_0, Value.int IntKind.i64 b_1, Value.int IntKind.i64 b_2, Value.int IntKind.i64 b_3, Value.int IntKind.i64 b_4, Value.int IntKind.i64 b_5,
 Value.int IntKind.i64 b_6, Value.int IntKind.i64 b_7, Value.int IntKind.i64 b_8, Value.int IntKind.i64 b_9, Value.int IntKind.i64 b_10, Value.slice b_11a b_11n b_11c,
 Value.slice b_12a b_12n b_12c, Value.slice b_13a b_13n b_13c, Value.slice b_14a b_14n b_14c, Value.slice b_15a b_15n b_15c],
 Value.int IntKind.i64 frame, Value.int IntKind.i64 agent, Value.int IntKind.i64 2]
 w18 fun (e22 : Ending) (w23 : World) =>
 ∃ (a24 : Option Addr),
 ∃ (n25 : Nat),
 ∃ (n26 : Nat),
 e22 = Ending.returned (Value.slice a24 n25 n26) ∧
 Keeps [n1] w18 w23 ∧
 ∃ (J27 : Unit → World → Prop),
 (∃ (J28 : Bool × Unit → World → Prop),
 (Calls Proofs.Try.prog 25 #[Value.slice a24 n25 n26, Value.slice a19 n20 n21] w23 fun (e29 : Ending) (w30 : World) =>
 ∃ (b31 : Bool),
 e29 = Ending.returned (Value.bool b31) ∧
 Keeps [n1] w23 w30 ∧
 ((!b31) = true → J28 (true, ()) w30) ∧
 ((!b31) = false →
 Calls Proofs.Try.prog 12
 #[Value.agg
 #[Value.int IntKind.i64 b_0, Value.int IntKind.i64 b_1, Value.int IntKind.i64 b_2, Value.int IntKind.i64 b_3, Value.int IntKind.i64 b_4,
 Value.int IntKind.i64 b_5, Value.int IntKind.i64 b_6, Value.int IntKind.i64 b_7, Value.int IntKind.i64 b_8, Value.int IntKind.i64 b_9,
 Value.int IntKind.i64 b_10, Value.slice b_11a b_11n b_11c, Value.slice b_12a b_12n b_12c, Value.slice b_13a b_13n b_13c,
 Value.slice b_14a b_14n b_14c, Value.slice b_15a b_15n b_15c],
 Value.int IntKind.i64 frame, Value.int IntKind.i64 agent, Value.slice a24 n25 n26]
 w30 fun (e32 : Ending) (w33 : World) =>
 ∃ (b34 : Bool),
 e32 = Ending.returned (Value.bool b34) ∧
 Keeps [n1] w30 w33 ∧
 (b34 = true →
 Calls Proofs.Try.prog 12
 #[Value.agg
 #[Value.int IntKind.i64 b_0, Value.int IntKind.i64 b_1, Value.int IntKind.i64 b_2, Value.int IntKind.i64 b_3, Value.int IntKind.i64 b_4,
 Value.int IntKind.i64 b_5, Value.int IntKind.i64 b_6, Value.int IntKind.i64 b_7, Value.int IntKind.i64 b_8, Value.int IntKind.i64 b_9,
 Value.int IntKind.i64 b_10, Value.slice b_11a b_11n b_11c, Value.slice b_12a b_12n b_12c, Value.slice b_13a b_13n b_13c,
 Value.slice b_14a b_14n b_14c, Value.slice b_15a b_15n b_15c],
 Value.int IntKind.i64 frame, Value.int IntKind.i64 agent, Value.slice a19 n20 n21]
 w33 fun (e35 : Ending) (w36 : World) => ∃ (b37 : Bool), e35 = Ending.returned (Value.bool b37) ∧ Keeps [n1] w33 w36 ∧ J28 (!b37, ()) w36) ∧
 (b34 = false → J28 (false, ()) w33))) ∧
 ∀ (b38 : Bool) (w39 : World), J28 (b38, ()) w39 → (b38 = true → R (Ending.returned (Value.bool false)) w39) ∧ (b38 = false → J27 () w39)) ∧
 ∀ (w40 : World),
 J27 () w40 →
 Calls Proofs.Try.prog 26
 #[Value.agg
 #[Value.int IntKind.i64 b_0, Value.int IntKind.i64 b_1, Value.int IntKind.i64 b_2, Value.int IntKind.i64 b_3, Value.int IntKind.i64 b_4, Value.int IntKind.i64 b_5,
 Value.int IntKind.i64 b_6, Value.int IntKind.i64 b_7, Value.int IntKind.i64 b_8, Value.int IntKind.i64 b_9, Value.int IntKind.i64 b_10,
 Value.slice b_11a b_11n b_11c, Value.slice b_12a b_12n b_12c, Value.slice b_13a b_13n b_13c, Value.slice b_14a b_14n b_14c, Value.slice b_15a b_15n b_15c],
 Value.int IntKind.i64 frame]
 w40 fun (e41 : Ending) (w42 : World) =>
 ∃ (x43 : Int),
 e41 = Ending.returned (Value.int IntKind.i64 x43) ∧
 Keeps [n1] w40 w42 ∧
 (decide (x43 ≥ (↑b_11n : Int)) = true → R (Ending.returned (Value.bool false)) w42) ∧
 (decide (x43 ≥ (↑b_11n : Int)) = false →
 ∃ (J44 : Int × Unit → World → Prop),
 ∃ (J45 : Int × Unit → World → Nat),
 J44 (1, ()) w42 ∧
 ∀ (x46 : Int) (w47 : World),
 J44 (x46, ()) w47 →
 (decide (x46 ≤ 2) = true →
 ∃ (J48 : Unit → World → Prop),
 (∃ (J49 : Bool × Unit → World → Prop),
 (Calls Proofs.Try.prog 20
 #[Value.agg
 #[Value.int IntKind.i64 b_0, Value.int IntKind.i64 b_1, Value.int IntKind.i64 b_2, Value.int IntKind.i64 b_3,
 Value.int IntKind.i64 b_4, Value.int IntKind.i64 b_5, Value.int IntKind.i64 b_6, Value.int IntKind.i64 b_7,
 Value.int IntKind.i64 b_8, Value.int IntKind.i64 b_9, Value.int IntKind.i64 b_10, Value.slice b_11a b_11n b_11c,
 Value.slice b_12a b_12n b_12c, Value.slice b_13a b_13n b_13c, Value.slice b_14a b_14n b_14c, Value.slice b_15a b_15n b_15c],
 Value.int IntKind.i64 frame, Value.int IntKind.i64 agent, Value.int IntKind.i64 x46]
 w47 fun (e50 : Ending) (w51 : World) =>
 ∃ (b52 : Bool),
 e50 = Ending.returned (Value.bool b52) ∧
 Keeps [n1] w47 w51 ∧
 (b52 = true →
 (decide (x43 < 0) = true → J49 (true, ()) w51) ∧
 (decide (x43 < 0) = false →
 ∃ (ad53 : Addr),
 Gives Proofs.Try.prog (Instr.indexAt 25 (Value.slice b_11a b_11n b_11c) (Value.int IntKind.i64 x43))
 (Value.pointer (some ad53)) ∧
 ∃ (b54 : Bool),
 Reads Proofs.Try.prog [] (Instr.loadAt 4 (Value.pointer (some (Addr.mk ad53.block (ad53.off + 3) none)))) w51
 (Value.bool b54) ∧
 ((!b54) = true → J49 (true, ()) w51) ∧
 ((!b54) = false →
 ∃ (ad55 : Addr),
 Gives Proofs.Try.prog (Instr.indexAt 25 (Value.slice b_11a b_11n b_11c) (Value.int IntKind.i64 x43))
 (Value.pointer (some ad55)) ∧
 ∃ (b56 : Bool),
 Reads Proofs.Try.prog []
 (Instr.loadAt 4 (Value.pointer (some (Addr.mk ad55.block (ad55.off + 4) none)))) w51
 (Value.bool b56) ∧
 (b56 = true → J49 (true, ()) w51) ∧
 (b56 = false →
 Calls Proofs.Try.prog 27
 #[Value.agg
 #[Value.int IntKind.i64 b_0, Value.int IntKind.i64 b_1, Value.int IntKind.i64 b_2,
 Value.int IntKind.i64 b_3, Value.int IntKind.i64 b_4, Value.int IntKind.i64 b_5,
 Value.int IntKind.i64 b_6, Value.int IntKind.i64 b_7, Value.int IntKind.i64 b_8,
 Value.int IntKind.i64 b_9, Value.int IntKind.i64 b_10, Value.slice b_11a b_11n b_11c,
 Value.slice b_12a b_12n b_12c, Value.slice b_13a b_13n b_13c,
 Value.slice b_14a b_14n b_14c, Value.slice b_15a b_15n b_15c],
 Value.int IntKind.i64 agent]
 w51 fun (e57 : Ending) (w58 : World) =>
 ∃ (x59 : Int),
 e57 = Ending.returned (Value.int IntKind.i64 x59) ∧
 Keeps [n1] w51 w58 ∧ J49 (decide (x59 < 0), ()) w58)))) ∧
 (b52 = false → J49 (false, ()) w51)) ∧
 ∀ (b60 : Bool) (w61 : World),
 J49 (b60, ()) w61 → (b60 = true → R (Ending.returned (Value.bool false)) w61) ∧ (b60 = false → J48 () w61)) ∧
 ∀ (w62 : World), J48 () w62 → J44 (IntKind.i64.wrap (x46 + 1), ()) w62 ∧ J45 (IntKind.i64.wrap (x46 + 1), ()) w62 < J45 (x46, ()) w47) ∧
 (decide (x46 ≤ 2) = false →
 ∃ (J63 : Int × Unit → World → Prop),
 ∃ (J64 : Int × Unit → World → Nat),
 J63 (0, ()) w47 ∧
 ∀ (x65 : Int) (w66 : World),
 J63 (x65, ()) w66 →
 (decide (x65 < (↑b_11n : Int)) = true →
 ∃ (J67 : Unit → World → Prop),
 (∃ (J68 : Bool × Unit → World → Prop),
 ((decide (x43 ≥ 0) = true →
 ∃ (ad69 : Addr),
 Gives Proofs.Try.prog (Instr.indexAt 25 (Value.slice b_11a b_11n b_11c) (Value.int IntKind.i64 x65))
 (Value.pointer (some ad69)) ∧
 ∃ (x70 : Int),
 Reads Proofs.Try.prog [] (Instr.loadAt 3 (Value.pointer (some (Addr.mk ad69.block (ad69.off + 1) none)))) w66
 (Value.int IntKind.i64 x70) ∧
 ∃ (ad71 : Addr),
 Gives Proofs.Try.prog (Instr.indexAt 25 (Value.slice b_11a b_11n b_11c) (Value.int IntKind.i64 x43))
 (Value.pointer (some ad71)) ∧
 ∃ (x72 : Int),
 Reads Proofs.Try.prog []
 (Instr.loadAt 3 (Value.pointer (some (Addr.mk ad71.block (ad71.off + 1) none)))) w66
 (Value.int IntKind.i64 x72) ∧
 ((x70 != x72) = true →
 ∃ (ad73 : Addr),
 Gives Proofs.Try.prog
 (Instr.indexAt 25 (Value.slice b_11a b_11n b_11c) (Value.int IntKind.i64 x65))
 (Value.pointer (some ad73)) ∧
 ∃ (x74 : Int),
 Reads Proofs.Try.prog [] (Instr.loadAt 2 (Value.pointer (some ad73))) w66
 (Value.int IntKind.i64 x74) ∧
 ∀ (w75 : World),
 Bel w66 w75 →
 Under [n1] w75 →
 Calls Proofs.Try.prog 11
 #[Value.agg
 #[Value.int IntKind.i64 b_0, Value.int IntKind.i64 b_1,
 Value.int IntKind.i64 b_2, Value.int IntKind.i64 b_3,
 Value.int IntKind.i64 b_4, Value.int IntKind.i64 b_5,
 Value.int IntKind.i64 b_6, Value.int IntKind.i64 b_7,
 Value.int IntKind.i64 b_8, Value.int IntKind.i64 b_9,
 Value.int IntKind.i64 b_10, Value.slice b_11a b_11n b_11c,
 Value.slice b_12a b_12n b_12c, Value.slice b_13a b_13n b_13c,
 Value.slice b_14a b_14n b_14c, Value.slice b_15a b_15n b_15c],
 Value.int IntKind.i64 x74, Value.int IntKind.i64 agent, Value.int IntKind.i64 1]
 w75 fun (e76 : Ending) (w77 : World) =>
 ∃ (a78 : Option Addr),
 ∃ (n79 : Nat),
 ∃ (n80 : Nat),
 e76 = Ending.returned (Value.slice a78 n79 n80) ∧
 Keeps [n1] w75 w77 ∧
 Reads Proofs.Try.prog []
 (Instr.loadAt 3
 (Value.pointer (some (Addr.mk ad71.block (ad71.off + 1) none))))
 w77 (Value.int IntKind.i64 x72) ∧
 Reads Proofs.Try.prog []
 (Instr.loadAt 3
 (Value.pointer (some (Addr.mk ad69.block (ad69.off + 1) none))))
 w77 (Value.int IntKind.i64 x70) ∧
 Calls Proofs.Try.prog 28
 #[Value.slice a19 n20 n21, Value.slice a78 n79 n80] w77
 fun (e81 : Ending) (w82 : World) =>
 ∃ (a83 : Option Addr),
 ∃ (n84 : Nat),
 ∃ (n85 : Nat),
 e81 = Ending.returned (Value.slice a83 n84 n85) ∧
 Keeps [n1] w77 w82 ∧
 Reads Proofs.Try.prog []
 (Instr.loadAt 3
 (Value.pointer
 (some
 (Addr.mk ad71.block (ad71.off + 1) none))))
 w82 (Value.int IntKind.i64 x72) ∧
 Reads Proofs.Try.prog []
 (Instr.loadAt 3
 (Value.pointer
 (some
 (Addr.mk ad69.block (ad69.off + 1) none))))
 w82 (Value.int IntKind.i64 x70) ∧
 J68 ((↑n84 : Int) != 0, ()) w82) ∧
 ((x70 != x72) = false → ∀ (w86 : World), Bel w66 w86 → Under [n1] w86 → J68 (false, ()) w86)) ∧
 (decide (x43 ≥ 0) = false → ∀ (w87 : World), Bel w66 w87 → Under [n1] w87 → J68 (false, ()) w87)) ∧
 ∀ (b88 : Bool) (w89 : World),
 J68 (b88, ()) w89 → (b88 = true → R (Ending.returned (Value.bool false)) w89) ∧ (b88 = false → J67 () w89)) ∧
 ∀ (w90 : World),
 J67 () w90 → J63 (IntKind.i64.wrap (x65 + 1), ()) w90 ∧ J64 (IntKind.i64.wrap (x65 + 1), ()) w90 < J64 (x65, ()) w66) ∧
 (decide (x65 < (↑b_11n : Int)) = false →
 Calls Proofs.Try.prog 22
 #[Value.agg
 #[Value.int IntKind.i64 b_0, Value.int IntKind.i64 b_1, Value.int IntKind.i64 b_2, Value.int IntKind.i64 b_3,
 Value.int IntKind.i64 b_4, Value.int IntKind.i64 b_5, Value.int IntKind.i64 b_6, Value.int IntKind.i64 b_7,
 Value.int IntKind.i64 b_8, Value.int IntKind.i64 b_9, Value.int IntKind.i64 b_10, Value.slice b_11a b_11n b_11c,
 Value.slice b_12a b_12n b_12c, Value.slice b_13a b_13n b_13c, Value.slice b_14a b_14n b_14c,
 Value.slice b_15a b_15n b_15c],
 Value.int IntKind.i64 agent]
 w66 fun (e91 : Ending) (w92 : World) =>
 ∃ (b93 : Bool),
 e91 = Ending.returned (Value.bool b93) ∧
 Keeps [n1] w66 w92 ∧
 ((!b93) = true →
 Calls Proofs.Try.prog 8 #[] w92 fun (e94 : Ending) (w95 : World) =>
 ∃ (b96 : Bool),
 e94 = Ending.returned (Value.bool b96) ∧ Keeps [n1] w92 w95 ∧ R (Ending.returned (Value.bool b96)) w95) ∧
 ((!b93) = false →
 Calls Proofs.Try.prog 20
 #[Value.agg
 #[Value.int IntKind.i64 b_0, Value.int IntKind.i64 b_1, Value.int IntKind.i64 b_2, Value.int IntKind.i64 b_3,
 Value.int IntKind.i64 b_4, Value.int IntKind.i64 b_5, Value.int IntKind.i64 b_6, Value.int IntKind.i64 b_7,
 Value.int IntKind.i64 b_8, Value.int IntKind.i64 b_9, Value.int IntKind.i64 b_10,
 Value.slice b_11a b_11n b_11c, Value.slice b_12a b_12n b_12c, Value.slice b_13a b_13n b_13c,
 Value.slice b_14a b_14n b_14c, Value.slice b_15a b_15n b_15c],
 Value.int IntKind.i64 frame, Value.int IntKind.i64 agent, Value.int IntKind.i64 1]
 w92 fun (e97 : Ending) (w98 : World) =>
 ∃ (b99 : Bool),
 e97 = Ending.returned (Value.bool b99) ∧
 Keeps [n1] w92 w98 ∧
 ((!b99) = true →
 Calls Proofs.Try.prog 20
 #[Value.agg
 #[Value.int IntKind.i64 b_0, Value.int IntKind.i64 b_1, Value.int IntKind.i64 b_2,
 Value.int IntKind.i64 b_3, Value.int IntKind.i64 b_4, Value.int IntKind.i64 b_5,
 Value.int IntKind.i64 b_6, Value.int IntKind.i64 b_7, Value.int IntKind.i64 b_8,
 Value.int IntKind.i64 b_9, Value.int IntKind.i64 b_10, Value.slice b_11a b_11n b_11c,
 Value.slice b_12a b_12n b_12c, Value.slice b_13a b_13n b_13c, Value.slice b_14a b_14n b_14c,
 Value.slice b_15a b_15n b_15c],
 Value.int IntKind.i64 frame, Value.int IntKind.i64 agent, Value.int IntKind.i64 2]
 w98 fun (e100 : Ending) (w101 : World) =>
 ∃ (b102 : Bool),
 e100 = Ending.returned (Value.bool b102) ∧
 Keeps [n1] w98 w101 ∧
 ((!b102) = true →
 Calls Proofs.Try.prog 8 #[] w101 fun (e103 : Ending) (w104 : World) =>
 ∃ (b105 : Bool),
 e103 = Ending.returned (Value.bool b105) ∧
 Keeps [n1] w101 w104 ∧ R (Ending.returned (Value.bool b105)) w104) ∧
 ((!b102) = false → R (Ending.returned (Value.bool false)) w101)) ∧
 ((!b99) = false → R (Ending.returned (Value.bool false)) w98))))))))
theorem f5_eq (b_0 : Int) (b_1 : Int) (b_2 : Int) (b_3 : Int) (b_4 : Int) (b_5 : Int) (b_6 : Int) (b_7 : Int) (b_8 : Int) (b_9 : Int) (b_10 : Int) (b_11a : Option Addr) (b_11n : Nat) (b_11c : Nat) (b_12a : Option Addr) (b_12n : Nat) (b_12c : Nat) (b_13a : Option Addr) (b_13n : Nat) (b_13c : Nat) (b_14a : Option Addr) (b_14n : Nat) (b_14c : Nat) (b_15a : Option Addr) (b_15n : Nat) (b_15c : Nat) (frame : Int) (agent : Int) (w : World) (R : Ending → World → Prop) : (fnF Go.Proofs.Try.prog h5 Go.Proofs.Try.f5 [Value.agg
 #[Value.int IntKind.i64 b_0, Value.int IntKind.i64 b_1, Value.int IntKind.i64 b_2, Value.int IntKind.i64 b_3, Value.int IntKind.i64 b_4, Value.int IntKind.i64 b_5, Value.int IntKind.i64 b_6, Value.int IntKind.i64 b_7,
 Value.int IntKind.i64 b_8, Value.int IntKind.i64 b_9, Value.int IntKind.i64 b_10, Value.slice b_11a b_11n b_11c, Value.slice b_12a b_12n b_12c, Value.slice b_13a b_13n b_13c, Value.slice b_14a b_14n b_14c,
 Value.slice b_15a b_15n b_15c],
 Value.int IntKind.i64 frame, Value.int IntKind.i64 agent] w R).den = f5_vc b_0 b_1 b_2 b_3 b_4 b_5 b_6 b_7 b_8 b_9 b_10 b_11a b_11n b_11c b_12a b_12n b_12c b_13a b_13n b_13c b_14a b_14n b_14c b_15a b_15n b_15c frame agent w R := by kernel_rfl
theorem f5_calls (b_0 : Int) (b_1 : Int) (b_2 : Int) (b_3 : Int) (b_4 : Int) (b_5 : Int) (b_6 : Int) (b_7 : Int) (b_8 : Int) (b_9 : Int) (b_10 : Int) (b_11a : Option Addr) (b_11n : Nat) (b_11c : Nat) (b_12a : Option Addr) (b_12n : Nat) (b_12c : Nat) (b_13a : Option Addr) (b_13n : Nat) (b_13c : Nat) (b_14a : Option Addr) (b_14n : Nat) (b_14c : Nat) (b_15a : Option Addr) (b_15n : Nat) (b_15c : Nat) (frame : Int) (agent : Int) (w : World) (R : Ending → World → Prop) (h : f5_vc b_0 b_1 b_2 b_3 b_4 b_5 b_6 b_7 b_8 b_9 b_10 b_11a b_11n b_11c b_12a b_12n b_12c b_13a b_13n b_13c b_14a b_14n b_14c b_15a b_15n b_15c frame agent w R) : Calls Go.Proofs.Try.prog 5 (List.toArray [Value.agg
 #[Value.int IntKind.i64 b_0, Value.int IntKind.i64 b_1, Value.int IntKind.i64 b_2, Value.int IntKind.i64 b_3, Value.int IntKind.i64 b_4, Value.int IntKind.i64 b_5, Value.int IntKind.i64 b_6, Value.int IntKind.i64 b_7,
 Value.int IntKind.i64 b_8, Value.int IntKind.i64 b_9, Value.int IntKind.i64 b_10, Value.slice b_11a b_11n b_11c, Value.slice b_12a b_12n b_12c, Value.slice b_13a b_13n b_13c, Value.slice b_14a b_14n b_14c,
 Value.slice b_15a b_15n b_15c],
 Value.int IntKind.i64 frame, Value.int IntKind.i64 agent]) w R :=
 fn_sound (H := h5) (fn := Go.Proofs.Try.f5) (by kernel_rfl) (by kernel_rfl) (by kernel_rfl) ((f5_eq b_0 b_1 b_2 b_3 b_4 b_5 b_6 b_7 b_8 b_9 b_10 b_11a b_11n b_11c b_12a b_12n b_12c b_13a b_13n b_13c b_14a b_14n b_14c b_15a b_15n b_15c frame agent w R).mpr h)


/-! manciple/book.Right -/
def h24 : Hints := ⟨[1, 4, 5], [30, 32], [33], [], [(4, 9)], [], [], [], []⟩
def f24_vc (b_0 : Int) (b_1 : Int) (b_2 : Int) (b_3 : Int) (b_4 : Int) (b_5 : Int) (b_6 : Int) (b_7 : Int) (b_8 : Int) (b_9 : Int) (b_10 : Int) (b_11a : Option Addr) (b_11n : Nat) (b_11c : Nat) (b_12a : Option Addr) (b_12n : Nat) (b_12c : Nat) (b_13a : Option Addr) (b_13n : Nat) (b_13c : Nat) (b_14a : Option Addr) (b_14n : Nat) (b_14c : Nat) (b_15a : Option Addr) (b_15n : Nat) (b_15c : Nat) (w : World) (R : Ending → World → Prop) : Prop :=
 ∀ (n1 : Nat),
 w.heap.size ≤ n1 →
 ∀ (n2 : Nat),
 w.heap.size ≤ n2 →
 ∀ (n3 : Nat),
 w.heap.size ≤ n3 →
 ∀ (w4 : World),
 Evo [n3, n2] w w4 →
 Under [n1, n2, n3] w4 →
 OpW Proofs.Try.prog
 (invokeS
 (Value.func (Fn.func 50)
 #[Value.agg
 #[Value.int IntKind.i64 b_0, Value.int IntKind.i64 b_1, Value.int IntKind.i64 b_2, Value.int IntKind.i64 b_3, Value.int IntKind.i64 b_4, Value.int IntKind.i64 b_5, Value.int IntKind.i64 b_6,
 Value.int IntKind.i64 b_7, Value.int IntKind.i64 b_8, Value.int IntKind.i64 b_9, Value.int IntKind.i64 b_10, Value.slice b_11a b_11n b_11c, Value.slice b_12a b_12n b_12c, Value.slice b_13a b_13n b_13c,
 Value.slice b_14a b_14n b_14c, Value.slice b_15a b_15n b_15c]]
 #[])
 #[])
 w4 fun (v5 : Value) (w6 : World) =>
 ∃ (b7 : Bool),
 v5 = Value.bool b7 ∧
 Keeps [n1, n2, n3] w4 w6 ∧
 ((!b7) = true → R (Ending.returned (Value.tuple #[Value.int IntKind.i64 1, Value.bool false])) w6) ∧
 ((!b7) = false →
 OpW Proofs.Try.prog
 (invokeS
 (Value.func (Fn.func 51)
 #[Value.agg
 #[Value.int IntKind.i64 b_0, Value.int IntKind.i64 b_1, Value.int IntKind.i64 b_2, Value.int IntKind.i64 b_3, Value.int IntKind.i64 b_4, Value.int IntKind.i64 b_5, Value.int IntKind.i64 b_6,
 Value.int IntKind.i64 b_7, Value.int IntKind.i64 b_8, Value.int IntKind.i64 b_9, Value.int IntKind.i64 b_10, Value.slice b_11a b_11n b_11c, Value.slice b_12a b_12n b_12c,
 Value.slice b_13a b_13n b_13c, Value.slice b_14a b_14n b_14c, Value.slice b_15a b_15n b_15c]]
 #[])
 #[])
 w6 fun (v8 : Value) (w9 : World) =>
 ∃ (b10 : Bool),
 v8 = Value.bool b10 ∧
 Keeps [n1, n2, n3] w6 w9 ∧
 ((!b10) = true → R (Ending.returned (Value.tuple #[Value.int IntKind.i64 2, Value.bool false])) w9) ∧
 ((!b10) = false →
 OpW Proofs.Try.prog
 (invokeS
 (Value.func (Fn.func 52)
 #[Value.agg
 #[Value.int IntKind.i64 b_0, Value.int IntKind.i64 b_1, Value.int IntKind.i64 b_2, Value.int IntKind.i64 b_3, Value.int IntKind.i64 b_4, Value.int IntKind.i64 b_5,
 Value.int IntKind.i64 b_6, Value.int IntKind.i64 b_7, Value.int IntKind.i64 b_8, Value.int IntKind.i64 b_9, Value.int IntKind.i64 b_10, Value.slice b_11a b_11n b_11c,
 Value.slice b_12a b_12n b_12c, Value.slice b_13a b_13n b_13c, Value.slice b_14a b_14n b_14c, Value.slice b_15a b_15n b_15c]]
 #[])
 #[])
 w9 fun (v11 : Value) (w12 : World) =>
 ∃ (b13 : Bool),
 v11 = Value.bool b13 ∧
 Keeps [n1, n2, n3] w9 w12 ∧
 ((!b13) = true → R (Ending.returned (Value.tuple #[Value.int IntKind.i64 3, Value.bool false])) w12) ∧
 ((!b13) = false →
 OpW Proofs.Try.prog
 (invokeS
 (Value.func (Fn.func 53)
 #[Value.agg
 #[Value.int IntKind.i64 b_0, Value.int IntKind.i64 b_1, Value.int IntKind.i64 b_2, Value.int IntKind.i64 b_3, Value.int IntKind.i64 b_4, Value.int IntKind.i64 b_5,
 Value.int IntKind.i64 b_6, Value.int IntKind.i64 b_7, Value.int IntKind.i64 b_8, Value.int IntKind.i64 b_9, Value.int IntKind.i64 b_10, Value.slice b_11a b_11n b_11c,
 Value.slice b_12a b_12n b_12c, Value.slice b_13a b_13n b_13c, Value.slice b_14a b_14n b_14c, Value.slice b_15a b_15n b_15c]]
 #[])
 #[])
 w12 fun (v14 : Value) (w15 : World) =>
 ∃ (b16 : Bool),
 v14 = Value.bool b16 ∧
 Keeps [n1, n2, n3] w12 w15 ∧
 ((!b16) = true → R (Ending.returned (Value.tuple #[Value.int IntKind.i64 4, Value.bool false])) w15) ∧
 ((!b16) = false →
 OpW Proofs.Try.prog
 (invokeS
 (Value.func (Fn.func 54)
 #[Value.agg
 #[Value.int IntKind.i64 b_0, Value.int IntKind.i64 b_1, Value.int IntKind.i64 b_2, Value.int IntKind.i64 b_3, Value.int IntKind.i64 b_4, Value.int IntKind.i64 b_5,
 Value.int IntKind.i64 b_6, Value.int IntKind.i64 b_7, Value.int IntKind.i64 b_8, Value.int IntKind.i64 b_9, Value.int IntKind.i64 b_10,
 Value.slice b_11a b_11n b_11c, Value.slice b_12a b_12n b_12c, Value.slice b_13a b_13n b_13c, Value.slice b_14a b_14n b_14c, Value.slice b_15a b_15n b_15c]]
 #[])
 #[])
 w15 fun (v17 : Value) (w18 : World) =>
 ∃ (b19 : Bool),
 v17 = Value.bool b19 ∧
 Keeps [n1, n2, n3] w15 w18 ∧
 ((!b19) = true → R (Ending.returned (Value.tuple #[Value.int IntKind.i64 5, Value.bool false])) w18) ∧
 ((!b19) = false →
 OpW Proofs.Try.prog
 (invokeS
 (Value.func (Fn.func 55)
 #[Value.agg
 #[Value.int IntKind.i64 b_0, Value.int IntKind.i64 b_1, Value.int IntKind.i64 b_2, Value.int IntKind.i64 b_3, Value.int IntKind.i64 b_4,
 Value.int IntKind.i64 b_5, Value.int IntKind.i64 b_6, Value.int IntKind.i64 b_7, Value.int IntKind.i64 b_8, Value.int IntKind.i64 b_9,
 Value.int IntKind.i64 b_10, Value.slice b_11a b_11n b_11c, Value.slice b_12a b_12n b_12c, Value.slice b_13a b_13n b_13c,
 Value.slice b_14a b_14n b_14c, Value.slice b_15a b_15n b_15c]]
 #[])
 #[])
 w18 fun (v20 : Value) (w21 : World) =>
 ∃ (b22 : Bool),
 v20 = Value.bool b22 ∧
 Keeps [n1, n2, n3] w18 w21 ∧
 ((!b22) = true → R (Ending.returned (Value.tuple #[Value.int IntKind.i64 6, Value.bool false])) w21) ∧
 ((!b22) = false →
 OpW Proofs.Try.prog
 (invokeS
 (Value.func (Fn.func 56)
 #[Value.agg
 #[Value.int IntKind.i64 b_0, Value.int IntKind.i64 b_1, Value.int IntKind.i64 b_2, Value.int IntKind.i64 b_3, Value.int IntKind.i64 b_4,
 Value.int IntKind.i64 b_5, Value.int IntKind.i64 b_6, Value.int IntKind.i64 b_7, Value.int IntKind.i64 b_8, Value.int IntKind.i64 b_9,
 Value.int IntKind.i64 b_10, Value.slice b_11a b_11n b_11c, Value.slice b_12a b_12n b_12c, Value.slice b_13a b_13n b_13c,
 Value.slice b_14a b_14n b_14c, Value.slice b_15a b_15n b_15c]]
 #[])
 #[])
 w21 fun (v23 : Value) (w24 : World) =>
 ∃ (b25 : Bool),
 v23 = Value.bool b25 ∧
 Keeps [n1, n2, n3] w21 w24 ∧
 ((!b25) = true → R (Ending.returned (Value.tuple #[Value.int IntKind.i64 7, Value.bool false])) w24) ∧
 ((!b25) = false →
 OpW Proofs.Try.prog
 (invokeS
 (Value.func (Fn.func 57)
 #[Value.agg
 #[Value.int IntKind.i64 b_0, Value.int IntKind.i64 b_1, Value.int IntKind.i64 b_2, Value.int IntKind.i64 b_3,
 Value.int IntKind.i64 b_4, Value.int IntKind.i64 b_5, Value.int IntKind.i64 b_6, Value.int IntKind.i64 b_7,
 Value.int IntKind.i64 b_8, Value.int IntKind.i64 b_9, Value.int IntKind.i64 b_10, Value.slice b_11a b_11n b_11c,
 Value.slice b_12a b_12n b_12c, Value.slice b_13a b_13n b_13c, Value.slice b_14a b_14n b_14c, Value.slice b_15a b_15n b_15c]]
 #[])
 #[])
 w24 fun (v26 : Value) (w27 : World) =>
 ∃ (b28 : Bool),
 v26 = Value.bool b28 ∧
 Keeps [n1, n2, n3] w24 w27 ∧
 ((!b28) = true → R (Ending.returned (Value.tuple #[Value.int IntKind.i64 8, Value.bool false])) w27) ∧
 ((!b28) = false → R (Ending.returned (Value.tuple #[Value.int IntKind.i64 0, Value.bool true])) w27))))))))
theorem f24_eq (b_0 : Int) (b_1 : Int) (b_2 : Int) (b_3 : Int) (b_4 : Int) (b_5 : Int) (b_6 : Int) (b_7 : Int) (b_8 : Int) (b_9 : Int) (b_10 : Int) (b_11a : Option Addr) (b_11n : Nat) (b_11c : Nat) (b_12a : Option Addr) (b_12n : Nat) (b_12c : Nat) (b_13a : Option Addr) (b_13n : Nat) (b_13c : Nat) (b_14a : Option Addr) (b_14n : Nat) (b_14c : Nat) (b_15a : Option Addr) (b_15n : Nat) (b_15c : Nat) (w : World) (R : Ending → World → Prop) : (fnF Go.Proofs.Try.prog h24 Go.Proofs.Try.f24 [Value.agg
 #[Value.int IntKind.i64 b_0, Value.int IntKind.i64 b_1, Value.int IntKind.i64 b_2, Value.int IntKind.i64 b_3, Value.int IntKind.i64 b_4, Value.int IntKind.i64 b_5, Value.int IntKind.i64 b_6, Value.int IntKind.i64 b_7,
 Value.int IntKind.i64 b_8, Value.int IntKind.i64 b_9, Value.int IntKind.i64 b_10, Value.slice b_11a b_11n b_11c, Value.slice b_12a b_12n b_12c, Value.slice b_13a b_13n b_13c, Value.slice b_14a b_14n b_14c,
 Value.slice b_15a b_15n b_15c]] w R).den = f24_vc b_0 b_1 b_2 b_3 b_4 b_5 b_6 b_7 b_8 b_9 b_10 b_11a b_11n b_11c b_12a b_12n b_12c b_13a b_13n b_13c b_14a b_14n b_14c b_15a b_15n b_15c w R := by kernel_rfl
theorem f24_calls (b_0 : Int) (b_1 : Int) (b_2 : Int) (b_3 : Int) (b_4 : Int) (b_5 : Int) (b_6 : Int) (b_7 : Int) (b_8 : Int) (b_9 : Int) (b_10 : Int) (b_11a : Option Addr) (b_11n : Nat) (b_11c : Nat) (b_12a : Option Addr) (b_12n : Nat) (b_12c : Nat) (b_13a : Option Addr) (b_13n : Nat) (b_13c : Nat) (b_14a : Option Addr) (b_14n : Nat) (b_14c : Nat) (b_15a : Option Addr) (b_15n : Nat) (b_15c : Nat) (w : World) (R : Ending → World → Prop) (h : f24_vc b_0 b_1 b_2 b_3 b_4 b_5 b_6 b_7 b_8 b_9 b_10 b_11a b_11n b_11c b_12a b_12n b_12c b_13a b_13n b_13c b_14a b_14n b_14c b_15a b_15n b_15c w R) : Calls Go.Proofs.Try.prog 24 (List.toArray [Value.agg
 #[Value.int IntKind.i64 b_0, Value.int IntKind.i64 b_1, Value.int IntKind.i64 b_2, Value.int IntKind.i64 b_3, Value.int IntKind.i64 b_4, Value.int IntKind.i64 b_5, Value.int IntKind.i64 b_6, Value.int IntKind.i64 b_7,
 Value.int IntKind.i64 b_8, Value.int IntKind.i64 b_9, Value.int IntKind.i64 b_10, Value.slice b_11a b_11n b_11c, Value.slice b_12a b_12n b_12c, Value.slice b_13a b_13n b_13c, Value.slice b_14a b_14n b_14c,
 Value.slice b_15a b_15n b_15c]]) w R :=
 fn_sound (H := h24) (fn := Go.Proofs.Try.f24) (by kernel_rfl) (by kernel_rfl) (by kernel_rfl) ((f24_eq b_0 b_1 b_2 b_3 b_4 b_5 b_6 b_7 b_8 b_9 b_10 b_11a b_11n b_11c b_12a b_12n b_12c b_13a b_13n b_13c b_14a b_14n b_14c b_15a b_15n b_15c w R).mpr h)


/-! (manciple/book.look).frames -/
def h51 : Hints := ⟨[1, 5], [16, 33], [14, 59, 83, 105, 22, 25, 39, 43, 50, 55, 68, 74, 79, 92, 97, 100], [(5, [0, 1, 2, 3, 4, 5, 6, 7, 8, 9, 10, 11, 12, 13, 14, 15, 16, 17, 18, 19, 20, 21, 22, 23, 24, 25, 26, 27, 28, 29, 30, 31, 32, 33, 34, 35, 36, 37, 38, 39, 40, 41])], [], [(3, ⟨[(13, .int .i64)], []⟩)], [(13, ⟨[], []⟩), (7, ⟨[], []⟩), (6, ⟨[(59, .bool)], []⟩), (10, ⟨[], []⟩), (8, ⟨[(6, .int .i64), (7, .bool)], []⟩), (9, ⟨[(83, .bool)], []⟩), (11, ⟨[], []⟩), (12, ⟨[(105, .bool)], []⟩)], [], []⟩
def f51_vc (b_0 : Int) (b_1 : Int) (b_2 : Int) (b_3 : Int) (b_4 : Int) (b_5 : Int) (b_6 : Int) (b_7 : Int) (b_8 : Int) (b_9 : Int) (b_10 : Int) (b_11a : Option Addr) (b_11n : Nat) (b_11c : Nat) (b_12a : Option Addr) (b_12n : Nat) (b_12c : Nat) (b_13a : Option Addr) (b_13n : Nat) (b_13c : Nat) (b_14a : Option Addr) (b_14n : Nat) (b_14c : Nat) (b_15a : Option Addr) (b_15n : Nat) (b_15c : Nat) (w : World) (R : Ending → World → Prop) : Prop :=
 ∀ (n1 : Nat),
 w.heap.size ≤ n1 →
 ∀ (w2 : World),
 Bel w w2 →
 Under [n1] w2 →
 OpW Proofs.Try.prog (valueS (Instr.makeMap 99 none)) w2 fun (v3 : Value) (w4 : World) =>
 ∃ (r5 : Option Nat),
 v3 = Value.map r5 ∧
 Keeps [n1] w2 w4 ∧
 ∃ (J6 : Int × Unit → World → Prop),
 ∃ (J7 : Int × Unit → World → Nat),
 J6 (0, ()) w4 ∧
 ∀ (x8 : Int) (w9 : World),
 J6 (x8, ()) w9 →
 (decide (x8 < (↑b_11n : Int)) = true →
 ∃ (J10 : Unit → World → Prop),
 (∃ (ad11 : Addr),
 Gives Proofs.Try.prog (Instr.indexAt 25 (Value.slice b_11a b_11n b_11c) (Value.int IntKind.i64 x8)) (Value.pointer (some ad11)) ∧
 ∃ (x12 : Int),
 ∃ (x13 : Int),
 ∃ (x14 : Int),
 ∃ (b15 : Bool),
 ∃ (b16 : Bool),
 ∃ (x17 : Int),
 ∃ (x18 : Int),
 Reads Proofs.Try.prog [] (Instr.loadAt 48 (Value.pointer (some ad11))) w9
 (Value.agg #[Value.int IntKind.i64 x12, Value.int IntKind.i64 x13, Value.int IntKind.i64 x14, Value.bool b15, Value.bool b16, Value.int IntKind.i64 x17, Value.int IntKind.i64 x18]) ∧
 ∀ (n19 : Nat),
 w9.heap.size ≤ n19 →
 ∃ (J20 : Unit → World → Prop),
 (∃ (J21 : Bool × Unit → World → Prop),
 (∀ (w22 : World),
 Evo [n19] w9 w22 →
 Under [n1, n19] w22 →
 Calls Proofs.Try.prog 76 #[Value.int IntKind.i64 x12] w22 fun (e23 : Ending) (w24 : World) =>
 ∃ (b25 : Bool),
 e23 = Ending.returned (Value.bool b25) ∧
 Keeps [n1, n19] w22 w24 ∧
 ((!b25) = true → J21 (true, ()) w24) ∧
 ((!b25) = false →
 (decide (x8 > 0) = true →
 ∃ (ad26 : Addr),
 Gives Proofs.Try.prog (Instr.indexAt 25 (Value.slice b_11a b_11n b_11c) (Value.int IntKind.i64 (IntKind.i64.wrap (x8 - 1))))
 (Value.pointer (some ad26)) ∧
 ∃ (x27 : Int),
 Reads Proofs.Try.prog [] (Instr.loadAt 2 (Value.pointer (some ad26))) w24 (Value.int IntKind.i64 x27) ∧
 (decide (x12 ≤ x27) = true → J21 (true, ()) w24) ∧
 (decide (x12 ≤ x27) = false →
 ((x17 != 0) = true →
 Calls Proofs.Try.prog 76 #[Value.int IntKind.i64 x17] w24 fun (e28 : Ending) (w29 : World) =>
 ∃ (b30 : Bool),
 e28 = Ending.returned (Value.bool b30) ∧
 Keeps [n1, n19] w24 w29 ∧
 Reads Proofs.Try.prog [] (Instr.loadAt 2 (Value.pointer (some ad26))) w29 (Value.int IntKind.i64 x27) ∧
 ((!b30) = true → J21 (true, ()) w29) ∧
 ((!b30) = false →
 (decide (x13 < 1) = true → J21 (true, ()) w29) ∧ (decide (x13 < 1) = false → J21 (decide (x13 > 32), ()) w29))) ∧
 ((x17 != 0) = false → (decide (x13 < 1) = true → J21 (true, ()) w24) ∧ (decide (x13 < 1) = false → J21 (decide (x13 > 32), ()) w24)))) ∧
 (decide (x8 > 0) = false →
 ((x17 != 0) = true →
 Calls Proofs.Try.prog 76 #[Value.int IntKind.i64 x17] w24 fun (e31 : Ending) (w32 : World) =>
 ∃ (b33 : Bool),
 e31 = Ending.returned (Value.bool b33) ∧
 Keeps [n1, n19] w24 w32 ∧
 ((!b33) = true → J21 (true, ()) w32) ∧
 ((!b33) = false → (decide (x13 < 1) = true → J21 (true, ()) w32) ∧ (decide (x13 < 1) = false → J21 (decide (x13 > 32), ()) w32))) ∧
 ((x17 != 0) = false → (decide (x13 < 1) = true → J21 (true, ()) w24) ∧ (decide (x13 < 1) = false → J21 (decide (x13 > 32), ()) w24))))) ∧
 ∀ (b34 : Bool) (w35 : World), J21 (b34, ()) w35 → (b34 = true → R (Ending.returned (Value.bool false)) w35) ∧ (b34 = false → J20 () w35)) ∧
 ∀ (w36 : World),
 J20 () w36 →
 ∃ (J37 : Unit → World → Prop),
 (∃ (J38 : Int × Bool × Unit → World → Prop),
 (∃ (x39 : Int),
 ∃ (b40 : Bool),
 Reads Proofs.Try.prog [] (Instr.lookup 99 (Value.map r5) (Value.int IntKind.i64 x13) true) w36 (Value.tuple #[Value.int IntKind.i64 x39, Value.bool b40]) ∧
 J38 (x39, b40, ()) w36) ∧
 ∀ (x41 : Int) (b42 : Bool) (w43 : World),
 J38 (x41, b42, ()) w43 →
 ∃ (J44 : Bool × Unit → World → Prop),
 ((b42 = true →
 ((x41 != x14) = true → J44 (true, ()) w43) ∧
 ((x41 != x14) = false → (decide (x14 < 1) = true → J44 (true, ()) w43) ∧ (decide (x14 < 1) = false → J44 (decide (x14 > 1000), ()) w43))) ∧
 (b42 = false → (decide (x14 < 1) = true → J44 (true, ()) w43) ∧ (decide (x14 < 1) = false → J44 (decide (x14 > 1000), ()) w43))) ∧
 ∀ (b45 : Bool) (w46 : World), J44 (b45, ()) w46 → (b45 = true → R (Ending.returned (Value.bool false)) w46) ∧ (b45 = false → J37 () w46)) ∧
 ∀ (w47 : World),
 J37 () w47 →
 ∃ (J48 : Unit → World → Prop),
 (OpW Proofs.Try.prog (skipS (Instr.mapUpdate 99 (Value.map r5) (Value.int IntKind.i64 x13) (Value.int IntKind.i64 x14))) w47 fun (v49 : Value) (w50 : World) =>
 Keeps [n1, n19] w47 w50 ∧ J48 () w50) ∧
 ∀ (w51 : World),
 J48 () w51 →
 ∃ (J52 : Bool × Unit → World → Prop),
 ((decide (x18 < 0) = true → J52 (true, ()) w51) ∧
 (decide (x18 < 0) = false →
 (decide (x18 > 18014398509481984) = true → J52 (true, ()) w51) ∧
 (decide (x18 > 18014398509481984) = false → (b15 = true → J52 (decide (x18 > 0), ()) w51) ∧ (b15 = false → J52 (false, ()) w51)))) ∧
 ∀ (b53 : Bool) (w54 : World), J52 (b53, ()) w54 → (b53 = true → R (Ending.returned (Value.bool false)) w54) ∧ (b53 = false → J10 () w54)) ∧
 ∀ (w55 : World), J10 () w55 → J6 (IntKind.i64.wrap (x8 + 1), ()) w55 ∧ J7 (IntKind.i64.wrap (x8 + 1), ()) w55 < J7 (x8, ()) w9) ∧
 (decide (x8 < (↑b_11n : Int)) = false → R (Ending.returned (Value.bool (decide ((↑b_11n : Int) ≤ b_4)))) w9)
theorem f51_eq (b_0 : Int) (b_1 : Int) (b_2 : Int) (b_3 : Int) (b_4 : Int) (b_5 : Int) (b_6 : Int) (b_7 : Int) (b_8 : Int) (b_9 : Int) (b_10 : Int) (b_11a : Option Addr) (b_11n : Nat) (b_11c : Nat) (b_12a : Option Addr) (b_12n : Nat) (b_12c : Nat) (b_13a : Option Addr) (b_13n : Nat) (b_13c : Nat) (b_14a : Option Addr) (b_14n : Nat) (b_14c : Nat) (b_15a : Option Addr) (b_15n : Nat) (b_15c : Nat) (w : World) (R : Ending → World → Prop) : (fnF Go.Proofs.Try.prog h51 Go.Proofs.Try.f51 [Value.agg
 #[Value.int IntKind.i64 b_0, Value.int IntKind.i64 b_1, Value.int IntKind.i64 b_2, Value.int IntKind.i64 b_3, Value.int IntKind.i64 b_4, Value.int IntKind.i64 b_5, Value.int IntKind.i64 b_6, Value.int IntKind.i64 b_7,
 Value.int IntKind.i64 b_8, Value.int IntKind.i64 b_9, Value.int IntKind.i64 b_10, Value.slice b_11a b_11n b_11c, Value.slice b_12a b_12n b_12c, Value.slice b_13a b_13n b_13c, Value.slice b_14a b_14n b_14c,
 Value.slice b_15a b_15n b_15c]] w R).den = f51_vc b_0 b_1 b_2 b_3 b_4 b_5 b_6 b_7 b_8 b_9 b_10 b_11a b_11n b_11c b_12a b_12n b_12c b_13a b_13n b_13c b_14a b_14n b_14c b_15a b_15n b_15c w R := by kernel_rfl
theorem f51_calls (b_0 : Int) (b_1 : Int) (b_2 : Int) (b_3 : Int) (b_4 : Int) (b_5 : Int) (b_6 : Int) (b_7 : Int) (b_8 : Int) (b_9 : Int) (b_10 : Int) (b_11a : Option Addr) (b_11n : Nat) (b_11c : Nat) (b_12a : Option Addr) (b_12n : Nat) (b_12c : Nat) (b_13a : Option Addr) (b_13n : Nat) (b_13c : Nat) (b_14a : Option Addr) (b_14n : Nat) (b_14c : Nat) (b_15a : Option Addr) (b_15n : Nat) (b_15c : Nat) (w : World) (R : Ending → World → Prop) (h : f51_vc b_0 b_1 b_2 b_3 b_4 b_5 b_6 b_7 b_8 b_9 b_10 b_11a b_11n b_11c b_12a b_12n b_12c b_13a b_13n b_13c b_14a b_14n b_14c b_15a b_15n b_15c w R) : Calls Go.Proofs.Try.prog 51 (List.toArray [Value.agg
 #[Value.int IntKind.i64 b_0, Value.int IntKind.i64 b_1, Value.int IntKind.i64 b_2, Value.int IntKind.i64 b_3, Value.int IntKind.i64 b_4, Value.int IntKind.i64 b_5, Value.int IntKind.i64 b_6, Value.int IntKind.i64 b_7,
 Value.int IntKind.i64 b_8, Value.int IntKind.i64 b_9, Value.int IntKind.i64 b_10, Value.slice b_11a b_11n b_11c, Value.slice b_12a b_12n b_12c, Value.slice b_13a b_13n b_13c, Value.slice b_14a b_14n b_14c,
 Value.slice b_15a b_15n b_15c]]) w R :=
 fn_sound (H := h51) (fn := Go.Proofs.Try.f51) (by kernel_rfl) (by kernel_rfl) (by kernel_rfl) ((f51_eq b_0 b_1 b_2 b_3 b_4 b_5 b_6 b_7 b_8 b_9 b_10 b_11a b_11n b_11c b_12a b_12n b_12c b_13a b_13n b_13c b_14a b_14n b_14c b_15a b_15n b_15c w R).mpr h)

end Vcxa

/- book.Right's parts: numbers, config, agents, holders, tasks, filters. -/
set_option maxRecDepth 20000
set_option maxHeartbeats 1000000
namespace Go.Vc.W
open Go Go.Vc Go.Vc.V Go.RowKit Go.Proofs Vcw Vcxa

variable {w W W' : World} {M : Nat → Prop} {gs : List Nat}

/-- A bool comes back; where it is true, F holds. -/
abbrev RetB (fn : FuncId) (args : Array Value) (W : World) (F : Prop) : Prop := RetQ Try.prog fn args W fun v _ => ∃ b, v = .bool b ∧ (b = true → F)
theorem take_all {α : Type} {P : α → Prop} {l : List α} {i : Nat} {p : α} (hp : l[i]? = some p) (h : ∀ x ∈ l.take i, P x) (hP : P p) : ∀ x ∈ l.take (i + 1), P x := by
  intro x hx
  rw [List.take_add_one, hp, List.mem_append] at hx
  rcases hx with hx | hx
  · exact h x hx
  · simp only [Option.toList_some, List.mem_singleton] at hx
    rw [hx]
    exact hP
theorem take_pw {α : Type} {R : α → α → Prop} {l : List α} {i : Nat} {p : α} (ht : ∀ x y z, R x y → R y z → R x z) (hp : l[i]? = some p) (h : (l.take i).Pairwise R) (hR : ∀ q, 0 < i → l[i - 1]? = some q → R q p) : (l.take (i + 1)).Pairwise R := by
  rw [List.take_add_one, hp, Option.toList_some, List.pairwise_append]
  refine ⟨h, List.pairwise_singleton .., fun x hx y hy => ?_⟩
  rw [List.mem_singleton] at hy
  subst hy
  cases i with
  | zero => simp at hx
  | succ k =>
    have hk : k < l.length := by have := (List.getElem?_eq_some_iff.1 hp).1; omega
    have hq : l[k]? = some l[k] := List.getElem?_eq_getElem hk
    have hR := hR l[k] (by omega) hq
    rw [List.take_add_one, hq, Option.toList_some, List.pairwise_append] at h
    rw [List.take_add_one, hq, Option.toList_some, List.mem_append, List.mem_singleton] at hx
    rcases hx with hx | rfl
    · exact ht _ _ _ (h.2.2 x hx _ (List.mem_singleton.2 rfl)) hR
    · exact hR

theorem c95 (n lo hi : Int) (w : World) : Ret Try.prog 95 #[.int .i64 n, .int .i64 lo, .int .i64 hi] w (.bool (decide (lo ≤ n ∧ n ≤ hi))) := by
  intro R h
  refine f95_calls n lo hi w R ?_
  unfold f95_vc
  refine brD (fun h1 => leaf h (At.refl w) ?_) (fun h1 => leaf h (At.refl w) ?_)
  · refine congrArg (fun x => Ending.returned (Value.bool x)) (decide_eq_decide.2 ?_)
    constructor <;> intro h2 <;> omega
  · rw [decide_eq_false (by omega)]
theorem c76 (n : Int) (w : World) : Ret Try.prog 76 #[.int .i64 n] w (.bool (decide (1 ≤ n ∧ n ≤ 9007199254740992))) := by
  intro R h
  refine f76_calls n w R ?_
  unfold f76_vc
  refine brD (fun h1 => leaf h (At.refl w) ?_) (fun h1 => leaf h (At.refl w) ?_)
  · refine congrArg (fun x => Ending.returned (Value.bool x)) (decide_eq_decide.2 ?_)
    constructor <;> intro h2 <;> omega
  · rw [decide_eq_false (by omega)]
theorem gives_ix4 {c0 c1 c2 c3 y : Int} {k : Nat} (hy : [c0, c1, c2, c3][k]? = some y) : Gives Try.prog (Instr.index 22 (.agg #[.int .i64 c0, .int .i64 c1, .int .i64 c2, .int .i64 c3]) (.int .i64 (k : Int))) (.int .i64 y) := by
  have hk : k = 0 ∨ k = 1 ∨ k = 2 ∨ k = 3 := by have := (List.getElem?_eq_some_iff.1 hy).1; simp at this; omega
  rcases hk with rfl | rfl | rfl | rfl <;> (simp at hy; subst hy; intro W; kernel_rfl)
theorem c75 (b : BkA) (w : World) : RetQ Try.prog 75 #[b.cfg] w fun v _ => ∃ n, v = .int .i64 n := by
  intro R h
  refine f75_calls _ _ _ _ _ _ _ _ _ w R ?_
  unfold f75_vc
  have out : ∀ (x : Int) {gs w'}, At w gs w' → R (.returned (.int .i64 x)) w' := fun x _ w' hA => h _ _ hA.below ⟨x, rfl⟩
  intro n1 hn1
  refine ⟨fun v W' => At w [n1] W' ∧ ∃ k : Nat, v.1 = k ∧ k ≤ 4, fun v _ => ((4 : Int) - v.1).toNat, ⟨fun w4 hb4 hu => ⟨⟨((At.refl w).call hb4).chg, hu⟩, 0, rfl, Nat.zero_le _⟩, ?_⟩⟩
  rintro x5 w6 ⟨hA, k, hk, hk4⟩
  simp only at hk
  subst hk
  refine brD (fun hlt => ?_) (fun _ => ?_)
  · obtain ⟨y, hy⟩ : ∃ y, [b.c5, b.c6, b.c7, b.c8][k]? = some y := ⟨_, List.getElem?_eq_getElem (by simp; omega)⟩
    refine ⟨y, gives_ix4 hy, at_callb hA (c95 _ _ _ w6) fun w9 hA hk hb => ⟨_, rfl, hk, brNB (fun hn => out _ hA) (fun hin => ?_)⟩⟩
    rw [succ_i k (by omega)]
    exact ⟨⟨hA, k + 1, rfl, by omega⟩, by simp only; omega⟩
  · refine at_callb hA (c95 _ _ _ w6) fun w12 hA hk hb => ⟨_, rfl, hk, brNB (fun _ => out _ hA) (fun _ => ?_)⟩
    refine at_callb hA (c95 _ _ _ w12) fun w15 hA hk hb => ⟨_, rfl, hk, brNB (fun _ => out _ hA) (fun _ => ?_)⟩
    refine at_callb hA (c95 _ _ _ w15) fun w18 hA hk hb => ⟨_, rfl, hk, brNB (fun _ => out _ hA) (fun _ => ?_)⟩
    refine at_callb hA (c95 _ _ _ w18) fun w21 hA hk hb => ⟨_, rfl, hk, brNB (fun _ => out _ hA) (fun _ => ?_)⟩
    exact at_callb hA (c95 _ _ _ w21) fun w24 hA hk hb => ⟨_, rfl, hk, brNB (fun _ => out _ hA) (fun _ => out _ hA)⟩
theorem c50 (b : BkA) (w : World) : RetBool 50 #[b.v] w := by
  intro R h
  refine f50_calls _ _ _ _ _ _ _ _ _ _ _ _ _ _ _ _ _ _ _ _ _ _ _ _ _ _ w R ?_
  unfold f50_vc
  have out : ∀ (x : Bool) {gs w'}, At w gs w' → R (.returned (.bool x)) w' := fun x _ w' hA => h _ _ hA.below ⟨x, rfl⟩
  intro n1 hn1 n2 hn2 w3 hev hu
  have hA := (At.refl w).evo (gs' := [n1, n2]) (by simp; omega) hev hu
  refine at_callq hA (c75 b w3) fun v w5 hA hk _ ⟨n, e⟩ => ?_
  subst e
  exact ⟨_, rfl, hk, brE (fun _ => brD (fun _ => brD (fun _ => brD (fun _ => out _ hA) (fun _ => out _ hA)) (fun _ => out _ hA)) (fun _ => out _ hA)) (fun _ => out _ hA)⟩
end Go.Vc.W

/- book.Right's parts: agents, holders, tasks, filters. -/
set_option maxRecDepth 20000
set_option maxHeartbeats 1000000
namespace Go.Vc.W
open Go Go.Vc Go.Vc.V Go.RowKit Go.Proofs Vcw Vcxa

variable {w W W' : World} {M : Nat → Prop} {gs : List Nat}

abbrev agOk (l : List AgT) : Prop := l.Pairwise (fun x y => x.1 < y.1) ∧ ∀ a ∈ l, vecB a.2.1 = true ∧ vecB a.2.2 = true
theorem agOk_step {l : List AgT} {i : Nat} {p : AgT} (hp : l[i]? = some p) (h : agOk (l.take i)) (hv : vecB p.2.1 = true ∧ vecB p.2.2 = true) (hR : ∀ q, 0 < i → l[i - 1]? = some q → q.1 < p.1) : agOk (l.take (i + 1)) :=
  ⟨take_pw (fun _ _ _ => Int.lt_trans) hp h.1 hR, take_all hp h.2 hv⟩
theorem c52 {b : BkA} {d : BkD} (w : World) (hb : Bk w b d) : RetB 52 #[b.v] w (agOk d.ags) := by
  intro R h
  refine f52_calls _ _ _ _ _ _ _ _ _ _ _ _ _ _ _ _ _ _ _ _ _ _ _ _ _ _ w R ?_
  unfold f52_vc
  have hn := hb.ag.len_le
  have out : ∀ {gs w'}, At w gs w' → R (.returned (.bool false)) w' := fun hA => h _ _ hA.below ⟨_, rfl, fun e => by cases e⟩
  intro n1 hn1
  refine ⟨fun v W' => At w [n1] W' ∧ ∃ i : Nat, v.1 = i ∧ i ≤ d.ags.length ∧ agOk (d.ags.take i), fun v _ => (b.a.2.1 - v.1).toNat, ⟨fun w4 hb4 hu => ⟨⟨((At.refl w).call hb4).chg, hu⟩, 0, rfl, Nat.zero_le _, by simp [agOk]⟩, ?_⟩⟩
  rintro x5 w6 ⟨hA, i, hi, hil, hok⟩
  simp only at hi
  subst hi
  refine brD (fun hlt => ?_) (fun hge => h _ _ hA.below ⟨_, rfl, fun _ => ?_⟩)
  · obtain ⟨p, hp⟩ : ∃ x, d.ags[i]? = some x := ⟨_, List.getElem?_eq_getElem (by omega)⟩
    obtain ⟨ad, cs, g1, el, a1, m1, c1, a2, m2, c2, rfl, s1, s2⟩ := rel_at (t := 26) (hb.call hA.below).ag hp (e := 56) (by kernel_rfl) (by kernel_rfl)
    refine ⟨ad, g1, _, _, _, _, _, _, _, el.agg 3 (by kernel_rfl) (by kernel_rfl) (by simp) (by simp), ?_⟩
    intro n15 hn15 w16 hev hun
    have hsz := hA.size
    have hb6 := hev.bel (by intro x hx; simp at hx; omega)
    have hA := hA.evo (by intro x hx; simp at hx; omega) hev hun
    have s1 := s1.call hb6
    have s2 := s2.call hb6
    refine at_callb hA (c76 p.1 w16) fun w18 hA hk hb18 => ⟨_, rfl, hk, brNB (fun _ => out hA) (fun _ => brD (fun hpos => ?_) (fun hpos => ?_))⟩
    · obtain ⟨q, hq⟩ : ∃ x, d.ags[i - 1]? = some x := ⟨_, List.getElem?_eq_getElem (by omega)⟩
      obtain ⟨ad2, cs2, g2, el2, _, _, _, _, _, _, rfl, _, _⟩ := rel_at (t := 26) (hb.call hA.below).ag hq (e := 56) (by kernel_rfl) (by kernel_rfl)
      rw [prev_i (by omega) (by omega)]
      have rq : ∀ {W'}, Bel w18 W' → Reads Try.prog [] (Instr.loadAt 2 (.pointer (some ad2))) W' (.int .i64 q.1) := fun hb => (el2.below hb).one (by kernel_rfl) (by simp)
      refine ⟨ad2, g2, _, rq (At.refl w18).below, brD (fun _ => out hA) (fun hlt2 => brE (fun _ => out hA) (fun _ => ?_))⟩
      refine at_callb hA (c63 w18 (s1.call hb18)) fun w23 hA hk hb23 => ⟨_, rfl, hk, rq hb23, brNB (fun _ => out hA) (fun hv1 => ?_)⟩
      refine at_callb hA (c63 w23 ((s2.call hb18).call hb23)) fun w26 hA hk hb26 => ⟨_, rfl, hk, rq (hb23.trans hb26), brNB (fun _ => out hA) (fun hv2 => ?_)⟩
      rw [succ_i i (by omega)]
      refine ⟨⟨hA.sub (by simp), i + 1, rfl, by omega, agOk_step hp hok ⟨hv1, hv2⟩ fun q' _ hq' => ?_⟩, by simp only; omega⟩
      rw [hq] at hq'
      cases hq'
      omega
    · refine brE (fun _ => out hA) (fun _ => ?_)
      refine at_callb hA (c63 w18 (s1.call hb18)) fun w29 hA hk hb29 => ⟨_, rfl, hk, brNB (fun _ => out hA) (fun hv1 => ?_)⟩
      refine at_callb hA (c63 w29 ((s2.call hb18).call hb29)) fun w32 hA hk hb32 => ⟨_, rfl, hk, brNB (fun _ => out hA) (fun hv2 => ?_)⟩
      rw [succ_i i (by omega)]
      exact ⟨⟨hA.sub (by simp), i + 1, rfl, by omega, agOk_step hp hok ⟨hv1, hv2⟩ fun q' h0 _ => absurd h0 (by omega)⟩, by simp only; omega⟩
  · rw [show i = d.ags.length by omega, List.take_length] at hok
    exact hok

theorem c79 {b : BkA} {d : BkD} {v : List PartT} {a : Option Addr} {n c : Nat} (frame agent : Int) (w : World) (hb : Bk w b d) (hv : SlE w 3 partE v a n c) : RetQ Try.prog 79 #[b.v, .int .i64 frame, .int .i64 agent, .slice a n c] w fun u _ => ∃ f x, u = .tuple #[.agg (frE f).toArray, .bool x] ∧ (x = true → vecB v = true) := by
  intro R h
  refine f79_calls _ _ _ _ _ _ _ _ _ _ _ _ _ _ _ _ _ _ _ _ _ _ _ _ _ _ frame agent a n c w R ?_
  unfold f79_vc
  have out : ∀ {gs w'}, At w gs w' → R (.returned (.tuple #[.agg #[.int .i64 0, .int .i64 0, .int .i64 0, .bool false, .bool false, .int .i64 0, .int .i64 0], .bool false])) w' := fun hA => h _ _ hA.below ⟨(0, 0, 0, false, false, 0, 0), false, rfl, fun e => by cases e⟩
  intro n1 hn1 n2 hn2 w3 hb3 hu3
  have hA : At w [n1, n2] w3 := ⟨((At.refl w).call hb3).chg, hu3⟩
  have ev : ∀ {W : World}, At w [n1, n2] W → ∀ {W'}, Evo [n2] W W' → Under [n1, n2] W' → At w [n1, n2] W' := fun hA _ he hu => hA.evo (gs' := [n1, n2]) (by simp; omega) he hu
  refine at_callb hA (c26 frame w3 (hb.call hA.below)) fun w5 hA hk hb5 => ⟨_, rfl, hk, brD (fun _ w7 he hu => out (ev hA he hu)) (fun hix => ?_)⟩
  refine at_callb hA (c27 agent w5 (hb.call hA.below)) fun w9 hA hk hb9 => ⟨_, rfl, hk, brD (fun _ w7 he hu => out (ev hA he hu)) (fun hix2 => brE (fun _ w12 he hu => out (ev hA he hu)) (fun _ => ?_))⟩
  refine at_callb hA (c63 w9 (hv.call hA.below)) fun w14 hA hk hb14 => ⟨_, rfl, hk, brNB (fun _ w16 he hu => out (ev hA he hu)) (fun hvv => ?_)⟩
  obtain ⟨ad, f, g1, el, er⟩ := frame_at2 (hb.call hA.below) hix
  refine ⟨ad, g1, _, _, _, _, _, _, _, el.agg 7 (by kernel_rfl) (by kernel_rfl) (by simp) (by simp), fun n25 hn25 w26 he26 hu26 => ?_⟩
  have hsz := hA.size
  have hA := hA.evo (gs' := [n1, n2, n25]) (by simp; omega) he26 hu26
  refine opw_litL (e' := 3) (f := fun x => [Value.int .i64 x]) (size := 1) (l := [0, f.2.1]) hA rfl (fun _ _ => rfl) (by decide) (by kernel_rfl) fun g w28 _ hA hk _ ho => ⟨_, _, _, rfl, hk, ?_⟩
  refine at_calll hA (c40 w28 (hv.call hA.below) (ho.sl fun _ _ => rfl)) (fun _ _ => rfl) fun a' c' w33 hA hk _ ho' _ => ⟨_, _, _, rfl, hk, fun w37 he hu => ?_⟩
  have hA := hA.evo (gs' := [n1, n2, n25]) (by simp; omega) he hu
  exact h _ _ hA.below ⟨f, _, rfl, fun _ => hvv⟩

theorem c55 {b : BkA} {d : BkD} (w : World) (hb : Bk w b d) : RetB 55 #[b.v] w (∀ t ∈ d.tks, vecB t.2.2.2 = true) := by
  intro R h
  refine f55_calls _ _ _ _ _ _ _ _ _ _ _ _ _ _ _ _ _ _ _ _ _ _ _ _ _ _ w R ?_
  unfold f55_vc
  have hn := hb.tk.len_le
  have out : ∀ {gs w'}, At w gs w' → R (.returned (.bool false)) w' := fun hA => h _ _ hA.below ⟨_, rfl, fun e => by cases e⟩
  intro n1 hn1
  refine ⟨fun v W' => At w [n1] W' ∧ ∃ i : Nat, v.1 = i ∧ i ≤ d.tks.length ∧ ∀ t ∈ d.tks.take i, vecB t.2.2.2 = true, fun v _ => (b.t.2.1 - v.1).toNat, ⟨fun w4 hb4 hu => ⟨⟨((At.refl w).call hb4).chg, hu⟩, 0, rfl, Nat.zero_le _, by simp⟩, ?_⟩⟩
  rintro x5 w6 ⟨hA, i, hi, hil, hok⟩
  simp only at hi
  subst hi
  refine brD (fun hlt => ?_) (fun hge => h _ _ hA.below ⟨_, rfl, fun _ => ?_⟩)
  · obtain ⟨p, hp⟩ : ∃ x, d.tks[i]? = some x := ⟨_, List.getElem?_eq_getElem (by omega)⟩
    obtain ⟨ad, cs, g1, el, a1, m1, c1, rfl, s1⟩ := rel_at (t := 28) (hb.call hA.below).tk hp (e := 60) (by kernel_rfl) (by kernel_rfl)
    refine ⟨ad, g1, _, _, _, _, _, _, el.agg 4 (by kernel_rfl) (by kernel_rfl) (by simp) (by simp), ?_⟩
    intro n14 hn14 w15 hev hun
    have hsz := hA.size
    have hb6 := hev.bel (by intro x hx; simp at hx; omega)
    have hA := hA.evo (by intro x hx; simp at hx; omega) hev hun
    have s1 := s1.call hb6
    refine at_callq hA (c79 p.1 p.2.2.1 w15 (hb.call hA.below) s1) fun v w17 hA hk hb17 ⟨f, x, e, hx⟩ => ?_
    subst e
    refine ⟨_, _, _, _, _, _, _, _, rfl, hk, fun n26 hn26 => ?_⟩
    have hsz := hA.size
    refine brNB (fun _ w27 he hu => out (hA.evo (gs' := [n1, n14, n26]) (by simp; omega) he hu)) (fun hxx w28 he hu => ?_)
    have hb28 := he.bel (by intro x hx; simp at hx; omega)
    have hA := hA.evo (gs' := [n1, n14, n26]) (by simp; omega) he hu
    have hok' := take_all hp hok (hx hxx)
    have go : ∀ {gs w'}, At w gs w' → n1 ∈ gs → (At w [n1] w' ∧ ∃ j : Nat, IntKind.i64.wrap ((i : Int) + 1) = j ∧ j ≤ d.tks.length ∧ ∀ t ∈ d.tks.take j, vecB t.2.2.2 = true) ∧ (b.t.2.1 - IntKind.i64.wrap ((i : Int) + 1)).toNat < (b.t.2.1 - (i : Int)).toNat := fun hA hg => by
      rw [succ_i i (by omega)]
      exact ⟨⟨hA.sub (by simpa using hg), i + 1, rfl, by omega, hok'⟩, by omega⟩
    refine at_callb hA (c76 p.2.1 w28) fun w30 hA hk hb30 => ⟨_, rfl, hk, brNB (fun _ => out hA) (fun _ => brD (fun hpos => ?_) (fun hpos w51 hb51 hu51 => go (hA.call hb51) (by simp)))⟩
    obtain ⟨q, hq⟩ : ∃ x, d.tks[i - 1]? = some x := ⟨_, List.getElem?_eq_getElem (by omega)⟩
    obtain ⟨ad2, cs2, g2, el2, _, _, _, rfl, _⟩ := rel_at (t := 28) (hb.call hA.below).tk hq (e := 60) (by kernel_rfl) (by kernel_rfl)
    rw [prev_i (by omega) (by omega)]
    have rq : ∀ {W'}, Bel w30 W' → Reads Try.prog [] (Instr.loadAt 2 (.pointer (some ⟨ad2.block, ad2.off + 1, none⟩))) W' (.int .i64 q.2.1) := fun hb => ((el2.below hb).sub (o := 1) (by decide)).one (by kernel_rfl) (by simp)
    refine ⟨ad2, g2, _, el2.one (by kernel_rfl) (by simp), ad2, g2, _, rq (At.refl w30).below, fun w36 hb36 hu36 => ?_⟩
    have hA : At w [n1, n14, n26] w36 := ⟨(hA.call hb36).chg, hu36⟩
    refine at_callb hA (c81 _ _ w36) fun w38 hA hk hb38 => ⟨_, rfl, hk, rq (hb36.trans hb38), ?_⟩
    refine at_callb hA (c81 _ _ w38) fun w41 hA hk hb41 => ⟨_, rfl, hk, ?_⟩
    refine opw_litL (e' := 3) (f := fun x => [Value.int .i64 x]) (size := 1) (l := [sg q.1 p.1, sg q.2.1 p.2.1]) hA rfl (fun _ _ => rfl) (by decide) (by kernel_rfl) fun g w44 _ hA hk _ ho => ⟨_, _, _, rfl, hk, ?_⟩
    exact at_callb hA (c80 w44 (ho.sl fun _ _ => rfl) (by simp)) fun w49 hA hk _ => ⟨_, rfl, hk, brD (fun _ => out hA) (fun _ => go hA (by simp))⟩
  · rw [show i = d.tks.length by omega, List.take_length] at hok
    exact hok

theorem c56 {b : BkA} {d : BkD} (w : World) (hb : Bk w b d) : RetB 56 #[b.v] w (∀ t ∈ d.fls, vecB t.2.2.2 = true) := by
  intro R h
  refine f56_calls _ _ _ _ _ _ _ _ _ _ _ _ _ _ _ _ _ _ _ _ _ _ _ _ _ _ w R ?_
  unfold f56_vc
  have hn := hb.fl.len_le
  have out : ∀ {gs w'}, At w gs w' → R (.returned (.bool false)) w' := fun hA => h _ _ hA.below ⟨_, rfl, fun e => by cases e⟩
  intro n1 hn1
  refine ⟨fun v W' => At w [n1] W' ∧ ∃ i : Nat, v.1 = i ∧ i ≤ d.fls.length ∧ ∀ t ∈ d.fls.take i, vecB t.2.2.2 = true, fun v _ => (b.l.2.1 - v.1).toNat, ⟨fun w4 hb4 hu => ⟨⟨((At.refl w).call hb4).chg, hu⟩, 0, rfl, Nat.zero_le _, by simp⟩, ?_⟩⟩
  rintro x5 w6 ⟨hA, i, hi, hil, hok⟩
  simp only at hi
  subst hi
  refine brD (fun hlt => ?_) (fun hge => h _ _ hA.below ⟨_, rfl, fun _ => ?_⟩)
  · obtain ⟨p, hp⟩ : ∃ x, d.fls[i]? = some x := ⟨_, List.getElem?_eq_getElem (by omega)⟩
    obtain ⟨ad, cs, g1, el, a1, m1, c1, rfl, s1⟩ := rel_at (t := 29) (hb.call hA.below).fl hp (e := 62) (by kernel_rfl) (by kernel_rfl)
    refine ⟨ad, g1, _, _, _, _, _, _, el.agg 4 (by kernel_rfl) (by kernel_rfl) (by simp) (by simp), ?_⟩
    intro n14 hn14 w15 hev hun
    have hsz := hA.size
    have hb6 := hev.bel (by intro x hx; simp at hx; omega)
    have hA := hA.evo (by intro x hx; simp at hx; omega) hev hun
    have s1 := s1.call hb6
    refine at_callb hA (c26 p.1 w15 (hb.call hA.below)) fun w17 hA hk hb17 => ⟨_, rfl, hk, brD (fun _ => out hA) (fun _ => ?_)⟩
    refine at_callb hA (c27 p.2.1 w17 (hb.call hA.below)) fun w20 hA hk hb20 => ⟨_, rfl, hk, brD (fun _ => out hA) (fun _ => brE (fun _ => out hA) (fun _ => ?_))⟩
    have s1 := (s1.call hb17).call hb20
    refine at_callb hA (c63 w20 s1) fun w23 hA hk hb23 => ⟨_, rfl, hk, brNB (fun _ => out hA) (fun hvv => brD (fun _ => out hA) (fun _ => brD (fun _ => out hA) (fun _ => ?_)))⟩
    have hok' := take_all hp hok hvv
    have go : ∀ {gs w'}, At w gs w' → n1 ∈ gs → (At w [n1] w' ∧ ∃ j : Nat, IntKind.i64.wrap ((i : Int) + 1) = j ∧ j ≤ d.fls.length ∧ ∀ t ∈ d.fls.take j, vecB t.2.2.2 = true) ∧ (b.l.2.1 - IntKind.i64.wrap ((i : Int) + 1)).toNat < (b.l.2.1 - (i : Int)).toNat := fun hA hg => by
      rw [succ_i i (by omega)]
      exact ⟨⟨hA.sub (by simpa using hg), i + 1, rfl, by omega, hok'⟩, by omega⟩
    refine brD (fun hpos => ?_) (fun _ w36 hb36 hu36 => go (hA.call hb36) (by simp))
    obtain ⟨q, hq⟩ : ∃ x, d.fls[i - 1]? = some x := ⟨_, List.getElem?_eq_getElem (by omega)⟩
    obtain ⟨ad2, cs2, g2, el2, a2, m2, c2, rfl, s2⟩ := rel_at (t := 29) (hb.call hA.below).fl hq (e := 62) (by kernel_rfl) (by kernel_rfl)
    rw [prev_i (by omega) (by omega)]
    refine ⟨ad2, g2, _, _, _, _, _, _, el2.agg 4 (by kernel_rfl) (by kernel_rfl) (by simp) (by simp), fun w32 hb32 hu32 => ?_⟩
    have hA : At w [n1, n14] w32 := ⟨(hA.call hb32).chg, hu32⟩
    exact at_callb hA (c82 q p w32 (s2.call hb32) ((s1.call hb23).call hb32)) fun w34 hA hk _ => ⟨_, rfl, hk, brD (fun _ => out hA) (fun _ => go hA (by simp))⟩
  · rw [show i = d.fls.length by omega, List.take_length] at hok
    exact hok
end Go.Vc.W

/- The formulas of functions, printed by a program (VcTool.lean): each is what the generator's formula comes to, by the kernel's reckoning; whoever proves one has the function's contract. -/
set_option maxRecDepth 100000
set_option maxHeartbeats 1000000
set_option linter.unusedVariables false
namespace Vcxb
open Go Go.Vc Go.RowKit
/-! (manciple/book.look).offers -/
def h54 : Hints := ⟨[1, 4, 5], [15, 59], [13, 64, 97, 30, 35, 40, 48, 51, 71, 76, 79, 86], [(5, [0, 1, 2, 3, 4, 5, 6, 7, 8, 9, 10, 11, 12, 13, 14, 15, 16, 17, 18, 19, 20, 21, 22, 23, 24, 25, 26, 27, 28, 29, 30, 31, 32, 33, 34, 35, 36])], [], [(2, ⟨[(12, .int .i64)], []⟩)], [(6, ⟨[(64, .bool)], []⟩)], [], []⟩
def f54_vc (b_0 : Int) (b_1 : Int) (b_2 : Int) (b_3 : Int) (b_4 : Int) (b_5 : Int) (b_6 : Int) (b_7 : Int) (b_8 : Int) (b_9 : Int) (b_10 : Int) (b_11a : Option Addr) (b_11n : Nat) (b_11c : Nat) (b_12a : Option Addr) (b_12n : Nat) (b_12c : Nat) (b_13a : Option Addr) (b_13n : Nat) (b_13c : Nat) (b_14a : Option Addr) (b_14n : Nat) (b_14c : Nat) (b_15a : Option Addr) (b_15n : Nat) (b_15c : Nat) (w : World) (R : Ending → World → Prop) : Prop :=
 ∀ (n1 : Nat),
 w.heap.size ≤ n1 →
 ∃ (J2 : Int × Unit → World → Prop),
 ∃ (J3 : Int × Unit → World → Nat),
 (∀ (w4 : World), Bel w w4 → Under [n1] w4 → J2 (0, ()) w4) ∧
 ∀ (x5 : Int) (w6 : World),
 J2 (x5, ()) w6 →
 (decide (x5 < (↑b_13n : Int)) = true →
 ∃ (ad7 : Addr),
 Gives Proofs.Try.prog (Instr.indexAt 27 (Value.slice b_13a b_13n b_13c) (Value.int IntKind.i64 x5)) (Value.pointer (some ad7)) ∧
 ∃ (x8 : Int),
 ∃ (x9 : Int),
 ∃ (x10 : Int),
 ∃ (a11 : Option Addr),
 ∃ (n12 : Nat),
 ∃ (n13 : Nat),
 ∃ (x14 : Int),
 Reads Proofs.Try.prog [] (Instr.loadAt 58 (Value.pointer (some ad7))) w6
 (Value.agg #[Value.int IntKind.i64 x8, Value.int IntKind.i64 x9, Value.int IntKind.i64 x10, Value.slice a11 n12 n13, Value.int IntKind.i64 x14]) ∧
 ∀ (n15 : Nat),
 w6.heap.size ≤ n15 →
 ∀ (w16 : World),
 Evo [n15] w6 w16 →
 Under [n1, n15] w16 →
 Calls Proofs.Try.prog 79
 #[Value.agg
 #[Value.int IntKind.i64 b_0, Value.int IntKind.i64 b_1, Value.int IntKind.i64 b_2, Value.int IntKind.i64 b_3, Value.int IntKind.i64 b_4, Value.int IntKind.i64 b_5,
 Value.int IntKind.i64 b_6, Value.int IntKind.i64 b_7, Value.int IntKind.i64 b_8, Value.int IntKind.i64 b_9, Value.int IntKind.i64 b_10, Value.slice b_11a b_11n b_11c,
 Value.slice b_12a b_12n b_12c, Value.slice b_13a b_13n b_13c, Value.slice b_14a b_14n b_14c, Value.slice b_15a b_15n b_15c],
 Value.int IntKind.i64 x9, Value.int IntKind.i64 x10, Value.slice a11 n12 n13]
 w16 fun (e17 : Ending) (w18 : World) =>
 ∃ (x19 : Int),
 ∃ (x20 : Int),
 ∃ (x21 : Int),
 ∃ (b22 : Bool),
 ∃ (b23 : Bool),
 ∃ (x24 : Int),
 ∃ (x25 : Int),
 ∃ (b26 : Bool),
 e17 =
 Ending.returned
 (Value.tuple
 #[Value.agg
 #[Value.int IntKind.i64 x19, Value.int IntKind.i64 x20, Value.int IntKind.i64 x21, Value.bool b22, Value.bool b23, Value.int IntKind.i64 x24,
 Value.int IntKind.i64 x25],
 Value.bool b26]) ∧
 Keeps [n1, n15] w16 w18 ∧
 ∀ (n27 : Nat),
 w18.heap.size ≤ n27 →
 ∃ (J28 : Bool × Unit → World → Prop),
 (((!b26) = true → ∀ (w29 : World), Evo [n27] w18 w29 → Under [n1, n15, n27] w29 → J28 (true, ()) w29) ∧
 ((!b26) = false →
 ((!b22) = true → ∀ (w30 : World), Evo [n27] w18 w30 → Under [n1, n15, n27] w30 → J28 (true, ()) w30) ∧
 ((!b22) = false →
 (decide (x8 < 1) = true → ∀ (w31 : World), Evo [n27] w18 w31 → Under [n1, n15, n27] w31 → J28 (true, ()) w31) ∧
 (decide (x8 < 1) = false →
 (decide (x8 > b_10) = true → ∀ (w32 : World), Evo [n27] w18 w32 → Under [n1, n15, n27] w32 → J28 (true, ()) w32) ∧
 (decide (x8 > b_10) = false →
 (decide (x5 > 0) = true →
 ∃ (ad33 : Addr),
 Gives Proofs.Try.prog (Instr.indexAt 27 (Value.slice b_13a b_13n b_13c) (Value.int IntKind.i64 (IntKind.i64.wrap (x5 - 1))))
 (Value.pointer (some ad33)) ∧
 ∃ (x34 : Int),
 Reads Proofs.Try.prog [n27] (Instr.loadAt 2 (Value.pointer (some ad33))) w18 (Value.int IntKind.i64 x34) ∧
 ∀ (w35 : World), Evo [n27] w18 w35 → Under [n1, n15, n27] w35 → J28 (decide (x8 ≤ x34), ()) w35) ∧
 (decide (x5 > 0) = false → ∀ (w36 : World), Evo [n27] w18 w36 → Under [n1, n15, n27] w36 → J28 (false, ()) w36)))))) ∧
 ∀ (b37 : Bool) (w38 : World),
 J28 (b37, ()) w38 →
 (b37 = true → R (Ending.returned (Value.bool false)) w38) ∧
 (b37 = false →
 ((b_3 == 0) = true →
 ((x14 != 0) = true → R (Ending.returned (Value.bool false)) w38) ∧
 ((x14 != 0) = false →
 (decide (b_3 > 0) = true →
 (decide (x14 ≤ b_9) = true → R (Ending.returned (Value.bool false)) w38) ∧
 (decide (x14 ≤ b_9) = false →
 (decide (x14 > IntKind.i64.wrap (b_9 + b_3)) = true → R (Ending.returned (Value.bool false)) w38) ∧
 (decide (x14 > IntKind.i64.wrap (b_9 + b_3)) = false →
 J2 (IntKind.i64.wrap (x5 + 1), ()) w38 ∧ J3 (IntKind.i64.wrap (x5 + 1), ()) w38 < J3 (x5, ()) w6))) ∧
 (decide (b_3 > 0) = false → J2 (IntKind.i64.wrap (x5 + 1), ()) w38 ∧ J3 (IntKind.i64.wrap (x5 + 1), ()) w38 < J3 (x5, ()) w6))) ∧
 ((b_3 == 0) = false →
 (decide (b_3 > 0) = true →
 (decide (x14 ≤ b_9) = true → R (Ending.returned (Value.bool false)) w38) ∧
 (decide (x14 ≤ b_9) = false →
 (decide (x14 > IntKind.i64.wrap (b_9 + b_3)) = true → R (Ending.returned (Value.bool false)) w38) ∧
 (decide (x14 > IntKind.i64.wrap (b_9 + b_3)) = false →
 J2 (IntKind.i64.wrap (x5 + 1), ()) w38 ∧ J3 (IntKind.i64.wrap (x5 + 1), ()) w38 < J3 (x5, ()) w6))) ∧
 (decide (b_3 > 0) = false → J2 (IntKind.i64.wrap (x5 + 1), ()) w38 ∧ J3 (IntKind.i64.wrap (x5 + 1), ()) w38 < J3 (x5, ()) w6)))) ∧
 (decide (x5 < (↑b_13n : Int)) = false → R (Ending.returned (Value.bool true)) w6)
theorem f54_eq (b_0 : Int) (b_1 : Int) (b_2 : Int) (b_3 : Int) (b_4 : Int) (b_5 : Int) (b_6 : Int) (b_7 : Int) (b_8 : Int) (b_9 : Int) (b_10 : Int) (b_11a : Option Addr) (b_11n : Nat) (b_11c : Nat) (b_12a : Option Addr) (b_12n : Nat) (b_12c : Nat) (b_13a : Option Addr) (b_13n : Nat) (b_13c : Nat) (b_14a : Option Addr) (b_14n : Nat) (b_14c : Nat) (b_15a : Option Addr) (b_15n : Nat) (b_15c : Nat) (w : World) (R : Ending → World → Prop) : (fnF Go.Proofs.Try.prog h54 Go.Proofs.Try.f54 [Value.agg
 #[Value.int IntKind.i64 b_0, Value.int IntKind.i64 b_1, Value.int IntKind.i64 b_2, Value.int IntKind.i64 b_3, Value.int IntKind.i64 b_4, Value.int IntKind.i64 b_5, Value.int IntKind.i64 b_6, Value.int IntKind.i64 b_7,
 Value.int IntKind.i64 b_8, Value.int IntKind.i64 b_9, Value.int IntKind.i64 b_10, Value.slice b_11a b_11n b_11c, Value.slice b_12a b_12n b_12c, Value.slice b_13a b_13n b_13c, Value.slice b_14a b_14n b_14c,
 Value.slice b_15a b_15n b_15c]] w R).den = f54_vc b_0 b_1 b_2 b_3 b_4 b_5 b_6 b_7 b_8 b_9 b_10 b_11a b_11n b_11c b_12a b_12n b_12c b_13a b_13n b_13c b_14a b_14n b_14c b_15a b_15n b_15c w R := by kernel_rfl
theorem f54_calls (b_0 : Int) (b_1 : Int) (b_2 : Int) (b_3 : Int) (b_4 : Int) (b_5 : Int) (b_6 : Int) (b_7 : Int) (b_8 : Int) (b_9 : Int) (b_10 : Int) (b_11a : Option Addr) (b_11n : Nat) (b_11c : Nat) (b_12a : Option Addr) (b_12n : Nat) (b_12c : Nat) (b_13a : Option Addr) (b_13n : Nat) (b_13c : Nat) (b_14a : Option Addr) (b_14n : Nat) (b_14c : Nat) (b_15a : Option Addr) (b_15n : Nat) (b_15c : Nat) (w : World) (R : Ending → World → Prop) (h : f54_vc b_0 b_1 b_2 b_3 b_4 b_5 b_6 b_7 b_8 b_9 b_10 b_11a b_11n b_11c b_12a b_12n b_12c b_13a b_13n b_13c b_14a b_14n b_14c b_15a b_15n b_15c w R) : Calls Go.Proofs.Try.prog 54 (List.toArray [Value.agg
 #[Value.int IntKind.i64 b_0, Value.int IntKind.i64 b_1, Value.int IntKind.i64 b_2, Value.int IntKind.i64 b_3, Value.int IntKind.i64 b_4, Value.int IntKind.i64 b_5, Value.int IntKind.i64 b_6, Value.int IntKind.i64 b_7,
 Value.int IntKind.i64 b_8, Value.int IntKind.i64 b_9, Value.int IntKind.i64 b_10, Value.slice b_11a b_11n b_11c, Value.slice b_12a b_12n b_12c, Value.slice b_13a b_13n b_13c, Value.slice b_14a b_14n b_14c,
 Value.slice b_15a b_15n b_15c]]) w R :=
 fn_sound (H := h54) (fn := Go.Proofs.Try.f54) (by kernel_rfl) (by kernel_rfl) (by kernel_rfl) ((f54_eq b_0 b_1 b_2 b_3 b_4 b_5 b_6 b_7 b_8 b_9 b_10 b_11a b_11n b_11c b_12a b_12n b_12c b_13a b_13n b_13c b_14a b_14n b_14c b_15a b_15n b_15c w R).mpr h)

end Vcxb

/- book.Right's parts: offers and frames. -/
set_option maxRecDepth 20000
set_option maxHeartbeats 1000000
namespace Go.Vc.W
open Go Go.Vc Go.Vc.V Go.RowKit Go.Proofs Vcw Vcxa Vcxb

variable {w W W' : World} {M : Nat → Prop} {gs : List Nat}

theorem c54 {b : BkA} {d : BkD} (w : World) (hb : Bk w b d) : RetB 54 #[b.v] w (∀ t ∈ d.ofs, vecB t.2.2.2.1 = true) := by
  intro R h
  refine Vcxb.f54_calls _ _ _ _ _ _ _ _ _ _ _ _ _ _ _ _ _ _ _ _ _ _ _ _ _ _ w R ?_
  unfold Vcxb.f54_vc
  have hn := hb.off.len_le
  have out : ∀ {gs w'}, At w gs w' → R (.returned (.bool false)) w' := fun hA => h _ _ hA.below ⟨_, rfl, fun e => by cases e⟩
  intro n1 hn1
  refine ⟨fun v W' => At w [n1] W' ∧ ∃ i : Nat, v.1 = i ∧ i ≤ d.ofs.length ∧ ∀ t ∈ d.ofs.take i, vecB t.2.2.2.1 = true, fun v _ => (b.o.2.1 - v.1).toNat, ⟨fun w4 hb4 hu => ⟨⟨((At.refl w).call hb4).chg, hu⟩, 0, rfl, Nat.zero_le _, by simp⟩, ?_⟩⟩
  rintro x5 w6 ⟨hA, i, hi, hil, hok⟩
  simp only at hi
  subst hi
  refine brD (fun hlt => ?_) (fun hge => h _ _ hA.below ⟨_, rfl, fun _ => ?_⟩)
  · obtain ⟨p, hp⟩ : ∃ x, d.ofs[i]? = some x := ⟨_, List.getElem?_eq_getElem (by omega)⟩
    obtain ⟨ad, cs, g1, el, a1, m1, c1, rfl, s1⟩ := rel_at (t := 27) (hb.call hA.below).off hp (e := 58) (by kernel_rfl) (by kernel_rfl)
    refine ⟨ad, g1, _, _, _, _, _, _, _, el.agg 5 (by kernel_rfl) (by kernel_rfl) (by simp) (by simp), ?_⟩
    intro n15 hn15 w16 hev hun
    have hsz := hA.size
    have hb6 := hev.bel (by intro x hx; simp at hx; omega)
    have hA := hA.evo (by intro x hx; simp at hx; omega) hev hun
    have s1 := s1.call hb6
    refine at_callq hA (c79 p.2.1 p.2.2.1 w16 (hb.call hA.below) s1) fun v w18 hA hk hb18 ⟨f, x, e, hx⟩ => ?_
    subst e
    refine ⟨_, _, _, _, _, _, _, _, rfl, hk, fun n27 hn27 => ?_⟩
    have hsz := hA.size
    have ev : ∀ {W'}, Evo [n27] w18 W' → Under [n1, n15, n27] W' → At w [n1, n15, n27] W' := fun he hu => hA.evo (gs' := [n1, n15, n27]) (by simp; omega) he hu
    refine ⟨fun y W' => At w [n1, n15, n27] W' ∧ (y.1 = false → x = true), ?_, ?_⟩
    · refine brNB (fun _ w29 he hu => ⟨ev he hu, fun e => by cases e⟩) (fun hxx => brNB (fun _ w29 he hu => ⟨ev he hu, fun e => by cases e⟩) (fun _ => brD (fun _ w29 he hu => ⟨ev he hu, fun e => by cases e⟩) (fun _ => brD (fun _ w29 he hu => ⟨ev he hu, fun e => by cases e⟩) (fun _ => brD (fun hpos => ?_) (fun _ w29 he hu => ⟨ev he hu, fun _ => hxx⟩)))))
      obtain ⟨q, hq⟩ : ∃ x, d.ofs[i - 1]? = some x := ⟨_, List.getElem?_eq_getElem (by omega)⟩
      obtain ⟨ad2, cs2, g2, el2, _, _, _, rfl, _⟩ := rel_at (t := 27) (hb.call hA.below).off hq (e := 58) (by kernel_rfl) (by kernel_rfl)
      rw [prev_i (by omega) (by omega)]
      exact ⟨ad2, g2, _, el2.one (by kernel_rfl) (el2.far (by simpa using hn27)), fun w35 he hu => ⟨ev he hu, fun _ => hxx⟩⟩
    · rintro b37 w38 ⟨hA, hbx⟩
      have go : b37 = false → (At w [n1] w38 ∧ ∃ j : Nat, IntKind.i64.wrap ((i : Int) + 1) = j ∧ j ≤ d.ofs.length ∧ ∀ t ∈ d.ofs.take j, vecB t.2.2.2.1 = true) ∧ (b.o.2.1 - IntKind.i64.wrap ((i : Int) + 1)).toNat < (b.o.2.1 - (i : Int)).toNat := fun he => by
        rw [succ_i i (by omega)]
        exact ⟨⟨hA.sub (by simp), i + 1, rfl, by omega, take_all hp hok (hx (hbx he))⟩, by omega⟩
      refine brB (fun _ => out hA) (fun he => ?_)
      have go := go he
      exact brE (fun _ => brN (fun _ => out hA) (fun _ => brD (fun _ => brD (fun _ => out hA) (fun _ => brD (fun _ => out hA) (fun _ => go))) (fun _ => go))) (fun _ => brD (fun _ => brD (fun _ => out hA) (fun _ => brD (fun _ => out hA) (fun _ => go))) (fun _ => go))
  · rw [show i = d.ofs.length by omega, List.take_length] at hok
    exact hok

theorem K3 : KeyOk Try.prog 3 (Value.int .i64) := keyOk_int (by kernel_rfl)
theorem t99 : Try.prog.underlying 99 = some (.map 3 2) := by kernel_rfl
theorem z99 : pureRun Try.prog (zeroValue 2) = some (.int .i64 0) := by kernel_rfl
/-- Frames that may be: in order; one that is up has no end. -/
abbrev frOk (l : List FrT) : Prop := l.Pairwise (fun x y => x.1 < y.1) ∧ ∀ f ∈ l, f.2.2.2.1 = true → f.2.2.2.2.2.2 = 0
theorem c51 {b : BkA} {d : BkD} (w : World) (hb : Bk w b d) : RetB 51 #[b.v] w (frOk d.frs) := by
  intro R h
  refine f51_calls _ _ _ _ _ _ _ _ _ _ _ _ _ _ _ _ _ _ _ _ _ _ _ _ _ _ w R ?_
  unfold f51_vc
  have hn := hb.fr.len_le
  have out : ∀ {gs w'}, At w gs w' → R (.returned (.bool false)) w' := fun hA => h _ _ hA.below ⟨_, rfl, fun e => by cases e⟩
  intro n1 hn1 w2 hb2 hu2
  have hA : At w [n1] w2 := ⟨((At.refl w).call hb2).chg, hu2⟩
  refine opw_makeMap (kf := Value.int .i64) (vf := Value.int .i64) hA fun r w4 hr hA hk hb4 ho => ⟨_, rfl, hk, ?_⟩
  refine ⟨fun v W' => At w [n1] W' ∧ (∃ m : List (Int × Int), OwnM w noB [n1] W' r (Value.int .i64) (Value.int .i64) m) ∧ ∃ i : Nat, v.1 = i ∧ i ≤ d.frs.length ∧ frOk (d.frs.take i), fun v _ => (b.f.2.1 - v.1).toNat, ⟨hA, ⟨_, ho⟩, 0, rfl, Nat.zero_le _, by simp [frOk]⟩, ?_⟩
  rintro x8 w9 ⟨hA, ⟨m, ho⟩, i, hi, hil, hok⟩
  simp only at hi
  subst hi
  refine brD (fun hlt => ?_) (fun hge => h _ _ hA.below ⟨_, rfl, fun _ => ?_⟩)
  · obtain ⟨p, hp⟩ : ∃ x, d.frs[i]? = some x := ⟨_, List.getElem?_eq_getElem (by omega)⟩
    obtain ⟨ad, g1, el, _⟩ := elt_at (P := Try.prog) (k := .i64) (t := 25) (hb.fr.call hA.below) hp (e := 48) (by kernel_rfl) (by kernel_rfl)
    refine ⟨fun _ W' => At w [n1] W' ∧ (∃ m : List (Int × Int), OwnM w noB [n1] W' r (Value.int .i64) (Value.int .i64) m) ∧ frOk (d.frs.take (i + 1)), ⟨ad, g1, _, _, _, _, _, _, _, el.agg 7 (by kernel_rfl) (by kernel_rfl) (by simp) (by simp), ?_⟩, ?_⟩
    · intro n19 hn19
      have hsz := hA.size
      have hrl := ho.lt
      have hrn : r ∉ [n1, n19] := fun e => by
        rcases List.mem_cons.1 e with e | e
        · exact ho.apart (by simp [e])
        · have : r = n19 := by simpa using e
          omega
      have ho : OwnM w noB [n1, n19] w9 r (Value.int .i64) (Value.int .i64) m := ⟨ho.mine, hrn, ho.obj⟩
      refine ⟨fun _ W' => At w [n1, n19] W' ∧ (∃ m : List (Int × Int), OwnM w noB [n1, n19] W' r (Value.int .i64) (Value.int .i64) m) ∧ ∀ q, 0 < i → d.frs[i - 1]? = some q → q.1 < p.1, ⟨fun x W' => (At w [n1, n19] W' ∧ (∃ m : List (Int × Int), OwnM w noB [n1, n19] W' r (Value.int .i64) (Value.int .i64) m)) ∧ (x.1 = false → ∀ q, 0 < i → d.frs[i - 1]? = some q → q.1 < p.1), ?_, ?_⟩, ?_⟩
      · intro w22 hev hun
        have hb22 := hev.bel (by intro x hx; simp at hx; omega)
        have hA := hA.evo (gs' := [n1, n19]) (by simp; omega) hev hun
        have ho := ho.call hb22
        have yes : ∀ {W'}, At w [n1, n19] W' → Bel w22 W' → (At w [n1, n19] W' ∧ (∃ m : List (Int × Int), OwnM w noB [n1, n19] W' r (Value.int .i64) (Value.int .i64) m)) ∧ (true = false → ∀ q, 0 < i → d.frs[i - 1]? = some q → q.1 < p.1) := fun hA hb => ⟨⟨hA, _, ho.call hb⟩, fun e => by cases e⟩
        have oth : ∀ {W'}, At w [n1, n19] W' → Bel w22 W' → (∀ q, 0 < i → d.frs[i - 1]? = some q → q.1 < p.1) → ∀ x : Bool, (At w [n1, n19] W' ∧ (∃ m : List (Int × Int), OwnM w noB [n1, n19] W' r (Value.int .i64) (Value.int .i64) m)) ∧ (x = false → ∀ q, 0 < i → d.frs[i - 1]? = some q → q.1 < p.1) := fun hA hb hq x => ⟨⟨hA, _, ho.call hb⟩, fun _ => hq⟩
        refine at_callb hA (c76 p.1 w22) fun w24 hA hk hb24 => ⟨_, rfl, hk, brNB (fun _ => yes hA hb24) (fun _ => brD (fun hpos => ?_) (fun hpos => ?_))⟩
        · obtain ⟨q, hq⟩ : ∃ x, d.frs[i - 1]? = some x := ⟨_, List.getElem?_eq_getElem (by omega)⟩
          obtain ⟨ad2, g2, el2, _⟩ := elt_at (P := Try.prog) (k := .i64) (t := 25) (hb.fr.call hA.below) hq (e := 48) (by kernel_rfl) (by kernel_rfl)
          rw [prev_i (by omega) (by omega)]
          have rq : ∀ {W'}, Bel w24 W' → Reads Try.prog [] (Instr.loadAt 2 (.pointer (some ad2))) W' (.int .i64 q.1) := fun hb => (el2.below hb).one (by kernel_rfl) (by simp)
          refine ⟨ad2, g2, _, rq (At.refl w24).below, brD (fun _ => yes hA hb24) (fun hlt2 => ?_)⟩
          have hqq : ∀ q', 0 < i → d.frs[i - 1]? = some q' → q'.1 < p.1 := fun q' _ hq' => by
            rw [hq] at hq'
            cases hq'
            omega
          refine brN (fun _ => ?_) (fun _ => brD (fun _ => yes hA hb24) (fun _ => oth hA hb24 hqq _))
          exact at_callb hA (c76 _ w24) fun w29 hA hk hb29 => ⟨_, rfl, hk, rq hb29, brNB (fun _ => yes hA (hb24.trans hb29)) (fun _ => brD (fun _ => yes hA (hb24.trans hb29)) (fun _ => oth hA (hb24.trans hb29) hqq _))⟩
        · have hqq : ∀ q', 0 < i → d.frs[i - 1]? = some q' → q'.1 < p.1 := fun q' h0 _ => absurd h0 (by omega)
          refine brN (fun _ => ?_) (fun _ => brD (fun _ => yes hA hb24) (fun _ => oth hA hb24 hqq _))
          exact at_callb hA (c76 _ w24) fun w29 hA hk hb29 => ⟨_, rfl, hk, brNB (fun _ => yes hA (hb24.trans hb29)) (fun _ => brD (fun _ => yes hA (hb24.trans hb29)) (fun _ => oth hA (hb24.trans hb29) hqq _))⟩
      · rintro b34 w35 ⟨⟨hA, hm⟩, hbx⟩
        exact brB (fun _ => out hA) (fun he => ⟨hA, hm, hbx he⟩)
      · rintro w36 ⟨hA, ⟨m, ho⟩, hqq⟩
        refine ⟨fun _ W' => At w [n1, n19] W' ∧ (∃ m : List (Int × Int), OwnM w noB [n1, n19] W' r (Value.int .i64) (Value.int .i64) m), ⟨fun _ W' => At w [n1, n19] W' ∧ (∃ m : List (Int × Int), OwnM w noB [n1, n19] W' r (Value.int .i64) (Value.int .i64) m), ?_, ?_⟩, ?_⟩
        · have hl := reads_lookup2 (z := .int .i64 0) K3 t99 z99 ho p.2.1 (ds := []) (by intro d hd; cases hd)
          cases e : mget p.2.1 m with
          | none => rw [e] at hl; exact ⟨_, _, hl, hA, m, ho⟩
          | some x => rw [e] at hl; exact ⟨_, _, hl, hA, m, ho⟩
        · rintro x41 b42 w43 hA
          refine ⟨fun _ W' => At w [n1, n19] W' ∧ (∃ m : List (Int × Int), OwnM w noB [n1, n19] W' r (Value.int .i64) (Value.int .i64) m), brB (fun _ => brN (fun _ => hA) (fun _ => brD (fun _ => hA) (fun _ => hA))) (fun _ => brD (fun _ => hA) (fun _ => hA)), ?_⟩
          rintro b45 w46 hA
          exact brB (fun _ => out hA.1) (fun _ => hA)
        · rintro w47 ⟨hA, m, ho⟩
          refine ⟨fun _ W' => At w [n1, n19] W' ∧ (∃ m : List (Int × Int), OwnM w noB [n1, n19] W' r (Value.int .i64) (Value.int .i64) m), opw_mapUpdate (kf := Value.int .i64) (vf := Value.int .i64) (k := p.2.1) (v := p.2.2.1) (kt := 3) (et := 2) K3 t99 hA ho fun w50 hA hk _ ho => ⟨hk, hA, _, ho⟩, ?_⟩
          rintro w51 hA
          refine ⟨fun x W' => (At w [n1, n19] W' ∧ (∃ m : List (Int × Int), OwnM w noB [n1, n19] W' r (Value.int .i64) (Value.int .i64) m)) ∧ (x.1 = false → p.2.2.2.1 = true → p.2.2.2.2.2.2 = 0), ?_, ?_⟩
          · refine brD (fun _ => ⟨hA, fun e => by cases e⟩) (fun h1 => brD (fun _ => ⟨hA, fun e => by cases e⟩) (fun _ => brB (fun hup => ⟨hA, fun he _ => ?_⟩) (fun hup => ⟨hA, fun _ e => ?_⟩)))
            · have he := of_decide_eq_false he
              omega
            · rw [hup] at e
              cases e
          · rintro b53 w54 ⟨⟨hA, m, ho⟩, hup⟩
            refine brB (fun _ => out hA) (fun he => ⟨hA.sub (by simp), ⟨m, ho.mine, (fun e => ho.apart (by simp at e; simp [e])), ho.obj⟩, ?_⟩)
            exact ⟨take_pw (fun _ _ _ => Int.lt_trans) hp hok.1 hqq, take_all hp hok.2 (hup he)⟩
    · rintro w55 ⟨hA, hm, hok⟩
      rw [succ_i i (by omega)]
      exact ⟨⟨hA, hm, i + 1, rfl, by omega, hok⟩, by simp only; omega⟩
  · rw [show i = d.frs.length by omega, List.take_length] at hok
    exact hok
end Go.Vc.W

/- book.Right's parts: the sums of all agents. -/
set_option maxRecDepth 20000
set_option maxHeartbeats 1000000
namespace Go.Vc.W
open Go Go.Vc Go.Vc.V Go.RowKit Go.Proofs Vcw Vcxa

variable {w W W' : World} {M : Nat → Prop} {gs : List Nat}

theorem sle77 {p : Nat} {s0 s1 s2 s3 : Int} (h : W.heap[p]? = some (.cells ([.int .i64 s0, .int .i64 s1, .int .i64 s2, .int .i64 s3] : List Value).toArray 77 (0, 0))) : SlE W 1 intE [s0, s1, s2, s3] (some ⟨p, 0, none⟩) 4 4 := by
  refine ⟨rfl, Nat.le_refl _, by decide, fun e => (by cases e), fun i x hx => ?_⟩
  refine ⟨_, [.int .i64 x], rfl, rfl, fun j v hv => ?_, rfl⟩
  have he := elt_cells h
  have hj : j = 0 := by have := (List.getElem?_eq_some_iff.1 hv).1; simp at this; omega
  subst hj
  have := he i (.int .i64 x) (by
    have e : ([.int .i64 s0, .int .i64 s1, .int .i64 s2, .int .i64 s3] : List Value) = [s0, s1, s2, s3].map (Value.int .i64) := rfl
    rw [e, List.getElem?_map, hx]
    rfl)
  rw [Nat.mul_one, addr_add_add _ _ _ rfl, Nat.add_zero]
  have ev : v = .int .i64 x := by simpa using hv.symm
  rw [ev]
  exact this
theorem c53 {b : BkA} {d : BkD} (w : World) (hb : Bk w b d) : RetBool 53 #[b.v] w := by
  intro R h
  refine f53_calls _ _ _ _ _ _ _ _ _ _ _ _ _ _ _ _ _ _ _ _ _ _ _ _ _ _ w R ?_
  unfold f53_vc
  have hn := hb.ag.len_le
  have out : ∀ (x : Bool) {gs w'}, At w gs w' → R (.returned (.bool x)) w' := fun x _ w' hA => h _ _ hA.below ⟨x, rfl⟩
  intro n1 hn1 n2 hn2
  refine ⟨fun v W' => At w [n1, n2] W' ∧ ∃ i : Nat, v.1 = i ∧ i ≤ d.ags.length, fun v _ => (b.a.2.1 - v.1).toNat, ⟨fun w4 hb4 hu => ⟨⟨((At.refl w).call hb4).chg, hu⟩, 0, rfl, Nat.zero_le _⟩, ?_⟩⟩
  rintro x6 x7 x8 x9 x10 w11 ⟨hA, i, hi, hil⟩
  simp only at hi
  subst hi
  refine brD (fun hlt => ?_) (fun _ => out _ hA)
  obtain ⟨q, hq⟩ : ∃ x, d.ags[i]? = some x := ⟨_, List.getElem?_eq_getElem (by omega)⟩
  obtain ⟨ad, cs, g1, el, a1, m1, c1, a2, m2, c2, rfl, s1, s2⟩ := rel_at (t := 26) (hb.call hA.below).ag hq (e := 56) (by kernel_rfl) (by kernel_rfl)
  refine ⟨ad, g1, _, _, _, _, _, _, _, el.agg 3 (by kernel_rfl) (by kernel_rfl) (by simp) (by simp), fun n20 hn20 => ?_⟩
  have hsz := hA.size
  have e47 : ∃ z0 z1 z2 z3, ofV q.2.1 = arrV z0 z1 z2 z3 := by
    unfold ofV
    split
    · exact ⟨_, _, _, _, rfl⟩
    · exact ⟨_, _, _, _, rfl⟩
  obtain ⟨z0, z1, z2, z3, e47⟩ := e47
  have k47 : ∀ {W : World}, SlE W 3 partE q.2.1 a1 m1 c1 → Ret Try.prog 47 #[.slice a1 m1 c1] W (arrV z0 z1 z2 z3) := fun hs => by rw [← e47]; exact c47 _ hs
  have e77 : ∃ y0 y1 y2 y3 ok, sumA x7 x8 x9 x10 z0 z1 z2 z3 = pairA y0 y1 y2 y3 ok := by
    unfold sumA
    split
    · exact ⟨_, _, _, _, _, rfl⟩
    · exact ⟨_, _, _, _, _, rfl⟩
  obtain ⟨y0, y1, y2, y3, ok, e77⟩ := e77
  have k77 : ∀ W : World, Ret Try.prog 77 #[arrV x7 x8 x9 x10, arrV z0 z1 z2 z3] W (pairA y0 y1 y2 y3 ok) := fun W => by rw [← e77]; exact c77 _ _ _ _ _ _ _ _ _
  have tail : ∀ (p : Nat) (W : World), At w [n1, n2, n20] W → W.heap[p]? = some (.cells ([.int .i64 y0, .int .i64 y1, .int .i64 y2, .int .i64 y3] : List Value).toArray 77 (0, 0)) → p ≠ n2 →
      ((!ok) = true → ∀ (w40 : World), Bel W w40 → Under [n1, n2, n20] w40 → R (Ending.returned (Value.bool false)) w40) ∧
      ((!ok) = false → ∃ (a41 : Option Addr), ∃ (n42 : Nat), ∃ (n43 : Nat),
        Gives Try.prog (Instr.sliceAt 77 (Value.pointer (some ⟨p, 0, none⟩)) none none none) (Value.slice a41 n42 n43) ∧
        ∀ (w44 : World), Bel W w44 → Under [n1, n2, n20] w44 →
        Calls Try.prog 78 #[Value.slice a41 n42 n43] w44 fun (e45 : Ending) (w46 : World) => ∃ (x47 : Int), e45 = Ending.returned (Value.int IntKind.i64 x47) ∧ Keeps [n1, n2, n20] w44 w46 ∧
          (decide (x47 > b.c1) = true → R (Ending.returned (Value.bool false)) w46) ∧
          (decide (x47 > b.c1) = false → ∃ (x48 : Int), ∃ (x49 : Int), ∃ (x50 : Int), ∃ (x51 : Int),
            Reads Try.prog [] (Instr.loadAt 77 (Value.pointer (some ⟨p, 0, none⟩))) w46 (Value.agg #[Value.int IntKind.i64 x48, Value.int IntKind.i64 x49, Value.int IntKind.i64 x50, Value.int IntKind.i64 x51]) ∧
            ∀ (w52 : World), Evo [n2] w46 w52 → Under [n1, n2, n20] w52 →
              (At w [n1, n2] w52 ∧ ∃ j : Nat, IntKind.i64.wrap ((i : Int) + 1) = j ∧ j ≤ d.ags.length) ∧ (b.a.2.1 - IntKind.i64.wrap ((i : Int) + 1)).toNat < (b.a.2.1 - (i : Int)).toNat)) := by
    intro p W hA hp hpn
    refine ⟨fun _ w40 hb40 hu => out _ (hA.call hb40), fun _ => ⟨_, _, _, gives_slice_arr0 (e := 2) (n := 1) (m := 4) (by kernel_rfl) (by kernel_rfl), fun w44 hb44 hu44 => ?_⟩⟩
    have hp44 : w44.heap[p]? = some (.cells ([.int .i64 y0, .int .i64 y1, .int .i64 y2, .int .i64 y3] : List Value).toArray 77 (0, 0)) := (hb44.block (Array.getElem?_eq_some_iff.1 hp).1).trans hp
    have hA : At w [n1, n2, n20] w44 := ⟨(hA.call hb44).chg, hu44⟩
    refine at_callb hA (c78 w44 (sle77 hp44)) fun w46 hA hk hb46 => ⟨_, rfl, hk, brD (fun _ => out _ hA) (fun _ => ⟨y0, y1, y2, y3, ?_, fun w52 he hu => ?_⟩)⟩
    · exact ((elt_cells hp44).below hb46).agg 4 (by kernel_rfl) (by kernel_rfl) (by simp) (by simp)
    · have hA := hA.evo (gs' := [n1, n2, n20]) (by simp; omega) he hu
      rw [succ_i i (by omega)]
      exact ⟨⟨hA.sub (by simp), i + 1, rfl, by omega⟩, by omega⟩
  have fresh : ∀ {W : World} {p : Nat}, At w [n1, n2, n20] W → W.heap.size = p → p ∉ [n1, n2, n20] := fun hA hp hx => by have := hA.under _ hx; omega
  have al : ∀ {W : World} {K : Value → World → Prop}, At w [n1, n2, n20] W → (∀ g w', W.heap.size = g → At w [n1, n2, n20] w' → Keeps [n1, n2, n20] W w' → Bel W w' → w'.heap[g]? = some (.cells ([.int .i64 0, .int .i64 0, .int .i64 0, .int .i64 0] : List Value).toArray 77 (0, 0)) → K (.pointer (some ⟨g, 0, none⟩)) w') → OpW Try.prog (valueS (Instr.alloc 77 true (.tuple #[]))) W K := fun hA h => opw_allocS [.int .i64 0, .int .i64 0, .int .i64 0, .int .i64 0] (zv := arrV 0 0 0 0) (by kernel_rfl) rfl hA h
  refine ⟨fun w21 he21 hu21 => ?_, ?_⟩
  · have hb21 := he21.bel (by intro x hx; simp at hx; omega)
    have hA := hA.evo (gs' := [n1, n2, n20]) (by simp; omega) he21 hu21
    refine at_callb hA (k47 (s1.call hb21)) fun w23 hA hk _ => ?_
    have hsz23 := hA.size
    refine ⟨_, _, _, _, rfl, hk, ?_, ?_⟩
    · refine at_callb hA (k77 w23) fun w29 hA hk _ => ⟨_, _, _, _, _, rfl, hk, ?_⟩
      refine al hA fun p w36 hp hA36 hk _ hpb => ⟨_, rfl, hk, ?_⟩
      have hf := fresh hA hp
      refine opw_storeF hA36 hpb (.inl (by have := hA.size; omega)) hf (cells' := [.int .i64 y0, .int .i64 y1, .int .i64 y2, .int .i64 y3]) (by kernel_rfl) fun w39 hA hk _ hpb => ⟨hk, tail p w39 hA hpb fun e => hf (by simp [e])⟩
    · refine al hA fun p w54 hp hA54 hk _ hpb => ⟨_, rfl, hk, ?_⟩
      have hf := fresh hA hp
      refine at_callb hA54 (k77 w54) fun w57 hA hk hb57 => ⟨_, _, _, _, _, rfl, hk, ?_⟩
      have hpb := (hb57.block (Array.getElem?_eq_some_iff.1 hpb).1).trans hpb
      refine opw_storeF hA hpb (.inl (by omega)) hf (cells' := [.int .i64 y0, .int .i64 y1, .int .i64 y2, .int .i64 y3]) (by kernel_rfl) fun w39 hA hk _ hpb => ⟨hk, tail p w39 hA hpb fun e => hf (by simp [e])⟩
  · intro w78 he78 hu78
    have hb78 := he78.bel (by intro x hx; simp at hx; omega)
    have hA := hA.evo (gs' := [n1, n2, n20]) (by simp; omega) he78 hu78
    refine al hA fun p w80 hp hA80 hk hb80 hpb => ⟨_, rfl, hk, ?_⟩
    have hf := fresh hA hp
    refine at_callb hA80 (k47 ((s1.call hb78).call hb80)) fun w83 hA83 hk hb83 => ⟨_, _, _, _, rfl, hk, ?_⟩
    refine at_callb hA83 (k77 w83) fun w89 hA89 hk hb89 => ⟨_, _, _, _, _, rfl, hk, ?_⟩
    have hpb := ((hb83.trans hb89).block (Array.getElem?_eq_some_iff.1 hpb).1).trans hpb
    refine opw_storeF hA89 hpb (.inl (by have := hA.size; omega)) hf (cells' := [.int .i64 y0, .int .i64 y1, .int .i64 y2, .int .i64 y3]) (by kernel_rfl) fun w39 hA hk _ hpb => ⟨hk, tail p w39 hA hpb fun e => hf (by simp [e])⟩
end Go.Vc.W

