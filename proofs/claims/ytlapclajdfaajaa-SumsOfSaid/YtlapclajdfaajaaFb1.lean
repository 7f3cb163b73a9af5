/- The formulas of functions, printed by a program (VcTool.lean): each is what the generator's formula comes to, by the kernel's reckoning; whoever proves one has the function's contract. -/
import Derived.Test.YtlapclajdfaajaaVcFn
import Derived.Test.YtlapclajdfaajaaProg
set_option maxRecDepth 100000
set_option maxHeartbeats 1000000
set_option linter.unusedVariables false
namespace Vcb
open Go Go.Vc Go.RowKit
/-! manciple/manciplelaw07.ShareCmps -/
def h3 : Hints := ⟨[3, 4], [48, 53, 67, 72, 77, 82, 96], [14, 37, 43, 60, 88, 100, 28, 64, 93, 107], [(3, [0, 1, 3, 4, 5, 6, 7, 8, 9, 10, 2, 11, 12, 13, 14, 16, 17, 18, 19, 15, 20, 21, 22]), (10, [0, 1, 2, 3, 4, 5, 6, 7, 8, 9, 10, 11]), (14, [0, 1, 2, 3, 4, 5, 6, 7, 8, 9, 10, 11, 12, 13, 14, 15, 16, 17, 18, 19, 20, 21, 22, 23, 24, 25])], [], [(8, ⟨[(8, .int .i64), (9, .int .i64)], []⟩), (12, ⟨[(10, .bool), (11, .int .i64)], []⟩)], [], [], []⟩
def f3_vc (a_0 : Int) (a_1 : Int) (a_2 : Int) (b_0 : Int) (b_1 : Int) (b_2 : Int) (la : Option Addr) (ln : Nat) (lc : Nat) (w : World) (R : Ending → World → Prop) : Prop :=
 ∀ (n1 : Nat),
 w.heap.size ≤ n1 →
 ∀ (n2 : Nat),
 w.heap.size ≤ n2 →
 (decide ((↑ln : Int) > 40) = true → ∀ (w3 : World), Below w.heap.size w w3 → Under [n1, n2] w3 → R (Ending.returned (Value.bool true)) w3) ∧
 (decide ((↑ln : Int) > 40) = false →
 ∀ (w4 : World),
 Below w.heap.size w w4 →
 Under [n1, n2] w4 →
 Calls Proofs.Try.prog 11 #[Value.agg #[Value.int IntKind.i64 a_0, Value.int IntKind.i64 a_1, Value.int IntKind.i64 a_2], Value.agg #[Value.int IntKind.i64 b_0, Value.int IntKind.i64 b_1, Value.int IntKind.i64 b_2]] w4
 fun (e5 : Ending) (w6 : World) =>
 ∃ (x7 : Int),
 e5 = Ending.returned (Value.int IntKind.i64 x7) ∧
 Keeps [n1, n2] w4 w6 ∧
 Calls Proofs.Try.prog 12 #[Value.agg #[Value.int IntKind.i64 a_0, Value.int IntKind.i64 a_1], Value.int IntKind.i64 a_2, Value.agg #[Value.int IntKind.i64 b_0, Value.int IntKind.i64 b_1], Value.int IntKind.i64 b_2]
 w6 fun (e8 : Ending) (w9 : World) =>
 ∃ (x10 : Int),
 e8 = Ending.returned (Value.int IntKind.i64 x10) ∧
 Keeps [n1, n2] w6 w9 ∧
 ((x7 != x10) = true → R (Ending.returned (Value.bool false)) w9) ∧
 ((x7 != x10) = false →
 Calls Proofs.Try.prog 13 #[Value.agg #[Value.int IntKind.i64 a_0, Value.int IntKind.i64 a_1, Value.int IntKind.i64 a_2]] w9 fun (e11 : Ending) (w12 : World) =>
 ∃ (b13 : Bool),
 e11 = Ending.returned (Value.bool b13) ∧
 Keeps [n1, n2] w9 w12 ∧
 Calls Proofs.Try.prog 14 #[Value.agg #[Value.int IntKind.i64 a_0, Value.int IntKind.i64 a_1], Value.int IntKind.i64 a_2] w12 fun (e14 : Ending) (w15 : World) =>
 ∃ (b16 : Bool),
 e14 = Ending.returned (Value.bool b16) ∧
 Keeps [n1, n2] w12 w15 ∧
 ((!b13 == b16) = true → R (Ending.returned (Value.bool false)) w15) ∧
 ((!b13 == b16) = false →
 Calls Proofs.Try.prog 15 #[Value.slice la ln lc] w15 fun (e17 : Ending) (w18 : World) =>
 ∃ (a19 : Option Addr),
 ∃ (n20 : Nat),
 ∃ (n21 : Nat),
 e17 = Ending.returned (Value.slice a19 n20 n21) ∧
 Keeps [n1, n2] w15 w18 ∧
 ∃ (J22 : Int × Int × Unit → World → Prop),
 ∃ (J23 : Int × Int × Unit → World → Nat),
 J22 (0, 0, ()) w18 ∧
 ∀ (x24 x25 : Int) (w26 : World),
 J22 (x24, x25, ()) w26 →
 (decide (x25 < (↑ln : Int)) = true →
 ∃ (ad27 : Addr),
 Gives Proofs.Try.prog (Instr.indexAt 26 (Value.slice la ln lc) (Value.int IntKind.i64 x25)) (Value.pointer (some ad27)) ∧
 ∃ (x28 : Int),
 ∃ (x29 : Int),
 Reads Proofs.Try.prog [] (Instr.loadAt 23 (Value.pointer (some ad27))) w26 (Value.agg #[Value.int IntKind.i64 x28, Value.int IntKind.i64 x29]) ∧
 ∃ (ad30 : Addr),
 Gives Proofs.Try.prog (Instr.indexAt 26 (Value.slice la ln lc) (Value.int IntKind.i64 x25)) (Value.pointer (some ad30)) ∧
 ∃ (x31 : Int),
 Reads Proofs.Try.prog [] (Instr.loadAt 2 (Value.pointer (some (Addr.mk ad30.block (ad30.off + 2) none)))) w26 (Value.int IntKind.i64 x31) ∧
 ∀ (w32 : World),
 Below w26.heap.size w26 w32 →
 Under [n1, n2] w32 →
 Calls Proofs.Try.prog 14 #[Value.agg #[Value.int IntKind.i64 x28, Value.int IntKind.i64 x29], Value.int IntKind.i64 x31] w32
 fun (e33 : Ending) (w34 : World) =>
 ∃ (b35 : Bool),
 e33 = Ending.returned (Value.bool b35) ∧
 Keeps [n1, n2] w32 w34 ∧
 ∃ (J36 : Bool × Int × Unit → World → Prop),
 ∃ (J37 : Bool × Int × Unit → World → Nat),
 J36 (b35, 0, ()) w34 ∧
 ∀ (b38 : Bool) (x39 : Int) (w40 : World),
 J36 (b38, x39, ()) w40 →
 (decide (x39 < (↑ln : Int)) = true →
 (b38 = true →
 ∃ (ad41 : Addr),
 Gives Proofs.Try.prog (Instr.indexAt 26 (Value.slice la ln lc) (Value.int IntKind.i64 x39))
 (Value.pointer (some ad41)) ∧
 ∃ (x42 : Int),
 ∃ (x43 : Int),
 Reads Proofs.Try.prog [] (Instr.loadAt 23 (Value.pointer (some ad41))) w40
 (Value.agg #[Value.int IntKind.i64 x42, Value.int IntKind.i64 x43]) ∧
 ∃ (ad44 : Addr),
 Gives Proofs.Try.prog (Instr.indexAt 26 (Value.slice la ln lc) (Value.int IntKind.i64 x39))
 (Value.pointer (some ad44)) ∧
 ∃ (x45 : Int),
 Reads Proofs.Try.prog []
 (Instr.loadAt 2 (Value.pointer (some (Addr.mk ad44.block (ad44.off + 2) none)))) w40
 (Value.int IntKind.i64 x45) ∧
 ∃ (ad46 : Addr),
 Gives Proofs.Try.prog
 (Instr.indexAt 26 (Value.slice la ln lc) (Value.int IntKind.i64 x25))
 (Value.pointer (some ad46)) ∧
 ∃ (x47 : Int),
 ∃ (x48 : Int),
 Reads Proofs.Try.prog [] (Instr.loadAt 23 (Value.pointer (some ad46))) w40
 (Value.agg #[Value.int IntKind.i64 x47, Value.int IntKind.i64 x48]) ∧
 ∃ (ad49 : Addr),
 Gives Proofs.Try.prog
 (Instr.indexAt 26 (Value.slice la ln lc) (Value.int IntKind.i64 x25))
 (Value.pointer (some ad49)) ∧
 ∃ (x50 : Int),
 Reads Proofs.Try.prog []
 (Instr.loadAt 2
 (Value.pointer (some (Addr.mk ad49.block (ad49.off + 2) none))))
 w40 (Value.int IntKind.i64 x50) ∧
 ∀ (w51 : World),
 Below w40.heap.size w40 w51 →
 Under [n1, n2] w51 →
 Calls Proofs.Try.prog 12
 #[Value.agg
 #[Value.int IntKind.i64 x42, Value.int IntKind.i64 x43],
 Value.int IntKind.i64 x45,
 Value.agg
 #[Value.int IntKind.i64 x47, Value.int IntKind.i64 x48],
 Value.int IntKind.i64 x50]
 w51 fun (e52 : Ending) (w53 : World) =>
 ∃ (x54 : Int),
 e52 = Ending.returned (Value.int IntKind.i64 x54) ∧
 Keeps [n1, n2] w51 w53 ∧
 J36 (decide (x54 ≥ 0), IntKind.i64.wrap (x39 + 1), ())
 w53 ∧
 J37 (decide (x54 ≥ 0), IntKind.i64.wrap (x39 + 1), ())
 w53 <
 J37 (b38, x39, ()) w40) ∧
 (b38 = false →
 ∀ (w55 : World),
 Below w40.heap.size w40 w55 →
 Under [n1, n2] w55 →
 J36 (false, IntKind.i64.wrap (x39 + 1), ()) w55 ∧
 J37 (false, IntKind.i64.wrap (x39 + 1), ()) w55 < J37 (b38, x39, ()) w40)) ∧
 (decide (x39 < (↑ln : Int)) = false →
 (b38 = true →
 (decide (x24 ≥ (↑n20 : Int)) = true → R (Ending.returned (Value.bool false)) w40) ∧
 (decide (x24 ≥ (↑n20 : Int)) = false →
 ∃ (ad56 : Addr),
 Gives Proofs.Try.prog (Instr.indexAt 31 (Value.slice a19 n20 n21) (Value.int IntKind.i64 x24))
 (Value.pointer (some ad56)) ∧
 ∃ (x57 : Int),
 Reads Proofs.Try.prog [] (Instr.loadAt 3 (Value.pointer (some ad56))) w40
 (Value.int IntKind.i64 x57) ∧
 ((x57 != x25) = true → R (Ending.returned (Value.bool false)) w40) ∧
 ((x57 != x25) = false →
 J22 (IntKind.i64.wrap (x24 + 1), IntKind.i64.wrap (x25 + 1), ()) w40 ∧
 J23 (IntKind.i64.wrap (x24 + 1), IntKind.i64.wrap (x25 + 1), ()) w40 <
 J23 (x24, x25, ()) w26))) ∧
 (b38 = false →
 J22 (x24, IntKind.i64.wrap (x25 + 1), ()) w40 ∧
 J23 (x24, IntKind.i64.wrap (x25 + 1), ()) w40 < J23 (x24, x25, ()) w26))) ∧
 (decide (x25 < (↑ln : Int)) = false →
 ((x24 == (↑n20 : Int)) = true →
 Calls Proofs.Try.prog 16 #[] w26 fun (e58 : Ending) (w59 : World) =>
 ∃ (b60 : Bool), e58 = Ending.returned (Value.bool b60) ∧ Keeps [n1, n2] w26 w59 ∧ R (Ending.returned (Value.bool b60)) w59) ∧
 ((x24 == (↑n20 : Int)) = false → R (Ending.returned (Value.bool false)) w26)))))
theorem f3_eq (a_0 : Int) (a_1 : Int) (a_2 : Int) (b_0 : Int) (b_1 : Int) (b_2 : Int) (la : Option Addr) (ln : Nat) (lc : Nat) (w : World) (R : Ending → World → Prop) : (fnF Go.Proofs.Try.prog h3 Go.Proofs.Try.f3 [Value.agg #[Value.int IntKind.i64 a_0, Value.int IntKind.i64 a_1, Value.int IntKind.i64 a_2], Value.agg #[Value.int IntKind.i64 b_0, Value.int IntKind.i64 b_1, Value.int IntKind.i64 b_2], Value.slice la ln lc] w R).den = f3_vc a_0 a_1 a_2 b_0 b_1 b_2 la ln lc w R := by kernel_rfl
theorem f3_calls (a_0 : Int) (a_1 : Int) (a_2 : Int) (b_0 : Int) (b_1 : Int) (b_2 : Int) (la : Option Addr) (ln : Nat) (lc : Nat) (w : World) (R : Ending → World → Prop) (h : f3_vc a_0 a_1 a_2 b_0 b_1 b_2 la ln lc w R) : Calls Go.Proofs.Try.prog 3 (List.toArray [Value.agg #[Value.int IntKind.i64 a_0, Value.int IntKind.i64 a_1, Value.int IntKind.i64 a_2], Value.agg #[Value.int IntKind.i64 b_0, Value.int IntKind.i64 b_1, Value.int IntKind.i64 b_2], Value.slice la ln lc]) w R :=
 fn_sound (H := h3) (fn := Go.Proofs.Try.f3) (by kernel_rfl) (by kernel_rfl) (by kernel_rfl) ((f3_eq a_0 a_1 a_2 b_0 b_1 b_2 la ln lc w R).mpr h)


/-! manciple/manciplelaw07.ShareTexts -/
def h4 : Hints := ⟨[2, 3], [49, 57], [14, 59, 10, 17, 22, 25, 31, 45, 53, 68], [(7, [0, 1, 4, 5, 6, 2, 3, 7, 8, 9, 10, 11])], [], [], [], [], []⟩
def f4_vc (a_0 : Int) (a_1 : Int) (a_2 : Int) (b_0 : Int) (b_1 : Int) (b_2 : Int) (w : World) (R : Ending → World → Prop) : Prop :=
 ∀ (n1 : Nat),
 w.heap.size ≤ n1 →
 ∀ (n2 : Nat),
 w.heap.size ≤ n2 →
 ∀ (w3 : World),
 Below w.heap.size w w3 →
 Under [n1, n2] w3 →
 Calls Proofs.Try.prog 13 #[Value.agg #[Value.int IntKind.i64 a_0, Value.int IntKind.i64 a_1, Value.int IntKind.i64 a_2]] w3 fun (e4 : Ending) (w5 : World) =>
 ∃ (b6 : Bool),
 e4 = Ending.returned (Value.bool b6) ∧
 Keeps [n1, n2] w3 w5 ∧
 ((!b6) = true →
 Calls Proofs.Try.prog 13 #[Value.agg #[Value.int IntKind.i64 a_0, Value.int IntKind.i64 a_1, Value.int IntKind.i64 a_2]] w5 fun (e7 : Ending) (w8 : World) =>
 ∃ (b9 : Bool),
 e7 = Ending.returned (Value.bool b9) ∧
 Keeps [n1, n2] w5 w8 ∧
 (b9 = true →
 Calls Proofs.Try.prog 13 #[Value.agg #[Value.int IntKind.i64 b_0, Value.int IntKind.i64 b_1, Value.int IntKind.i64 b_2]] w8 fun (e10 : Ending) (w11 : World) =>
 ∃ (b12 : Bool),
 e10 = Ending.returned (Value.bool b12) ∧
 Keeps [n1, n2] w8 w11 ∧
 (b12 = true →
 Calls Proofs.Try.prog 16 #[] w11 fun (e13 : Ending) (w14 : World) =>
 ∃ (b15 : Bool), e13 = Ending.returned (Value.bool b15) ∧ Keeps [n1, n2] w11 w14 ∧ R (Ending.returned (Value.bool b15)) w14) ∧
 (b12 = false →
 Calls Proofs.Try.prog 17 #[Value.agg #[Value.int IntKind.i64 b_0, Value.int IntKind.i64 b_1, Value.int IntKind.i64 b_2]] w11 fun (e16 : Ending) (w17 : World) =>
 ∃ (s18 : ByteArray),
 e16 = Ending.returned (Value.string s18) ∧
 Keeps [n1, n2] w11 w17 ∧
 ((s18.toList == (ByteArray.mk #[]).toList) = true →
 Calls Proofs.Try.prog 16 #[] w17 fun (e19 : Ending) (w20 : World) =>
 ∃ (b21 : Bool), e19 = Ending.returned (Value.bool b21) ∧ Keeps [n1, n2] w17 w20 ∧ R (Ending.returned (Value.bool b21)) w20) ∧
 ((s18.toList == (ByteArray.mk #[]).toList) = false → R (Ending.returned (Value.bool false)) w17))) ∧
 (b9 = false →
 Calls Proofs.Try.prog 17 #[Value.agg #[Value.int IntKind.i64 a_0, Value.int IntKind.i64 a_1, Value.int IntKind.i64 a_2]] w8 fun (e22 : Ending) (w23 : World) =>
 ∃ (s24 : ByteArray),
 e22 = Ending.returned (Value.string s24) ∧
 Keeps [n1, n2] w8 w23 ∧
 ((s24.toList == (ByteArray.mk #[]).toList) = true →
 Calls Proofs.Try.prog 13 #[Value.agg #[Value.int IntKind.i64 b_0, Value.int IntKind.i64 b_1, Value.int IntKind.i64 b_2]] w23 fun (e25 : Ending) (w26 : World) =>
 ∃ (b27 : Bool),
 e25 = Ending.returned (Value.bool b27) ∧
 Keeps [n1, n2] w23 w26 ∧
 (b27 = true →
 Calls Proofs.Try.prog 16 #[] w26 fun (e28 : Ending) (w29 : World) =>
 ∃ (b30 : Bool), e28 = Ending.returned (Value.bool b30) ∧ Keeps [n1, n2] w26 w29 ∧ R (Ending.returned (Value.bool b30)) w29) ∧
 (b27 = false →
 Calls Proofs.Try.prog 17 #[Value.agg #[Value.int IntKind.i64 b_0, Value.int IntKind.i64 b_1, Value.int IntKind.i64 b_2]] w26 fun (e31 : Ending) (w32 : World) =>
 ∃ (s33 : ByteArray),
 e31 = Ending.returned (Value.string s33) ∧
 Keeps [n1, n2] w26 w32 ∧
 ((s33.toList == (ByteArray.mk #[]).toList) = true →
 Calls Proofs.Try.prog 16 #[] w32 fun (e34 : Ending) (w35 : World) =>
 ∃ (b36 : Bool), e34 = Ending.returned (Value.bool b36) ∧ Keeps [n1, n2] w32 w35 ∧ R (Ending.returned (Value.bool b36)) w35) ∧
 ((s33.toList == (ByteArray.mk #[]).toList) = false → R (Ending.returned (Value.bool false)) w32))) ∧
 ((s24.toList == (ByteArray.mk #[]).toList) = false → R (Ending.returned (Value.bool false)) w23))) ∧
 ((!b6) = false →
 Calls Proofs.Try.prog 13 #[Value.agg #[Value.int IntKind.i64 b_0, Value.int IntKind.i64 b_1, Value.int IntKind.i64 b_2]] w5 fun (e37 : Ending) (w38 : World) =>
 ∃ (b39 : Bool),
 e37 = Ending.returned (Value.bool b39) ∧
 Keeps [n1, n2] w5 w38 ∧
 ((!b39) = true →
 Calls Proofs.Try.prog 13 #[Value.agg #[Value.int IntKind.i64 a_0, Value.int IntKind.i64 a_1, Value.int IntKind.i64 a_2]] w38 fun (e40 : Ending) (w41 : World) =>
 ∃ (b42 : Bool),
 e40 = Ending.returned (Value.bool b42) ∧
 Keeps [n1, n2] w38 w41 ∧
 (b42 = true →
 Calls Proofs.Try.prog 13 #[Value.agg #[Value.int IntKind.i64 b_0, Value.int IntKind.i64 b_1, Value.int IntKind.i64 b_2]] w41 fun (e43 : Ending) (w44 : World) =>
 ∃ (b45 : Bool),
 e43 = Ending.returned (Value.bool b45) ∧
 Keeps [n1, n2] w41 w44 ∧
 (b45 = true →
 Calls Proofs.Try.prog 16 #[] w44 fun (e46 : Ending) (w47 : World) =>
 ∃ (b48 : Bool), e46 = Ending.returned (Value.bool b48) ∧ Keeps [n1, n2] w44 w47 ∧ R (Ending.returned (Value.bool b48)) w47) ∧
 (b45 = false →
 Calls Proofs.Try.prog 17 #[Value.agg #[Value.int IntKind.i64 b_0, Value.int IntKind.i64 b_1, Value.int IntKind.i64 b_2]] w44 fun (e49 : Ending) (w50 : World) =>
 ∃ (s51 : ByteArray),
 e49 = Ending.returned (Value.string s51) ∧
 Keeps [n1, n2] w44 w50 ∧
 ((s51.toList == (ByteArray.mk #[]).toList) = true →
 Calls Proofs.Try.prog 16 #[] w50 fun (e52 : Ending) (w53 : World) =>
 ∃ (b54 : Bool), e52 = Ending.returned (Value.bool b54) ∧ Keeps [n1, n2] w50 w53 ∧ R (Ending.returned (Value.bool b54)) w53) ∧
 ((s51.toList == (ByteArray.mk #[]).toList) = false → R (Ending.returned (Value.bool false)) w50))) ∧
 (b42 = false →
 Calls Proofs.Try.prog 17 #[Value.agg #[Value.int IntKind.i64 a_0, Value.int IntKind.i64 a_1, Value.int IntKind.i64 a_2]] w41 fun (e55 : Ending) (w56 : World) =>
 ∃ (s57 : ByteArray),
 e55 = Ending.returned (Value.string s57) ∧
 Keeps [n1, n2] w41 w56 ∧
 ((s57.toList == (ByteArray.mk #[]).toList) = true →
 Calls Proofs.Try.prog 13 #[Value.agg #[Value.int IntKind.i64 b_0, Value.int IntKind.i64 b_1, Value.int IntKind.i64 b_2]] w56 fun (e58 : Ending) (w59 : World) =>
 ∃ (b60 : Bool),
 e58 = Ending.returned (Value.bool b60) ∧
 Keeps [n1, n2] w56 w59 ∧
 (b60 = true →
 Calls Proofs.Try.prog 16 #[] w59 fun (e61 : Ending) (w62 : World) =>
 ∃ (b63 : Bool), e61 = Ending.returned (Value.bool b63) ∧ Keeps [n1, n2] w59 w62 ∧ R (Ending.returned (Value.bool b63)) w62) ∧
 (b60 = false →
 Calls Proofs.Try.prog 17 #[Value.agg #[Value.int IntKind.i64 b_0, Value.int IntKind.i64 b_1, Value.int IntKind.i64 b_2]] w59 fun (e64 : Ending) (w65 : World) =>
 ∃ (s66 : ByteArray),
 e64 = Ending.returned (Value.string s66) ∧
 Keeps [n1, n2] w59 w65 ∧
 ((s66.toList == (ByteArray.mk #[]).toList) = true →
 Calls Proofs.Try.prog 16 #[] w65 fun (e67 : Ending) (w68 : World) =>
 ∃ (b69 : Bool), e67 = Ending.returned (Value.bool b69) ∧ Keeps [n1, n2] w65 w68 ∧ R (Ending.returned (Value.bool b69)) w68) ∧
 ((s66.toList == (ByteArray.mk #[]).toList) = false → R (Ending.returned (Value.bool false)) w65))) ∧
 ((s57.toList == (ByteArray.mk #[]).toList) = false → R (Ending.returned (Value.bool false)) w56))) ∧
 ((!b39) = false →
 Calls Proofs.Try.prog 18 #[Value.agg #[Value.int IntKind.i64 a_0, Value.int IntKind.i64 a_1]] w38 fun (e70 : Ending) (w71 : World) =>
 ∃ (s72 : ByteArray),
 e70 = Ending.returned (Value.string s72) ∧
 Keeps [n1, n2] w38 w71 ∧
 Calls Proofs.Try.prog 17 #[Value.agg #[Value.int IntKind.i64 a_0, Value.int IntKind.i64 a_1, Value.int IntKind.i64 a_2]] w71 fun (e73 : Ending) (w74 : World) =>
 ∃ (s75 : ByteArray),
 e73 = Ending.returned (Value.string s75) ∧
 Keeps [n1, n2] w71 w74 ∧
 (decide ((↑s75.size : Int) < IntKind.i64.wrap ((↑s72.size : Int) + 2)) = true → R (Ending.returned (Value.bool false)) w74) ∧
 (decide ((↑s75.size : Int) < IntKind.i64.wrap ((↑s72.size : Int) + 2)) = false →
 ∃ (s76 : ByteArray),
 Gives Proofs.Try.prog (Instr.sliceAt 9 (Value.string s75) none (some (Value.int IntKind.i64 (↑s72.size : Int))) none) (Value.string s76) ∧
 ((!s76.toList == s72.toList) = true → R (Ending.returned (Value.bool false)) w74) ∧
 ((!s76.toList == s72.toList) = false →
 ∃ (x77 : Int),
 Gives Proofs.Try.prog (Instr.index 9 (Value.string s75) (Value.int IntKind.i64 (↑s72.size : Int))) (Value.int IntKind.u8 x77) ∧
 ((x77 != 58) = true → R (Ending.returned (Value.bool false)) w74) ∧
 ((x77 != 58) = false →
 ∀ (w78 : World),
 Below w74.heap.size w74 w78 →
 Under [n1, n2] w78 →
 Calls Proofs.Try.prog 17 #[Value.agg #[Value.int IntKind.i64 b_0, Value.int IntKind.i64 b_1, Value.int IntKind.i64 b_2]] w78 fun (e79 : Ending) (w80 : World) =>
 ∃ (s81 : ByteArray),
 e79 = Ending.returned (Value.string s81) ∧
 Keeps [n1, n2] w78 w80 ∧
 (((s75.toList == s81.toList) == (a_0 == b_0 && (a_1 == b_1 && true) && (a_2 == b_2 && true))) = true →
 Calls Proofs.Try.prog 16 #[] w80 fun (e82 : Ending) (w83 : World) =>
 ∃ (b84 : Bool), e82 = Ending.returned (Value.bool b84) ∧ Keeps [n1, n2] w80 w83 ∧ R (Ending.returned (Value.bool b84)) w83) ∧
 (((s75.toList == s81.toList) == (a_0 == b_0 && (a_1 == b_1 && true) && (a_2 == b_2 && true))) = false →
 R (Ending.returned (Value.bool false)) w80))))))
theorem f4_eq (a_0 : Int) (a_1 : Int) (a_2 : Int) (b_0 : Int) (b_1 : Int) (b_2 : Int) (w : World) (R : Ending → World → Prop) : (fnF Go.Proofs.Try.prog h4 Go.Proofs.Try.f4 [Value.agg #[Value.int IntKind.i64 a_0, Value.int IntKind.i64 a_1, Value.int IntKind.i64 a_2], Value.agg #[Value.int IntKind.i64 b_0, Value.int IntKind.i64 b_1, Value.int IntKind.i64 b_2]] w R).den = f4_vc a_0 a_1 a_2 b_0 b_1 b_2 w R := by kernel_rfl
theorem f4_calls (a_0 : Int) (a_1 : Int) (a_2 : Int) (b_0 : Int) (b_1 : Int) (b_2 : Int) (w : World) (R : Ending → World → Prop) (h : f4_vc a_0 a_1 a_2 b_0 b_1 b_2 w R) : Calls Go.Proofs.Try.prog 4 (List.toArray [Value.agg #[Value.int IntKind.i64 a_0, Value.int IntKind.i64 a_1, Value.int IntKind.i64 a_2], Value.agg #[Value.int IntKind.i64 b_0, Value.int IntKind.i64 b_1, Value.int IntKind.i64 b_2]]) w R :=
 fn_sound (H := h4) (fn := Go.Proofs.Try.f4) (by kernel_rfl) (by kernel_rfl) (by kernel_rfl) ((f4_eq a_0 a_1 a_2 b_0 b_1 b_2 w R).mpr h)


/-! manciple/manciplelaw07.ShareOrders -/
def h5 : Hints := ⟨[3, 4, 5], [], [30, 43, 66, 25, 34, 39, 47, 51, 54, 57, 60, 72, 81], [(1, [0, 1, 3, 4, 6, 7, 2, 5, 8, 9, 10, 11])], [], [], [], [], []⟩
def f5_vc (a_0 : Int) (a_1 : Int) (a_2 : Int) (b_0 : Int) (b_1 : Int) (b_2 : Int) (c_0 : Int) (c_1 : Int) (c_2 : Int) (w : World) (R : Ending → World → Prop) : Prop :=
 ∀ (n1 : Nat),
 w.heap.size ≤ n1 →
 ∀ (n2 : Nat),
 w.heap.size ≤ n2 →
 ∀ (n3 : Nat),
 w.heap.size ≤ n3 →
 ∀ (w4 : World),
 Below w.heap.size w w4 →
 Under [n1, n2, n3] w4 →
 Calls Proofs.Try.prog 11 #[Value.agg #[Value.int IntKind.i64 a_0, Value.int IntKind.i64 a_1, Value.int IntKind.i64 a_2], Value.agg #[Value.int IntKind.i64 b_0, Value.int IntKind.i64 b_1, Value.int IntKind.i64 b_2]] w4
 fun (e5 : Ending) (w6 : World) =>
 ∃ (x7 : Int),
 e5 = Ending.returned (Value.int IntKind.i64 x7) ∧
 Keeps [n1, n2, n3] w4 w6 ∧
 Calls Proofs.Try.prog 11 #[Value.agg #[Value.int IntKind.i64 b_0, Value.int IntKind.i64 b_1, Value.int IntKind.i64 b_2], Value.agg #[Value.int IntKind.i64 c_0, Value.int IntKind.i64 c_1, Value.int IntKind.i64 c_2]]
 w6 fun (e8 : Ending) (w9 : World) =>
 ∃ (x10 : Int),
 e8 = Ending.returned (Value.int IntKind.i64 x10) ∧
 Keeps [n1, n2, n3] w6 w9 ∧
 Calls Proofs.Try.prog 11
 #[Value.agg #[Value.int IntKind.i64 a_0, Value.int IntKind.i64 a_1, Value.int IntKind.i64 a_2], Value.agg #[Value.int IntKind.i64 c_0, Value.int IntKind.i64 c_1, Value.int IntKind.i64 c_2]] w9
 fun (e11 : Ending) (w12 : World) =>
 ∃ (x13 : Int),
 e11 = Ending.returned (Value.int IntKind.i64 x13) ∧
 Keeps [n1, n2, n3] w9 w12 ∧
 Calls Proofs.Try.prog 11
 #[Value.agg #[Value.int IntKind.i64 b_0, Value.int IntKind.i64 b_1, Value.int IntKind.i64 b_2], Value.agg #[Value.int IntKind.i64 a_0, Value.int IntKind.i64 a_1, Value.int IntKind.i64 a_2]] w12
 fun (e14 : Ending) (w15 : World) =>
 ∃ (x16 : Int),
 e14 = Ending.returned (Value.int IntKind.i64 x16) ∧
 Keeps [n1, n2, n3] w12 w15 ∧
 ((x16 != IntKind.i64.wrap (0 - x7)) = true → R (Ending.returned (Value.bool false)) w15) ∧
 ((x16 != IntKind.i64.wrap (0 - x7)) = false →
 Calls Proofs.Try.prog 11
 #[Value.agg #[Value.int IntKind.i64 a_0, Value.int IntKind.i64 a_1, Value.int IntKind.i64 a_2],
 Value.agg #[Value.int IntKind.i64 a_0, Value.int IntKind.i64 a_1, Value.int IntKind.i64 a_2]]
 w15 fun (e17 : Ending) (w18 : World) =>
 ∃ (x19 : Int),
 e17 = Ending.returned (Value.int IntKind.i64 x19) ∧
 Keeps [n1, n2, n3] w15 w18 ∧
 ((x19 != 0) = true → R (Ending.returned (Value.bool false)) w18) ∧
 ((x19 != 0) = false →
 Calls Proofs.Try.prog 13 #[Value.agg #[Value.int IntKind.i64 a_0, Value.int IntKind.i64 a_1, Value.int IntKind.i64 a_2]] w18 fun (e20 : Ending) (w21 : World) =>
 ∃ (b22 : Bool),
 e20 = Ending.returned (Value.bool b22) ∧
 Keeps [n1, n2, n3] w18 w21 ∧
 ((!b22) = true →
 Calls Proofs.Try.prog 16 #[] w21 fun (e23 : Ending) (w24 : World) =>
 ∃ (b25 : Bool), e23 = Ending.returned (Value.bool b25) ∧ Keeps [n1, n2, n3] w21 w24 ∧ R (Ending.returned (Value.bool b25)) w24) ∧
 ((!b22) = false →
 Calls Proofs.Try.prog 13 #[Value.agg #[Value.int IntKind.i64 b_0, Value.int IntKind.i64 b_1, Value.int IntKind.i64 b_2]] w21 fun (e26 : Ending) (w27 : World) =>
 ∃ (b28 : Bool),
 e26 = Ending.returned (Value.bool b28) ∧
 Keeps [n1, n2, n3] w21 w27 ∧
 ((!b28) = true →
 Calls Proofs.Try.prog 16 #[] w27 fun (e29 : Ending) (w30 : World) =>
 ∃ (b31 : Bool), e29 = Ending.returned (Value.bool b31) ∧ Keeps [n1, n2, n3] w27 w30 ∧ R (Ending.returned (Value.bool b31)) w30) ∧
 ((!b28) = false →
 Calls Proofs.Try.prog 13 #[Value.agg #[Value.int IntKind.i64 c_0, Value.int IntKind.i64 c_1, Value.int IntKind.i64 c_2]] w27
 fun (e32 : Ending) (w33 : World) =>
 ∃ (b34 : Bool),
 e32 = Ending.returned (Value.bool b34) ∧
 Keeps [n1, n2, n3] w27 w33 ∧
 ((!b34) = true →
 Calls Proofs.Try.prog 16 #[] w33 fun (e35 : Ending) (w36 : World) =>
 ∃ (b37 : Bool), e35 = Ending.returned (Value.bool b37) ∧ Keeps [n1, n2, n3] w33 w36 ∧ R (Ending.returned (Value.bool b37)) w36) ∧
 ((!b34) = false →
 (decide (x7 ≤ 0) = true →
 (decide (x10 ≤ 0) = true →
 (decide (x13 > 0) = true → R (Ending.returned (Value.bool false)) w33) ∧
 (decide (x13 > 0) = false →
 ((x13 == 0) = true →
 (decide (x7 < 0) = true → R (Ending.returned (Value.bool false)) w33) ∧
 (decide (x7 < 0) = false →
 (decide (x10 < 0) = true → R (Ending.returned (Value.bool false)) w33) ∧
 (decide (x10 < 0) = false →
 ((a_2 != b_2) = true →
 Calls Proofs.Try.prog 16 #[] w33 fun (e38 : Ending) (w39 : World) =>
 ∃ (b40 : Bool),
 e38 = Ending.returned (Value.bool b40) ∧
 Keeps [n1, n2, n3] w33 w39 ∧ R (Ending.returned (Value.bool b40)) w39) ∧
 ((a_2 != b_2) = false →
 Calls Proofs.Try.prog 19
 #[Value.agg #[Value.int IntKind.i64 a_0, Value.int IntKind.i64 a_1],
 Value.agg #[Value.int IntKind.i64 b_0, Value.int IntKind.i64 b_1]]
 w33 fun (e41 : Ending) (w42 : World) =>
 ∃ (x43 : Int),
 e41 = Ending.returned (Value.int IntKind.i64 x43) ∧
 Keeps [n1, n2, n3] w33 w42 ∧
 ((x7 == x43) = true →
 Calls Proofs.Try.prog 16 #[] w42 fun (e44 : Ending) (w45 : World) =>
 ∃ (b46 : Bool),
 e44 = Ending.returned (Value.bool b46) ∧
 Keeps [n1, n2, n3] w42 w45 ∧ R (Ending.returned (Value.bool b46)) w45) ∧
 ((x7 == x43) = false → R (Ending.returned (Value.bool false)) w42))))) ∧
 ((x13 == 0) = false →
 ((a_2 != b_2) = true →
 Calls Proofs.Try.prog 16 #[] w33 fun (e47 : Ending) (w48 : World) =>
 ∃ (b49 : Bool),
 e47 = Ending.returned (Value.bool b49) ∧ Keeps [n1, n2, n3] w33 w48 ∧ R (Ending.returned (Value.bool b49)) w48) ∧
 ((a_2 != b_2) = false →
 Calls Proofs.Try.prog 19
 #[Value.agg #[Value.int IntKind.i64 a_0, Value.int IntKind.i64 a_1],
 Value.agg #[Value.int IntKind.i64 b_0, Value.int IntKind.i64 b_1]]
 w33 fun (e50 : Ending) (w51 : World) =>
 ∃ (x52 : Int),
 e50 = Ending.returned (Value.int IntKind.i64 x52) ∧
 Keeps [n1, n2, n3] w33 w51 ∧
 ((x7 == x52) = true →
 Calls Proofs.Try.prog 16 #[] w51 fun (e53 : Ending) (w54 : World) =>
 ∃ (b55 : Bool),
 e53 = Ending.returned (Value.bool b55) ∧
 Keeps [n1, n2, n3] w51 w54 ∧ R (Ending.returned (Value.bool b55)) w54) ∧
 ((x7 == x52) = false → R (Ending.returned (Value.bool false)) w51))))) ∧
 (decide (x10 ≤ 0) = false →
 ((a_2 != b_2) = true →
 Calls Proofs.Try.prog 16 #[] w33 fun (e56 : Ending) (w57 : World) =>
 ∃ (b58 : Bool),
 e56 = Ending.returned (Value.bool b58) ∧ Keeps [n1, n2, n3] w33 w57 ∧ R (Ending.returned (Value.bool b58)) w57) ∧
 ((a_2 != b_2) = false →
 Calls Proofs.Try.prog 19
 #[Value.agg #[Value.int IntKind.i64 a_0, Value.int IntKind.i64 a_1],
 Value.agg #[Value.int IntKind.i64 b_0, Value.int IntKind.i64 b_1]]
 w33 fun (e59 : Ending) (w60 : World) =>
 ∃ (x61 : Int),
 e59 = Ending.returned (Value.int IntKind.i64 x61) ∧
 Keeps [n1, n2, n3] w33 w60 ∧
 ((x7 == x61) = true →
 Calls Proofs.Try.prog 16 #[] w60 fun (e62 : Ending) (w63 : World) =>
 ∃ (b64 : Bool),
 e62 = Ending.returned (Value.bool b64) ∧
 Keeps [n1, n2, n3] w60 w63 ∧ R (Ending.returned (Value.bool b64)) w63) ∧
 ((x7 == x61) = false → R (Ending.returned (Value.bool false)) w60)))) ∧
 (decide (x7 ≤ 0) = false →
 ((a_2 != b_2) = true →
 Calls Proofs.Try.prog 16 #[] w33 fun (e65 : Ending) (w66 : World) =>
 ∃ (b67 : Bool),
 e65 = Ending.returned (Value.bool b67) ∧ Keeps [n1, n2, n3] w33 w66 ∧ R (Ending.returned (Value.bool b67)) w66) ∧
 ((a_2 != b_2) = false →
 Calls Proofs.Try.prog 19
 #[Value.agg #[Value.int IntKind.i64 a_0, Value.int IntKind.i64 a_1],
 Value.agg #[Value.int IntKind.i64 b_0, Value.int IntKind.i64 b_1]]
 w33 fun (e68 : Ending) (w69 : World) =>
 ∃ (x70 : Int),
 e68 = Ending.returned (Value.int IntKind.i64 x70) ∧
 Keeps [n1, n2, n3] w33 w69 ∧
 ((x7 == x70) = true →
 Calls Proofs.Try.prog 16 #[] w69 fun (e71 : Ending) (w72 : World) =>
 ∃ (b73 : Bool),
 e71 = Ending.returned (Value.bool b73) ∧ Keeps [n1, n2, n3] w69 w72 ∧ R (Ending.returned (Value.bool b73)) w72) ∧
 ((x7 == x70) = false → R (Ending.returned (Value.bool false)) w69))))))))
theorem f5_eq (a_0 : Int) (a_1 : Int) (a_2 : Int) (b_0 : Int) (b_1 : Int) (b_2 : Int) (c_0 : Int) (c_1 : Int) (c_2 : Int) (w : World) (R : Ending → World → Prop) : (fnF Go.Proofs.Try.prog h5 Go.Proofs.Try.f5 [Value.agg #[Value.int IntKind.i64 a_0, Value.int IntKind.i64 a_1, Value.int IntKind.i64 a_2], Value.agg #[Value.int IntKind.i64 b_0, Value.int IntKind.i64 b_1, Value.int IntKind.i64 b_2],
 Value.agg #[Value.int IntKind.i64 c_0, Value.int IntKind.i64 c_1, Value.int IntKind.i64 c_2]] w R).den = f5_vc a_0 a_1 a_2 b_0 b_1 b_2 c_0 c_1 c_2 w R := by kernel_rfl
theorem f5_calls (a_0 : Int) (a_1 : Int) (a_2 : Int) (b_0 : Int) (b_1 : Int) (b_2 : Int) (c_0 : Int) (c_1 : Int) (c_2 : Int) (w : World) (R : Ending → World → Prop) (h : f5_vc a_0 a_1 a_2 b_0 b_1 b_2 c_0 c_1 c_2 w R) : Calls Go.Proofs.Try.prog 5 (List.toArray [Value.agg #[Value.int IntKind.i64 a_0, Value.int IntKind.i64 a_1, Value.int IntKind.i64 a_2], Value.agg #[Value.int IntKind.i64 b_0, Value.int IntKind.i64 b_1, Value.int IntKind.i64 b_2],
 Value.agg #[Value.int IntKind.i64 c_0, Value.int IntKind.i64 c_1, Value.int IntKind.i64 c_2]]) w R :=
 fn_sound (H := h5) (fn := Go.Proofs.Try.f5) (by kernel_rfl) (by kernel_rfl) (by kernel_rfl) ((f5_eq a_0 a_1 a_2 b_0 b_1 b_2 c_0 c_1 c_2 w R).mpr h)


/-! (manciple/share.Share).Cmp -/
def h11 : Hints := ⟨[2, 3], [], [17, 8, 13], [(3, [0, 1, 3, 4, 2, 5, 6, 7])], [], [], [], [], []⟩
def f11_vc (a_0 : Int) (a_1 : Int) (a_2 : Int) (b_0 : Int) (b_1 : Int) (b_2 : Int) (w : World) (R : Ending → World → Prop) : Prop :=
 ∀ (n1 : Nat),
 w.heap.size ≤ n1 →
 ∀ (n2 : Nat),
 w.heap.size ≤ n2 →
 ((a_0 == b_0 && (a_1 == b_1 && true) && (a_2 == b_2 && true)) = true → ∀ (w3 : World), Below w.heap.size w w3 → Under [n1, n2] w3 → R (Ending.returned (Value.int IntKind.i64 0)) w3) ∧
 ((a_0 == b_0 && (a_1 == b_1 && true) && (a_2 == b_2 && true)) = false →
 ∀ (w4 : World),
 Below w.heap.size w w4 →
 Under [n1, n2] w4 →
 Calls Proofs.Try.prog 13 #[Value.agg #[Value.int IntKind.i64 a_0, Value.int IntKind.i64 a_1, Value.int IntKind.i64 a_2]] w4 fun (e5 : Ending) (w6 : World) =>
 ∃ (b7 : Bool),
 e5 = Ending.returned (Value.bool b7) ∧
 Keeps [n1, n2] w4 w6 ∧
 ((!b7) = true → R (Ending.returned (Value.int IntKind.i64 0)) w6) ∧
 ((!b7) = false →
 Calls Proofs.Try.prog 13 #[Value.agg #[Value.int IntKind.i64 b_0, Value.int IntKind.i64 b_1, Value.int IntKind.i64 b_2]] w6 fun (e8 : Ending) (w9 : World) =>
 ∃ (b10 : Bool),
 e8 = Ending.returned (Value.bool b10) ∧
 Keeps [n1, n2] w6 w9 ∧
 ((!b10) = true → R (Ending.returned (Value.int IntKind.i64 0)) w9) ∧
 ((!b10) = false →
 ∀ (w11 : World),
 Below w9.heap.size w9 w11 →
 Under [n1, n2] w11 →
 Calls Proofs.Try.prog 36
 #[Value.agg #[Value.int IntKind.i64 a_0, Value.int IntKind.i64 a_1, Value.int IntKind.i64 a_2], Value.agg #[Value.int IntKind.i64 b_0, Value.int IntKind.i64 b_1, Value.int IntKind.i64 b_2]]
 w11 fun (e12 : Ending) (w13 : World) =>
 ∃ (x14 : Int),
 ∃ (x15 : Int),
 e12 = Ending.returned (Value.agg #[Value.int IntKind.u64 x14, Value.int IntKind.u64 x15]) ∧
 Keeps [n1, n2] w11 w13 ∧
 Calls Proofs.Try.prog 36
 #[Value.agg #[Value.int IntKind.i64 b_0, Value.int IntKind.i64 b_1, Value.int IntKind.i64 b_2],
 Value.agg #[Value.int IntKind.i64 a_0, Value.int IntKind.i64 a_1, Value.int IntKind.i64 a_2]]
 w13 fun (e16 : Ending) (w17 : World) =>
 ∃ (x18 : Int),
 ∃ (x19 : Int),
 e16 = Ending.returned (Value.agg #[Value.int IntKind.u64 x18, Value.int IntKind.u64 x19]) ∧
 Keeps [n1, n2] w13 w17 ∧
 Calls Proofs.Try.prog 37 #[Value.agg #[Value.int IntKind.u64 x14, Value.int IntKind.u64 x15], Value.agg #[Value.int IntKind.u64 x18, Value.int IntKind.u64 x19]] w17
 fun (e20 : Ending) (w21 : World) =>
 ∃ (x22 : Int), e20 = Ending.returned (Value.int IntKind.i64 x22) ∧ Keeps [n1, n2] w17 w21 ∧ R (Ending.returned (Value.int IntKind.i64 x22)) w21)))
theorem f11_eq (a_0 : Int) (a_1 : Int) (a_2 : Int) (b_0 : Int) (b_1 : Int) (b_2 : Int) (w : World) (R : Ending → World → Prop) : (fnF Go.Proofs.Try.prog h11 Go.Proofs.Try.f11 [Value.agg #[Value.int IntKind.i64 a_0, Value.int IntKind.i64 a_1, Value.int IntKind.i64 a_2], Value.agg #[Value.int IntKind.i64 b_0, Value.int IntKind.i64 b_1, Value.int IntKind.i64 b_2]] w R).den = f11_vc a_0 a_1 a_2 b_0 b_1 b_2 w R := by kernel_rfl
theorem f11_calls (a_0 : Int) (a_1 : Int) (a_2 : Int) (b_0 : Int) (b_1 : Int) (b_2 : Int) (w : World) (R : Ending → World → Prop) (h : f11_vc a_0 a_1 a_2 b_0 b_1 b_2 w R) : Calls Go.Proofs.Try.prog 11 (List.toArray [Value.agg #[Value.int IntKind.i64 a_0, Value.int IntKind.i64 a_1, Value.int IntKind.i64 a_2], Value.agg #[Value.int IntKind.i64 b_0, Value.int IntKind.i64 b_1, Value.int IntKind.i64 b_2]]) w R :=
 fn_sound (H := h11) (fn := Go.Proofs.Try.f11) (by kernel_rfl) (by kernel_rfl) (by kernel_rfl) ((f11_eq a_0 a_1 a_2 b_0 b_1 b_2 w R).mpr h)


/-! manciple/mancipleref07.Cmp -/
def h12 : Hints := ⟨[4, 6], [], [20, 35, 38, 15], [(3, [0, 1, 2, 3, 4, 6, 7, 8, 9, 10, 5, 11, 12, 13])], [], [], [], [], []⟩
def f12_vc (a_0 : Int) (a_1 : Int) (w' : Int) (b_0 : Int) (b_1 : Int) (u : Int) (w : World) (R : Ending → World → Prop) : Prop :=
 ∀ (n1 : Nat),
 w.heap.size ≤ n1 →
 ∀ (n2 : Nat),
 w.heap.size ≤ n2 →
 ∀ (w3 : World),
 Below w.heap.size w w3 →
 Under [n1, n2] w3 →
 Calls Proofs.Try.prog 14 #[Value.agg #[Value.int IntKind.i64 a_0, Value.int IntKind.i64 a_1], Value.int IntKind.i64 w'] w3 fun (e4 : Ending) (w5 : World) =>
 ∃ (b6 : Bool),
 e4 = Ending.returned (Value.bool b6) ∧
 Keeps [n1, n2] w3 w5 ∧
 ((!b6) = true → R (Ending.returned (Value.int IntKind.i64 0)) w5) ∧
 ((!b6) = false →
 Calls Proofs.Try.prog 14 #[Value.agg #[Value.int IntKind.i64 b_0, Value.int IntKind.i64 b_1], Value.int IntKind.i64 u] w5 fun (e7 : Ending) (w8 : World) =>
 ∃ (b9 : Bool),
 e7 = Ending.returned (Value.bool b9) ∧
 Keeps [n1, n2] w5 w8 ∧
 ((!b9) = true → R (Ending.returned (Value.int IntKind.i64 0)) w8) ∧
 ((!b9) = false →
 ∀ (w10 : World),
 Below w8.heap.size w8 w10 →
 Under [n1, n2] w10 →
 Calls Proofs.Try.prog 38 #[Value.int IntKind.i64 a_0, Value.int IntKind.i64 b_1, Value.int IntKind.i64 u] w10 fun (e11 : Ending) (w12 : World) =>
 ∃ (a13 : Option Addr),
 ∃ (n14 : Nat),
 ∃ (n15 : Nat),
 e11 = Ending.returned (Value.slice a13 n14 n15) ∧
 Keeps [n1, n2] w10 w12 ∧
 Calls Proofs.Try.prog 38 #[Value.int IntKind.i64 b_0, Value.int IntKind.i64 a_1, Value.int IntKind.i64 w'] w12 fun (e16 : Ending) (w17 : World) =>
 ∃ (a18 : Option Addr),
 ∃ (n19 : Nat),
 ∃ (n20 : Nat),
 e16 = Ending.returned (Value.slice a18 n19 n20) ∧
 Keeps [n1, n2] w12 w17 ∧
 Calls Proofs.Try.prog 39 #[Value.slice a13 n14 n15, Value.slice a18 n19 n20] w17 fun (e21 : Ending) (w22 : World) =>
 ∃ (b23 : Bool),
 e21 = Ending.returned (Value.bool b23) ∧
 Keeps [n1, n2] w17 w22 ∧
 (b23 = true → R (Ending.returned (Value.int IntKind.i64 (-1))) w22) ∧
 (b23 = false →
 Calls Proofs.Try.prog 39 #[Value.slice a18 n19 n20, Value.slice a13 n14 n15] w22 fun (e24 : Ending) (w25 : World) =>
 ∃ (b26 : Bool),
 e24 = Ending.returned (Value.bool b26) ∧
 Keeps [n1, n2] w22 w25 ∧
 (b26 = true → R (Ending.returned (Value.int IntKind.i64 1)) w25) ∧ (b26 = false → R (Ending.returned (Value.int IntKind.i64 0)) w25))))
theorem f12_eq (a_0 : Int) (a_1 : Int) (w' : Int) (b_0 : Int) (b_1 : Int) (u : Int) (w : World) (R : Ending → World → Prop) : (fnF Go.Proofs.Try.prog h12 Go.Proofs.Try.f12 [Value.agg #[Value.int IntKind.i64 a_0, Value.int IntKind.i64 a_1], Value.int IntKind.i64 w', Value.agg #[Value.int IntKind.i64 b_0, Value.int IntKind.i64 b_1], Value.int IntKind.i64 u] w R).den = f12_vc a_0 a_1 w' b_0 b_1 u w R := by kernel_rfl
theorem f12_calls (a_0 : Int) (a_1 : Int) (w' : Int) (b_0 : Int) (b_1 : Int) (u : Int) (w : World) (R : Ending → World → Prop) (h : f12_vc a_0 a_1 w' b_0 b_1 u w R) : Calls Go.Proofs.Try.prog 12 (List.toArray [Value.agg #[Value.int IntKind.i64 a_0, Value.int IntKind.i64 a_1], Value.int IntKind.i64 w', Value.agg #[Value.int IntKind.i64 b_0, Value.int IntKind.i64 b_1], Value.int IntKind.i64 u]) w R :=
 fn_sound (H := h12) (fn := Go.Proofs.Try.f12) (by kernel_rfl) (by kernel_rfl) (by kernel_rfl) ((f12_eq a_0 a_1 w' b_0 b_1 u w R).mpr h)


/-! (manciple/share.Share).Right -/
def h13 : Hints := ⟨[1], [], [6, 12, 18, 23], [], [], [], [], [], []⟩
def f13_vc (a_0 : Int) (a_1 : Int) (a_2 : Int) (w : World) (R : Ending → World → Prop) : Prop :=
 ∀ (n1 : Nat),
 w.heap.size ≤ n1 →
 ∀ (w2 : World),
 Below w.heap.size w w2 →
 Under [n1] w2 →
 Calls Proofs.Try.prog 40 #[Value.agg #[Value.int IntKind.i64 a_0, Value.int IntKind.i64 a_1]] w2 fun (e3 : Ending) (w4 : World) =>
 ∃ (b5 : Bool),
 e3 = Ending.returned (Value.bool b5) ∧
 Keeps [n1] w2 w4 ∧
 (b5 = true →
 (decide (a_0 ≤ 9007199254740992) = true →
 (decide (a_1 ≤ 9007199254740992) = true → (decide (a_2 ≥ 1) = true → R (Ending.returned (Value.bool (decide (a_2 ≤ 1000)))) w4) ∧ (decide (a_2 ≥ 1) = false → R (Ending.returned (Value.bool false)) w4)) ∧
 (decide (a_1 ≤ 9007199254740992) = false → R (Ending.returned (Value.bool false)) w4)) ∧
 (decide (a_0 ≤ 9007199254740992) = false → R (Ending.returned (Value.bool false)) w4)) ∧
 (b5 = false → R (Ending.returned (Value.bool false)) w4)
theorem f13_eq (a_0 : Int) (a_1 : Int) (a_2 : Int) (w : World) (R : Ending → World → Prop) : (fnF Go.Proofs.Try.prog h13 Go.Proofs.Try.f13 [Value.agg #[Value.int IntKind.i64 a_0, Value.int IntKind.i64 a_1, Value.int IntKind.i64 a_2]] w R).den = f13_vc a_0 a_1 a_2 w R := by kernel_rfl
theorem f13_calls (a_0 : Int) (a_1 : Int) (a_2 : Int) (w : World) (R : Ending → World → Prop) (h : f13_vc a_0 a_1 a_2 w R) : Calls Go.Proofs.Try.prog 13 (List.toArray [Value.agg #[Value.int IntKind.i64 a_0, Value.int IntKind.i64 a_1, Value.int IntKind.i64 a_2]]) w R :=
 fn_sound (H := h13) (fn := Go.Proofs.Try.f13) (by kernel_rfl) (by kernel_rfl) (by kernel_rfl) ((f13_eq a_0 a_1 a_2 w R).mpr h)


/-! manciple/mancipleref07.Right -/
def h14 : Hints := ⟨[2], [], [7, 12, 17, 21], [], [], [], [], [], []⟩
def f14_vc (f_0 : Int) (f_1 : Int) (w' : Int) (w : World) (R : Ending → World → Prop) : Prop :=
 ∀ (n1 : Nat),
 w.heap.size ≤ n1 →
 ∀ (w2 : World),
 Below w.heap.size w w2 →
 Under [n1] w2 →
 Calls Proofs.Try.prog 41 #[Value.agg #[Value.int IntKind.i64 f_0, Value.int IntKind.i64 f_1]] w2 fun (e3 : Ending) (w4 : World) =>
 ∃ (b5 : Bool),
 e3 = Ending.returned (Value.bool b5) ∧
 Keeps [n1] w2 w4 ∧
 (b5 = true →
 (decide (f_0 ≤ 9007199254740992) = true →
 (decide (f_1 ≤ 9007199254740992) = true → (decide (w' ≥ 1) = true → R (Ending.returned (Value.bool (decide (w' ≤ 1000)))) w4) ∧ (decide (w' ≥ 1) = false → R (Ending.returned (Value.bool false)) w4)) ∧
 (decide (f_1 ≤ 9007199254740992) = false → R (Ending.returned (Value.bool false)) w4)) ∧
 (decide (f_0 ≤ 9007199254740992) = false → R (Ending.returned (Value.bool false)) w4)) ∧
 (b5 = false → R (Ending.returned (Value.bool false)) w4)
theorem f14_eq (f_0 : Int) (f_1 : Int) (w' : Int) (w : World) (R : Ending → World → Prop) : (fnF Go.Proofs.Try.prog h14 Go.Proofs.Try.f14 [Value.agg #[Value.int IntKind.i64 f_0, Value.int IntKind.i64 f_1], Value.int IntKind.i64 w'] w R).den = f14_vc f_0 f_1 w' w R := by kernel_rfl
theorem f14_calls (f_0 : Int) (f_1 : Int) (w' : Int) (w : World) (R : Ending → World → Prop) (h : f14_vc f_0 f_1 w' w R) : Calls Go.Proofs.Try.prog 14 (List.toArray [Value.agg #[Value.int IntKind.i64 f_0, Value.int IntKind.i64 f_1], Value.int IntKind.i64 w']) w R :=
 fn_sound (H := h14) (fn := Go.Proofs.Try.f14) (by kernel_rfl) (by kernel_rfl) (by kernel_rfl) ((f14_eq f_0 f_1 w' w R).mpr h)


/-! manciple/share.Least -/
def h15 : Hints := ⟨[5], [11, 22, 24], [9, 15, 18, 27, 29], [(7, [0, 1, 2, 3, 4, 5, 6, 7])], [], [(3, ⟨[(3, .sl), (8, .int .i64)], []⟩)], [], [], []⟩
def f15_vc (la : Option Addr) (ln : Nat) (lc : Nat) (w : World) (R : Ending → World → Prop) : Prop :=
 ∃ (J1 : (Option Addr × Nat × Nat) × Int × Unit → World → Prop),
 ∃ (J2 : (Option Addr × Nat × Nat) × Int × Unit → World → Nat),
 J1 ((none, 0, 0), 0, ()) w ∧
 ∀ (a3 : Option Addr) (n4 n5 : Nat) (x6 : Int) (w7 : World),
 J1 ((a3, n4, n5), x6, ()) w7 →
 (decide (x6 < (↑ln : Int)) = true →
 ∃ (ad8 : Addr),
 Gives Proofs.Try.prog (Instr.indexAt 26 (Value.slice la ln lc) (Value.int IntKind.i64 x6)) (Value.pointer (some ad8)) ∧
 ∃ (x9 : Int),
 ∃ (x10 : Int),
 ∃ (x11 : Int),
 Reads Proofs.Try.prog [] (Instr.loadAt 25 (Value.pointer (some ad8))) w7 (Value.agg #[Value.int IntKind.i64 x9, Value.int IntKind.i64 x10, Value.int IntKind.i64 x11]) ∧
 ∀ (n12 : Nat),
 w7.heap.size ≤ n12 →
 ∀ (w13 : World),
 Evo [n12] w7 w13 →
 Under [n12] w13 →
 Calls Proofs.Try.prog 13 #[Value.agg #[Value.int IntKind.i64 x9, Value.int IntKind.i64 x10, Value.int IntKind.i64 x11]] w13 fun (e14 : Ending) (w15 : World) =>
 ∃ (b16 : Bool),
 e14 = Ending.returned (Value.bool b16) ∧
 Keeps [n12] w13 w15 ∧
 ((!b16) = true → J1 ((a3, n4, n5), IntKind.i64.wrap (x6 + 1), ()) w15 ∧ J2 ((a3, n4, n5), IntKind.i64.wrap (x6 + 1), ()) w15 < J2 ((a3, n4, n5), x6, ()) w7) ∧
 ((!b16) = false →
 (decide ((↑n4 : Int) > 0) = true →
 ∃ (ad17 : Addr),
 Gives Proofs.Try.prog (Instr.indexAt 31 (Value.slice a3 n4 n5) (Value.int IntKind.i64 0)) (Value.pointer (some ad17)) ∧
 ∃ (x18 : Int),
 Reads Proofs.Try.prog [] (Instr.loadAt 3 (Value.pointer (some ad17))) w15 (Value.int IntKind.i64 x18) ∧
 ∃ (ad19 : Addr),
 Gives Proofs.Try.prog (Instr.indexAt 26 (Value.slice la ln lc) (Value.int IntKind.i64 x18)) (Value.pointer (some ad19)) ∧
 ∃ (x20 : Int),
 ∃ (x21 : Int),
 ∃ (x22 : Int),
 Reads Proofs.Try.prog [] (Instr.loadAt 25 (Value.pointer (some ad19))) w15
 (Value.agg #[Value.int IntKind.i64 x20, Value.int IntKind.i64 x21, Value.int IntKind.i64 x22]) ∧
 ∀ (w23 : World),
 Below w15.heap.size w15 w23 →
 Under [n12] w23 →
 Calls Proofs.Try.prog 11
 #[Value.agg #[Value.int IntKind.i64 x9, Value.int IntKind.i64 x10, Value.int IntKind.i64 x11],
 Value.agg #[Value.int IntKind.i64 x20, Value.int IntKind.i64 x21, Value.int IntKind.i64 x22]]
 w23 fun (e24 : Ending) (w25 : World) =>
 ∃ (x26 : Int),
 e24 = Ending.returned (Value.int IntKind.i64 x26) ∧
 Keeps [n12] w23 w25 ∧
 Reads Proofs.Try.prog [] (Instr.loadAt 3 (Value.pointer (some ad17))) w25 (Value.int IntKind.i64 x18) ∧
 ((x26 == -1) = true →
 OpW Proofs.Try.prog (valueS (Instr.buildSlice 31 1 #[(0, Value.int IntKind.i64 x6)])) w25 fun (v27 : Value) (w28 : World) =>
 ∃ (a29 : Option Addr),
 ∃ (n30 : Nat),
 ∃ (n31 : Nat),
 v27 = Value.slice a29 n30 n31 ∧
 Keeps [n12] w25 w28 ∧
 OpW Proofs.Try.prog (builtin Builtin.append #[31, 31] 31 #[false, false] #[Value.slice none 0 0, Value.slice a29 n30 n31]) w28
 fun (v32 : Value) (w33 : World) =>
 ∃ (a34 : Option Addr),
 ∃ (n35 : Nat),
 ∃ (n36 : Nat),
 v32 = Value.slice a34 n35 n36 ∧
 Keeps [n12] w28 w33 ∧
 J1 ((a34, n35, n36), IntKind.i64.wrap (x6 + 1), ()) w33 ∧
 J2 ((a34, n35, n36), IntKind.i64.wrap (x6 + 1), ()) w33 < J2 ((a3, n4, n5), x6, ()) w7) ∧
 ((x26 == -1) = false →
 ((x26 == 1) = true →
 J1 ((a3, n4, n5), IntKind.i64.wrap (x6 + 1), ()) w25 ∧ J2 ((a3, n4, n5), IntKind.i64.wrap (x6 + 1), ()) w25 < J2 ((a3, n4, n5), x6, ()) w7) ∧
 ((x26 == 1) = false →
 OpW Proofs.Try.prog (valueS (Instr.buildSlice 31 1 #[(0, Value.int IntKind.i64 x6)])) w25 fun (v37 : Value) (w38 : World) =>
 ∃ (a39 : Option Addr),
 ∃ (n40 : Nat),
 ∃ (n41 : Nat),
 v37 = Value.slice a39 n40 n41 ∧
 Keeps [n12] w25 w38 ∧
 OpW Proofs.Try.prog (builtin Builtin.append #[31, 31] 31 #[false, false] #[Value.slice a3 n4 n5, Value.slice a39 n40 n41]) w38
 fun (v42 : Value) (w43 : World) =>
 ∃ (a44 : Option Addr),
 ∃ (n45 : Nat),
 ∃ (n46 : Nat),
 v42 = Value.slice a44 n45 n46 ∧
 Keeps [n12] w38 w43 ∧
 J1 ((a44, n45, n46), IntKind.i64.wrap (x6 + 1), ()) w43 ∧
 J2 ((a44, n45, n46), IntKind.i64.wrap (x6 + 1), ()) w43 < J2 ((a3, n4, n5), x6, ()) w7))) ∧
 (decide ((↑n4 : Int) > 0) = false →
 OpW Proofs.Try.prog (valueS (Instr.buildSlice 31 1 #[(0, Value.int IntKind.i64 x6)])) w15 fun (v47 : Value) (w48 : World) =>
 ∃ (a49 : Option Addr),
 ∃ (n50 : Nat),
 ∃ (n51 : Nat),
 v47 = Value.slice a49 n50 n51 ∧
 Keeps [n12] w15 w48 ∧
 OpW Proofs.Try.prog (builtin Builtin.append #[31, 31] 31 #[false, false] #[Value.slice a3 n4 n5, Value.slice a49 n50 n51]) w48 fun (v52 : Value) (w53 : World) =>
 ∃ (a54 : Option Addr),
 ∃ (n55 : Nat),
 ∃ (n56 : Nat),
 v52 = Value.slice a54 n55 n56 ∧
 Keeps [n12] w48 w53 ∧
 J1 ((a54, n55, n56), IntKind.i64.wrap (x6 + 1), ()) w53 ∧ J2 ((a54, n55, n56), IntKind.i64.wrap (x6 + 1), ()) w53 < J2 ((a3, n4, n5), x6, ()) w7))) ∧
 (decide (x6 < (↑ln : Int)) = false → R (Ending.returned (Value.slice a3 n4 n5)) w7)
theorem f15_eq (la : Option Addr) (ln : Nat) (lc : Nat) (w : World) (R : Ending → World → Prop) : (fnF Go.Proofs.Try.prog h15 Go.Proofs.Try.f15 [Value.slice la ln lc] w R).den = f15_vc la ln lc w R := by kernel_rfl
theorem f15_calls (la : Option Addr) (ln : Nat) (lc : Nat) (w : World) (R : Ending → World → Prop) (h : f15_vc la ln lc w R) : Calls Go.Proofs.Try.prog 15 (List.toArray [Value.slice la ln lc]) w R :=
 fn_sound (H := h15) (fn := Go.Proofs.Try.f15) (by kernel_rfl) (by kernel_rfl) (by kernel_rfl) ((f15_eq la ln lc w R).mpr h)


/-! manciple/manciplelaw07.works -/
def h16 : Hints := ⟨[1, 2], [24], [17, 22, 28], [], [], [], [], [], []⟩
def f16_vc  (w : World) (R : Ending → World → Prop) : Prop :=
 ∀ (n1 : Nat),
 w.heap.size ≤ n1 →
 ∀ (n2 : Nat),
 w.heap.size ≤ n2 →
 ∀ (w3 : World),
 Evo [n2, n1] w w3 →
 Under [n1, n2] w3 →
 OpW Proofs.Try.prog
 (valueS
 (Instr.buildSlice 26 3
 #[(0, Value.agg #[Value.int IntKind.i64 1, Value.int IntKind.i64 2, Value.int IntKind.i64 1]), (1, Value.agg #[Value.int IntKind.i64 2, Value.int IntKind.i64 3, Value.int IntKind.i64 2]),
 (2, Value.agg #[Value.int IntKind.i64 2, Value.int IntKind.i64 3, Value.int IntKind.i64 2])]))
 w3 fun (v4 : Value) (w5 : World) =>
 ∃ (a6 : Option Addr),
 ∃ (n7 : Nat),
 ∃ (n8 : Nat),
 v4 = Value.slice a6 n7 n8 ∧
 Keeps [n1, n2] w3 w5 ∧
 Calls Proofs.Try.prog 15 #[Value.slice a6 n7 n8] w5 fun (e9 : Ending) (w10 : World) =>
 ∃ (a11 : Option Addr),
 ∃ (n12 : Nat),
 ∃ (n13 : Nat),
 e9 = Ending.returned (Value.slice a11 n12 n13) ∧
 Keeps [n1, n2] w5 w10 ∧
 Calls Proofs.Try.prog 11 #[Value.agg #[Value.int IntKind.i64 2, Value.int IntKind.i64 3, Value.int IntKind.i64 2], Value.agg #[Value.int IntKind.i64 1, Value.int IntKind.i64 2, Value.int IntKind.i64 1]]
 w10 fun (e14 : Ending) (w15 : World) =>
 ∃ (x16 : Int),
 e14 = Ending.returned (Value.int IntKind.i64 x16) ∧
 Keeps [n1, n2] w10 w15 ∧
 ((x16 == -1) = true →
 (((↑n12 : Int) == 2) = true →
 ∃ (ad17 : Addr),
 Gives Proofs.Try.prog (Instr.indexAt 31 (Value.slice a11 n12 n13) (Value.int IntKind.i64 0)) (Value.pointer (some ad17)) ∧
 ∃ (x18 : Int),
 Reads Proofs.Try.prog [] (Instr.loadAt 3 (Value.pointer (some ad17))) w15 (Value.int IntKind.i64 x18) ∧
 ((x18 == 1) = true →
 Calls Proofs.Try.prog 17 #[Value.agg #[Value.int IntKind.i64 2, Value.int IntKind.i64 3, Value.int IntKind.i64 2]] w15 fun (e19 : Ending) (w20 : World) =>
 ∃ (s21 : ByteArray),
 e19 = Ending.returned (Value.string s21) ∧ Keeps [n1, n2] w15 w20 ∧ R (Ending.returned (Value.bool (s21.toList == (ByteArray.mk #[50, 47, 51, 58, 50]).toList))) w20) ∧
 ((x18 == 1) = false → R (Ending.returned (Value.bool false)) w15)) ∧
 (((↑n12 : Int) == 2) = false → R (Ending.returned (Value.bool false)) w15)) ∧
 ((x16 == -1) = false → R (Ending.returned (Value.bool false)) w15)
theorem f16_eq  (w : World) (R : Ending → World → Prop) : (fnF Go.Proofs.Try.prog h16 Go.Proofs.Try.f16 [] w R).den = f16_vc  w R := by kernel_rfl
theorem f16_calls  (w : World) (R : Ending → World → Prop) (h : f16_vc  w R) : Calls Go.Proofs.Try.prog 16 (List.toArray []) w R :=
 fn_sound (H := h16) (fn := Go.Proofs.Try.f16) (by kernel_rfl) (by kernel_rfl) (by kernel_rfl) ((f16_eq  w R).mpr h)


/-! (manciple/share.Share).Text -/
def h17 : Hints := ⟨[1], [9, 13], [5], [(3, [0, 1, 4, 5, 2, 3, 6, 7, 8])], [], [], [], [], []⟩
def f17_vc (a_0 : Int) (a_1 : Int) (a_2 : Int) (w : World) (R : Ending → World → Prop) : Prop :=
 ∀ (n1 : Nat),
 w.heap.size ≤ n1 →
 ∀ (w2 : World),
 Below w.heap.size w w2 →
 Under [n1] w2 →
 Calls Proofs.Try.prog 13 #[Value.agg #[Value.int IntKind.i64 a_0, Value.int IntKind.i64 a_1, Value.int IntKind.i64 a_2]] w2 fun (e3 : Ending) (w4 : World) =>
 ∃ (b5 : Bool),
 e3 = Ending.returned (Value.bool b5) ∧
 Keeps [n1] w2 w4 ∧
 ((!b5) = true → R (Ending.returned (Value.string (ByteArray.mk #[]))) w4) ∧
 ((!b5) = false →
 ∀ (w6 : World),
 Below w4.heap.size w4 w6 →
 Under [n1] w6 →
 Calls Proofs.Try.prog 18 #[Value.agg #[Value.int IntKind.i64 a_0, Value.int IntKind.i64 a_1]] w6 fun (e7 : Ending) (w8 : World) =>
 ∃ (s9 : ByteArray),
 e7 = Ending.returned (Value.string s9) ∧
 Keeps [n1] w6 w8 ∧
 ∃ (s10 : ByteArray),
 Gives Proofs.Try.prog (binOpS BinOp.add 9 (Operand.tmp 8) (Operand.const (Value.string (ByteArray.mk #[58]))) (Value.string s9) (Value.string (ByteArray.mk #[58]))) (Value.string s10) ∧
 Calls Proofs.Try.prog 42 #[Value.int IntKind.i64 a_2] w8 fun (e11 : Ending) (w12 : World) =>
 ∃ (s13 : ByteArray),
 e11 = Ending.returned (Value.string s13) ∧
 Keeps [n1] w8 w12 ∧
 ∃ (s14 : ByteArray),
 Gives Proofs.Try.prog (binOpS BinOp.add 9 (Operand.tmp 9) (Operand.tmp 12) (Value.string s10) (Value.string s13)) (Value.string s14) ∧ R (Ending.returned (Value.string s14)) w12)
theorem f17_eq (a_0 : Int) (a_1 : Int) (a_2 : Int) (w : World) (R : Ending → World → Prop) : (fnF Go.Proofs.Try.prog h17 Go.Proofs.Try.f17 [Value.agg #[Value.int IntKind.i64 a_0, Value.int IntKind.i64 a_1, Value.int IntKind.i64 a_2]] w R).den = f17_vc a_0 a_1 a_2 w R := by kernel_rfl
theorem f17_calls (a_0 : Int) (a_1 : Int) (a_2 : Int) (w : World) (R : Ending → World → Prop) (h : f17_vc a_0 a_1 a_2 w R) : Calls Go.Proofs.Try.prog 17 (List.toArray [Value.agg #[Value.int IntKind.i64 a_0, Value.int IntKind.i64 a_1, Value.int IntKind.i64 a_2]]) w R :=
 fn_sound (H := h17) (fn := Go.Proofs.Try.f17) (by kernel_rfl) (by kernel_rfl) (by kernel_rfl) ((f17_eq a_0 a_1 a_2 w R).mpr h)


/-! manciple/ratio.Text -/
def h18 : Hints := ⟨[1], [9, 13], [5], [(3, [0, 1, 4, 5, 2, 3, 6, 7, 8])], [], [], [], [], []⟩
def f18_vc (f_0 : Int) (f_1 : Int) (w : World) (R : Ending → World → Prop) : Prop :=
 ∀ (n1 : Nat),
 w.heap.size ≤ n1 →
 ∀ (w2 : World),
 Below w.heap.size w w2 →
 Under [n1] w2 →
 Calls Proofs.Try.prog 40 #[Value.agg #[Value.int IntKind.i64 f_0, Value.int IntKind.i64 f_1]] w2 fun (e3 : Ending) (w4 : World) =>
 ∃ (b5 : Bool),
 e3 = Ending.returned (Value.bool b5) ∧
 Keeps [n1] w2 w4 ∧
 ((!b5) = true → R (Ending.returned (Value.string (ByteArray.mk #[]))) w4) ∧
 ((!b5) = false →
 ∀ (w6 : World),
 Below w4.heap.size w4 w6 →
 Under [n1] w6 →
 Calls Proofs.Try.prog 43 #[Value.int IntKind.i64 f_0] w6 fun (e7 : Ending) (w8 : World) =>
 ∃ (s9 : ByteArray),
 e7 = Ending.returned (Value.string s9) ∧
 Keeps [n1] w6 w8 ∧
 ∃ (s10 : ByteArray),
 Gives Proofs.Try.prog (binOpS BinOp.add 9 (Operand.tmp 8) (Operand.const (Value.string (ByteArray.mk #[47]))) (Value.string s9) (Value.string (ByteArray.mk #[47]))) (Value.string s10) ∧
 Calls Proofs.Try.prog 43 #[Value.int IntKind.i64 f_1] w8 fun (e11 : Ending) (w12 : World) =>
 ∃ (s13 : ByteArray),
 e11 = Ending.returned (Value.string s13) ∧
 Keeps [n1] w8 w12 ∧
 ∃ (s14 : ByteArray),
 Gives Proofs.Try.prog (binOpS BinOp.add 9 (Operand.tmp 9) (Operand.tmp 12) (Value.string s10) (Value.string s13)) (Value.string s14) ∧ R (Ending.returned (Value.string s14)) w12)
theorem f18_eq (f_0 : Int) (f_1 : Int) (w : World) (R : Ending → World → Prop) : (fnF Go.Proofs.Try.prog h18 Go.Proofs.Try.f18 [Value.agg #[Value.int IntKind.i64 f_0, Value.int IntKind.i64 f_1]] w R).den = f18_vc f_0 f_1 w R := by kernel_rfl
theorem f18_calls (f_0 : Int) (f_1 : Int) (w : World) (R : Ending → World → Prop) (h : f18_vc f_0 f_1 w R) : Calls Go.Proofs.Try.prog 18 (List.toArray [Value.agg #[Value.int IntKind.i64 f_0, Value.int IntKind.i64 f_1]]) w R :=
 fn_sound (H := h18) (fn := Go.Proofs.Try.f18) (by kernel_rfl) (by kernel_rfl) (by kernel_rfl) ((f18_eq f_0 f_1 w R).mpr h)


/-! manciple/ratio.Cmp -/
def h19 : Hints := ⟨[2, 3], [], [12, 8], [(3, [0, 1, 2, 3, 4, 5, 7, 8, 9, 10, 11, 12, 6, 13, 14, 15])], [], [], [], [], []⟩
def f19_vc (a_0 : Int) (a_1 : Int) (b_0 : Int) (b_1 : Int) (w : World) (R : Ending → World → Prop) : Prop :=
 ∀ (n1 : Nat),
 w.heap.size ≤ n1 →
 ∀ (n2 : Nat),
 w.heap.size ≤ n2 →
 ∀ (w3 : World),
 Below w.heap.size w w3 →
 Under [n1, n2] w3 →
 Calls Proofs.Try.prog 40 #[Value.agg #[Value.int IntKind.i64 a_0, Value.int IntKind.i64 a_1]] w3 fun (e4 : Ending) (w5 : World) =>
 ∃ (b6 : Bool),
 e4 = Ending.returned (Value.bool b6) ∧
 Keeps [n1, n2] w3 w5 ∧
 ((!b6) = true → R (Ending.returned (Value.int IntKind.i64 0)) w5) ∧
 ((!b6) = false →
 Calls Proofs.Try.prog 40 #[Value.agg #[Value.int IntKind.i64 b_0, Value.int IntKind.i64 b_1]] w5 fun (e7 : Ending) (w8 : World) =>
 ∃ (b9 : Bool),
 e7 = Ending.returned (Value.bool b9) ∧
 Keeps [n1, n2] w5 w8 ∧
 ((!b9) = true → R (Ending.returned (Value.int IntKind.i64 0)) w8) ∧
 ((!b9) = false →
 ∀ (w10 : World),
 Below w8.heap.size w8 w10 →
 Under [n1, n2] w10 →
 Calls Proofs.Try.prog 44 #[Value.int IntKind.u64 (IntKind.u64.wrap a_0), Value.int IntKind.u64 (IntKind.u64.wrap b_1)] w10 fun (e11 : Ending) (w12 : World) =>
 ∃ (x13 : Int),
 ∃ (x14 : Int),
 e11 = Ending.returned (Value.agg #[Value.int IntKind.u64 x13, Value.int IntKind.u64 x14]) ∧
 Keeps [n1, n2] w10 w12 ∧
 Calls Proofs.Try.prog 44 #[Value.int IntKind.u64 (IntKind.u64.wrap b_0), Value.int IntKind.u64 (IntKind.u64.wrap a_1)] w12 fun (e15 : Ending) (w16 : World) =>
 ∃ (x17 : Int),
 ∃ (x18 : Int),
 e15 = Ending.returned (Value.agg #[Value.int IntKind.u64 x17, Value.int IntKind.u64 x18]) ∧
 Keeps [n1, n2] w12 w16 ∧
 Calls Proofs.Try.prog 37 #[Value.agg #[Value.int IntKind.u64 x13, Value.int IntKind.u64 x14], Value.agg #[Value.int IntKind.u64 x17, Value.int IntKind.u64 x18]] w16
 fun (e19 : Ending) (w20 : World) =>
 ∃ (x21 : Int), e19 = Ending.returned (Value.int IntKind.i64 x21) ∧ Keeps [n1, n2] w16 w20 ∧ R (Ending.returned (Value.int IntKind.i64 x21)) w20))
theorem f19_eq (a_0 : Int) (a_1 : Int) (b_0 : Int) (b_1 : Int) (w : World) (R : Ending → World → Prop) : (fnF Go.Proofs.Try.prog h19 Go.Proofs.Try.f19 [Value.agg #[Value.int IntKind.i64 a_0, Value.int IntKind.i64 a_1], Value.agg #[Value.int IntKind.i64 b_0, Value.int IntKind.i64 b_1]] w R).den = f19_vc a_0 a_1 b_0 b_1 w R := by kernel_rfl
theorem f19_calls (a_0 : Int) (a_1 : Int) (b_0 : Int) (b_1 : Int) (w : World) (R : Ending → World → Prop) (h : f19_vc a_0 a_1 b_0 b_1 w R) : Calls Go.Proofs.Try.prog 19 (List.toArray [Value.agg #[Value.int IntKind.i64 a_0, Value.int IntKind.i64 a_1], Value.agg #[Value.int IntKind.i64 b_0, Value.int IntKind.i64 b_1]]) w R :=
 fn_sound (H := h19) (fn := Go.Proofs.Try.f19) (by kernel_rfl) (by kernel_rfl) (by kernel_rfl) ((f19_eq a_0 a_1 b_0 b_1 w R).mpr h)


/-! (manciple/share.Share).cross -/
def h36 : Hints := ⟨[2, 3, 4], [], [], [], [], [], [], [], []⟩
def f36_vc (a_0 : Int) (a_1 : Int) (a_2 : Int) (b_0 : Int) (b_1 : Int) (b_2 : Int) (w : World) (R : Ending → World → Prop) : Prop :=
 ∀ (n1 : Nat),
 w.heap.size ≤ n1 →
 ∀ (n2 : Nat),
 w.heap.size ≤ n2 →
 ∀ (n3 : Nat),
 w.heap.size ≤ n3 →
 ∀ (w4 : World),
 Below w.heap.size w w4 →
 Under [n1, n2, n3] w4 →
 Calls Proofs.Try.prog 44 #[Value.int IntKind.u64 (IntKind.u64.wrap a_0), Value.int IntKind.u64 (IntKind.u64.wrap (IntKind.u64.wrap b_1 * IntKind.u64.wrap b_2))] w4 fun (e5 : Ending) (w6 : World) =>
 ∃ (x7 : Int),
 ∃ (x8 : Int),
 e5 = Ending.returned (Value.agg #[Value.int IntKind.u64 x7, Value.int IntKind.u64 x8]) ∧
 Keeps [n1, n2, n3] w4 w6 ∧ ∀ (w9 : World), Evo [n3] w6 w9 → Under [n1, n2, n3] w9 → R (Ending.returned (Value.agg #[Value.int IntKind.u64 x7, Value.int IntKind.u64 x8])) w9
theorem f36_eq (a_0 : Int) (a_1 : Int) (a_2 : Int) (b_0 : Int) (b_1 : Int) (b_2 : Int) (w : World) (R : Ending → World → Prop) : (fnF Go.Proofs.Try.prog h36 Go.Proofs.Try.f36 [Value.agg #[Value.int IntKind.i64 a_0, Value.int IntKind.i64 a_1, Value.int IntKind.i64 a_2], Value.agg #[Value.int IntKind.i64 b_0, Value.int IntKind.i64 b_1, Value.int IntKind.i64 b_2]] w R).den = f36_vc a_0 a_1 a_2 b_0 b_1 b_2 w R := by kernel_rfl
theorem f36_calls (a_0 : Int) (a_1 : Int) (a_2 : Int) (b_0 : Int) (b_1 : Int) (b_2 : Int) (w : World) (R : Ending → World → Prop) (h : f36_vc a_0 a_1 a_2 b_0 b_1 b_2 w R) : Calls Go.Proofs.Try.prog 36 (List.toArray [Value.agg #[Value.int IntKind.i64 a_0, Value.int IntKind.i64 a_1, Value.int IntKind.i64 a_2], Value.agg #[Value.int IntKind.i64 b_0, Value.int IntKind.i64 b_1, Value.int IntKind.i64 b_2]]) w R :=
 fn_sound (H := h36) (fn := Go.Proofs.Try.f36) (by kernel_rfl) (by kernel_rfl) (by kernel_rfl) ((f36_eq a_0 a_1 a_2 b_0 b_1 b_2 w R).mpr h)


/-! (manciple/wide.Wide).Cmp -/
def h37 : Hints := ⟨[2, 3], [], [5, 9, 20], [], [], [], [], [], []⟩
def f37_vc (a_0 : Int) (a_1 : Int) (b_0 : Int) (b_1 : Int) (w : World) (R : Ending → World → Prop) : Prop :=
 ∀ (n1 : Nat),
 w.heap.size ≤ n1 →
 ∀ (n2 : Nat),
 w.heap.size ≤ n2 →
 ((a_0 == b_0 && (a_1 == b_1 && true)) = true → ∀ (w3 : World), Below w.heap.size w w3 → Under [n1, n2] w3 → R (Ending.returned (Value.int IntKind.i64 0)) w3) ∧
 ((a_0 == b_0 && (a_1 == b_1 && true)) = false →
 (decide (a_0 < b_0) = true → ∀ (w4 : World), Below w.heap.size w w4 → Under [n1, n2] w4 → R (Ending.returned (Value.int IntKind.i64 (-1))) w4) ∧
 (decide (a_0 < b_0) = false →
 ((a_0 == b_0) = true →
 (decide (a_1 < b_1) = true → ∀ (w5 : World), Below w.heap.size w w5 → Under [n1, n2] w5 → R (Ending.returned (Value.int IntKind.i64 (-1))) w5) ∧
 (decide (a_1 < b_1) = false → ∀ (w6 : World), Below w.heap.size w w6 → Under [n1, n2] w6 → R (Ending.returned (Value.int IntKind.i64 1)) w6)) ∧
 ((a_0 == b_0) = false → ∀ (w7 : World), Below w.heap.size w w7 → Under [n1, n2] w7 → R (Ending.returned (Value.int IntKind.i64 1)) w7)))
theorem f37_eq (a_0 : Int) (a_1 : Int) (b_0 : Int) (b_1 : Int) (w : World) (R : Ending → World → Prop) : (fnF Go.Proofs.Try.prog h37 Go.Proofs.Try.f37 [Value.agg #[Value.int IntKind.u64 a_0, Value.int IntKind.u64 a_1], Value.agg #[Value.int IntKind.u64 b_0, Value.int IntKind.u64 b_1]] w R).den = f37_vc a_0 a_1 b_0 b_1 w R := by kernel_rfl
theorem f37_calls (a_0 : Int) (a_1 : Int) (b_0 : Int) (b_1 : Int) (w : World) (R : Ending → World → Prop) (h : f37_vc a_0 a_1 b_0 b_1 w R) : Calls Go.Proofs.Try.prog 37 (List.toArray [Value.agg #[Value.int IntKind.u64 a_0, Value.int IntKind.u64 a_1], Value.agg #[Value.int IntKind.u64 b_0, Value.int IntKind.u64 b_1]]) w R :=
 fn_sound (H := h37) (fn := Go.Proofs.Try.f37) (by kernel_rfl) (by kernel_rfl) (by kernel_rfl) ((f37_eq a_0 a_1 b_0 b_1 w R).mpr h)


/-! manciple/mancipleref07.side -/
def h38 : Hints := ⟨[], [], [], [], [], [], [], [], []⟩
def f38_vc (a : Int) (b : Int) (c : Int) (w : World) (R : Ending → World → Prop) : Prop :=
 Calls Proofs.Try.prog 52 #[Value.int IntKind.u64 0, Value.int IntKind.u64 (IntKind.u64.wrap a)] w fun (e1 : Ending) (w2 : World) =>
 ∃ (a3 : Option Addr),
 ∃ (n4 : Nat),
 ∃ (n5 : Nat),
 e1 = Ending.returned (Value.slice a3 n4 n5) ∧
 Calls Proofs.Try.prog 52 #[Value.int IntKind.u64 0, Value.int IntKind.u64 (IntKind.u64.wrap b)] w2 fun (e6 : Ending) (w7 : World) =>
 ∃ (a8 : Option Addr),
 ∃ (n9 : Nat),
 ∃ (n10 : Nat),
 e6 = Ending.returned (Value.slice a8 n9 n10) ∧
 Calls Proofs.Try.prog 51 #[Value.slice a3 n4 n5, Value.slice a8 n9 n10] w7 fun (e11 : Ending) (w12 : World) =>
 ∃ (a13 : Option Addr),
 ∃ (n14 : Nat),
 ∃ (n15 : Nat),
 e11 = Ending.returned (Value.slice a13 n14 n15) ∧
 Calls Proofs.Try.prog 52 #[Value.int IntKind.u64 0, Value.int IntKind.u64 (IntKind.u64.wrap c)] w12 fun (e16 : Ending) (w17 : World) =>
 ∃ (a18 : Option Addr),
 ∃ (n19 : Nat),
 ∃ (n20 : Nat),
 e16 = Ending.returned (Value.slice a18 n19 n20) ∧
 Calls Proofs.Try.prog 51 #[Value.slice a13 n14 n15, Value.slice a18 n19 n20] w17 fun (e21 : Ending) (w22 : World) =>
 ∃ (a23 : Option Addr), ∃ (n24 : Nat), ∃ (n25 : Nat), e21 = Ending.returned (Value.slice a23 n24 n25) ∧ R (Ending.returned (Value.slice a23 n24 n25)) w22
theorem f38_eq (a : Int) (b : Int) (c : Int) (w : World) (R : Ending → World → Prop) : (fnF Go.Proofs.Try.prog h38 Go.Proofs.Try.f38 [Value.int IntKind.i64 a, Value.int IntKind.i64 b, Value.int IntKind.i64 c] w R).den = f38_vc a b c w R := by kernel_rfl
theorem f38_calls (a : Int) (b : Int) (c : Int) (w : World) (R : Ending → World → Prop) (h : f38_vc a b c w R) : Calls Go.Proofs.Try.prog 38 (List.toArray [Value.int IntKind.i64 a, Value.int IntKind.i64 b, Value.int IntKind.i64 c]) w R :=
 fn_sound (H := h38) (fn := Go.Proofs.Try.f38) (by kernel_rfl) (by kernel_rfl) (by kernel_rfl) ((f38_eq a b c w R).mpr h)


/-! manciple/mancipleref01.Less -/
def h39 : Hints := ⟨[], [15, 19, 24, 28], [10, 21], [(4, [0, 1, 2, 3, 4, 5, 6, 7, 8]), (5, [0, 1, 2, 3, 4, 5, 6, 7, 8, 9])], [], [(2, ⟨[(5, .int .i64)], []⟩)], [], [], []⟩
def f39_vc (aa : Option Addr) (an : Nat) (ac : Nat) (ba : Option Addr) (bn : Nat) (bc : Nat) (w : World) (R : Ending → World → Prop) : Prop :=
 ∃ (J1 : Int × Unit → World → Prop),
 ∃ (J2 : Int × Unit → World → Nat),
 J1 (IntKind.i64.wrap ((↑an : Int) - 1), ()) w ∧
 ∀ (x3 : Int) (w4 : World),
 J1 (x3, ()) w4 →
 (decide (x3 ≥ 0) = true →
 ∃ (ad5 : Addr),
 Gives Proofs.Try.prog (Instr.indexAt 31 (Value.slice aa an ac) (Value.int IntKind.i64 x3)) (Value.pointer (some ad5)) ∧
 ∃ (x6 : Int),
 Reads Proofs.Try.prog [] (Instr.loadAt 3 (Value.pointer (some ad5))) w4 (Value.int IntKind.i64 x6) ∧
 ∃ (ad7 : Addr),
 Gives Proofs.Try.prog (Instr.indexAt 31 (Value.slice ba bn bc) (Value.int IntKind.i64 x3)) (Value.pointer (some ad7)) ∧
 ∃ (x8 : Int),
 Reads Proofs.Try.prog [] (Instr.loadAt 3 (Value.pointer (some ad7))) w4 (Value.int IntKind.i64 x8) ∧
 ((x6 != x8) = true →
 ∃ (ad9 : Addr),
 Gives Proofs.Try.prog (Instr.indexAt 31 (Value.slice aa an ac) (Value.int IntKind.i64 x3)) (Value.pointer (some ad9)) ∧
 ∃ (x10 : Int),
 Reads Proofs.Try.prog [] (Instr.loadAt 3 (Value.pointer (some ad9))) w4 (Value.int IntKind.i64 x10) ∧
 ∃ (ad11 : Addr),
 Gives Proofs.Try.prog (Instr.indexAt 31 (Value.slice ba bn bc) (Value.int IntKind.i64 x3)) (Value.pointer (some ad11)) ∧
 ∃ (x12 : Int),
 Reads Proofs.Try.prog [] (Instr.loadAt 3 (Value.pointer (some ad11))) w4 (Value.int IntKind.i64 x12) ∧
 ∀ (w13 : World), Below w4.heap.size w4 w13 → R (Ending.returned (Value.bool (decide (x10 < x12)))) w13) ∧
 ((x6 != x8) = false → ∀ (w14 : World), Below w4.heap.size w4 w14 → J1 (IntKind.i64.wrap (x3 - 1), ()) w14 ∧ J2 (IntKind.i64.wrap (x3 - 1), ()) w14 < J2 (x3, ()) w4)) ∧
 (decide (x3 ≥ 0) = false → R (Ending.returned (Value.bool false)) w4)
theorem f39_eq (aa : Option Addr) (an : Nat) (ac : Nat) (ba : Option Addr) (bn : Nat) (bc : Nat) (w : World) (R : Ending → World → Prop) : (fnF Go.Proofs.Try.prog h39 Go.Proofs.Try.f39 [Value.slice aa an ac, Value.slice ba bn bc] w R).den = f39_vc aa an ac ba bn bc w R := by kernel_rfl
theorem f39_calls (aa : Option Addr) (an : Nat) (ac : Nat) (ba : Option Addr) (bn : Nat) (bc : Nat) (w : World) (R : Ending → World → Prop) (h : f39_vc aa an ac ba bn bc w R) : Calls Go.Proofs.Try.prog 39 (List.toArray [Value.slice aa an ac, Value.slice ba bn bc]) w R :=
 fn_sound (H := h39) (fn := Go.Proofs.Try.f39) (by kernel_rfl) (by kernel_rfl) (by kernel_rfl) ((f39_eq aa an ac ba bn bc w R).mpr h)


/-! manciple/ratio.Right -/
def h40 : Hints := ⟨[1], [], [6], [], [], [], [], [], []⟩
def f40_vc (f_0 : Int) (f_1 : Int) (w : World) (R : Ending → World → Prop) : Prop :=
 ∀ (n1 : Nat),
 w.heap.size ≤ n1 →
 (decide (f_0 ≥ 0) = true → ∀ (w2 : World), Below w.heap.size w w2 → Under [n1] w2 → R (Ending.returned (Value.bool (decide (f_1 ≥ 1)))) w2) ∧
 (decide (f_0 ≥ 0) = false → ∀ (w3 : World), Below w.heap.size w w3 → Under [n1] w3 → R (Ending.returned (Value.bool false)) w3)
theorem f40_eq (f_0 : Int) (f_1 : Int) (w : World) (R : Ending → World → Prop) : (fnF Go.Proofs.Try.prog h40 Go.Proofs.Try.f40 [Value.agg #[Value.int IntKind.i64 f_0, Value.int IntKind.i64 f_1]] w R).den = f40_vc f_0 f_1 w R := by kernel_rfl
theorem f40_calls (f_0 : Int) (f_1 : Int) (w : World) (R : Ending → World → Prop) (h : f40_vc f_0 f_1 w R) : Calls Go.Proofs.Try.prog 40 (List.toArray [Value.agg #[Value.int IntKind.i64 f_0, Value.int IntKind.i64 f_1]]) w R :=
 fn_sound (H := h40) (fn := Go.Proofs.Try.f40) (by kernel_rfl) (by kernel_rfl) (by kernel_rfl) ((f40_eq f_0 f_1 w R).mpr h)


/-! manciple/mancipleref02.Right -/
def h41 : Hints := ⟨[1], [], [6], [], [], [], [], [], []⟩
def f41_vc (f_0 : Int) (f_1 : Int) (w : World) (R : Ending → World → Prop) : Prop :=
 ∀ (n1 : Nat),
 w.heap.size ≤ n1 →
 (decide (f_0 ≥ 0) = true → ∀ (w2 : World), Below w.heap.size w w2 → Under [n1] w2 → R (Ending.returned (Value.bool (decide (f_1 ≥ 1)))) w2) ∧
 (decide (f_0 ≥ 0) = false → ∀ (w3 : World), Below w.heap.size w w3 → Under [n1] w3 → R (Ending.returned (Value.bool false)) w3)
theorem f41_eq (f_0 : Int) (f_1 : Int) (w : World) (R : Ending → World → Prop) : (fnF Go.Proofs.Try.prog h41 Go.Proofs.Try.f41 [Value.agg #[Value.int IntKind.i64 f_0, Value.int IntKind.i64 f_1]] w R).den = f41_vc f_0 f_1 w R := by kernel_rfl
theorem f41_calls (f_0 : Int) (f_1 : Int) (w : World) (R : Ending → World → Prop) (h : f41_vc f_0 f_1 w R) : Calls Go.Proofs.Try.prog 41 (List.toArray [Value.agg #[Value.int IntKind.i64 f_0, Value.int IntKind.i64 f_1]]) w R :=
 fn_sound (H := h41) (fn := Go.Proofs.Try.f41) (by kernel_rfl) (by kernel_rfl) (by kernel_rfl) ((f41_eq f_0 f_1 w R).mpr h)


/-! manciple/share.digits -/
def h42 : Hints := ⟨[], [16], [4], [], [], [], [], [], []⟩
def f42_vc (n : Int) (w : World) (R : Ending → World → Prop) : Prop :=
 (decide (n < 10) = true →
 OpW Proofs.Try.prog (valueS (Instr.buildSlice 83 1 #[(0, Value.int IntKind.u8 (IntKind.u8.wrap (IntKind.i64.wrap (48 + n))))])) w fun (v1 : Value) (w2 : World) =>
 ∃ (a3 : Option Addr),
 ∃ (n4 : Nat),
 ∃ (n5 : Nat),
 v1 = Value.slice a3 n4 n5 ∧ OpW Proofs.Try.prog (valueS (convert 83 9 (Value.slice a3 n4 n5))) w2 fun (v6 : Value) (w7 : World) => ∃ (s8 : ByteArray), v6 = Value.string s8 ∧ R (Ending.returned (Value.string s8)) w7) ∧
 (decide (n < 10) = false →
 Calls Proofs.Try.prog 42 #[Value.int IntKind.i64 (IntKind.i64.wrap (n.tdiv 10))] w fun (e9 : Ending) (w10 : World) =>
 ∃ (s11 : ByteArray),
 e9 = Ending.returned (Value.string s11) ∧
 Calls Proofs.Try.prog 42 #[Value.int IntKind.i64 (n.tmod 10)] w10 fun (e12 : Ending) (w13 : World) =>
 ∃ (s14 : ByteArray),
 e12 = Ending.returned (Value.string s14) ∧
 ∃ (s15 : ByteArray), Gives Proofs.Try.prog (binOpS BinOp.add 9 (Operand.tmp 12) (Operand.tmp 15) (Value.string s11) (Value.string s14)) (Value.string s15) ∧ R (Ending.returned (Value.string s15)) w13)
theorem f42_eq (n : Int) (w : World) (R : Ending → World → Prop) : (fnF Go.Proofs.Try.prog h42 Go.Proofs.Try.f42 [Value.int IntKind.i64 n] w R).den = f42_vc n w R := by kernel_rfl
theorem f42_calls (n : Int) (w : World) (R : Ending → World → Prop) (h : f42_vc n w R) : Calls Go.Proofs.Try.prog 42 (List.toArray [Value.int IntKind.i64 n]) w R :=
 fn_sound (H := h42) (fn := Go.Proofs.Try.f42) (by kernel_rfl) (by kernel_rfl) (by kernel_rfl) ((f42_eq n w R).mpr h)


/-! manciple/ratio.digits -/
def h43 : Hints := ⟨[], [19, 27], [11, 8], [], [], [(4, ⟨[(0, .int .i64), (4, .int .i64), (5, .bool)], []⟩)], [], [], []⟩
def f43_vc (n : Int) (w : World) (R : Ending → World → Prop) : Prop :=
 OpW Proofs.Try.prog (valueS (Instr.alloc 84 true (Value.tuple #[]))) w fun (v1 : Value) (w2 : World) =>
 ∃ (ad3 : Addr),
 v1 = Value.pointer (some ad3) ∧
 ∃ (J4 : Int × Int × Bool × Unit → World → Prop),
 ∃ (J5 : Int × Int × Bool × Unit → World → Nat),
 J4 (n, 20, true, ()) w2 ∧
 ∀ (x6 x7 : Int) (b8 : Bool) (w9 : World),
 J4 (x6, x7, b8, ()) w9 →
 (b8 = true →
 ∃ (ad10 : Addr),
 Gives Proofs.Try.prog (Instr.indexAt 84 (Value.pointer (some ad3)) (Value.int IntKind.i64 (IntKind.i64.wrap (x7 - 1)))) (Value.pointer (some ad10)) ∧
 OpW Proofs.Try.prog (skipS (Instr.storeAt 5 (Value.pointer (some ad10)) (Value.int IntKind.u8 (IntKind.u8.wrap (IntKind.i64.wrap (48 + x6.tmod 10)))))) w9 fun (v11 : Value) (w12 : World) =>
 J4 (IntKind.i64.wrap (x6.tdiv 10), IntKind.i64.wrap (x7 - 1), false, ()) w12 ∧ J5 (IntKind.i64.wrap (x6.tdiv 10), IntKind.i64.wrap (x7 - 1), false, ()) w12 < J5 (x6, x7, b8, ()) w9) ∧
 (b8 = false →
 (decide (x6 > 0) = true →
 ∃ (ad13 : Addr),
 Gives Proofs.Try.prog (Instr.indexAt 84 (Value.pointer (some ad3)) (Value.int IntKind.i64 (IntKind.i64.wrap (x7 - 1)))) (Value.pointer (some ad13)) ∧
 OpW Proofs.Try.prog (skipS (Instr.storeAt 5 (Value.pointer (some ad13)) (Value.int IntKind.u8 (IntKind.u8.wrap (IntKind.i64.wrap (48 + x6.tmod 10)))))) w9 fun (v14 : Value) (w15 : World) =>
 J4 (IntKind.i64.wrap (x6.tdiv 10), IntKind.i64.wrap (x7 - 1), false, ()) w15 ∧ J5 (IntKind.i64.wrap (x6.tdiv 10), IntKind.i64.wrap (x7 - 1), false, ()) w15 < J5 (x6, x7, b8, ()) w9) ∧
 (decide (x6 > 0) = false →
 OpW Proofs.Try.prog (valueS (Instr.makeSlice 83 (Value.int IntKind.i64 (IntKind.i64.wrap (20 - x7))) (Value.int IntKind.i64 (IntKind.i64.wrap (20 - x7))))) w9 fun (v16 : Value) (w17 : World) =>
 ∃ (a18 : Option Addr),
 ∃ (n19 : Nat),
 ∃ (n20 : Nat),
 v16 = Value.slice a18 n19 n20 ∧
 ∃ (a21 : Option Addr),
 ∃ (n22 : Nat),
 ∃ (n23 : Nat),
 Gives Proofs.Try.prog (Instr.sliceAt 84 (Value.pointer (some ad3)) (some (Value.int IntKind.i64 x7)) none none) (Value.slice a21 n22 n23) ∧
 OpW Proofs.Try.prog (builtin Builtin.copy #[83, 83] 3 #[false, false] #[Value.slice a18 n19 n20, Value.slice a21 n22 n23]) w17 fun (v24 : Value) (w25 : World) =>
 ∃ (x26 : Int),
 v24 = Value.int IntKind.i64 x26 ∧
 OpW Proofs.Try.prog (valueS (convert 83 9 (Value.slice a18 n19 n20))) w25 fun (v27 : Value) (w28 : World) =>
 ∃ (s29 : ByteArray), v27 = Value.string s29 ∧ R (Ending.returned (Value.string s29)) w28))
theorem f43_eq (n : Int) (w : World) (R : Ending → World → Prop) : (fnF Go.Proofs.Try.prog h43 Go.Proofs.Try.f43 [Value.int IntKind.i64 n] w R).den = f43_vc n w R := by kernel_rfl
theorem f43_calls (n : Int) (w : World) (R : Ending → World → Prop) (h : f43_vc n w R) : Calls Go.Proofs.Try.prog 43 (List.toArray [Value.int IntKind.i64 n]) w R :=
 fn_sound (H := h43) (fn := Go.Proofs.Try.f43) (by kernel_rfl) (by kernel_rfl) (by kernel_rfl) ((f43_eq n w R).mpr h)


/-! manciple/wide.Mul -/
def h44 : Hints := ⟨[4], [], [], [], [], [], [], [], []⟩
def f44_vc (a : Int) (b : Int) (w : World) (R : Ending → World → Prop) : Prop :=
 ∀ (n1 : Nat),
 w.heap.size ≤ n1 →
 ∀ (w2 : World),
 Evo [n1] w w2 →
 Under [n1] w2 →
 R
 (Ending.returned
 (Value.agg
 #[Value.int IntKind.u64
 (IntKind.u64.wrap
 (IntKind.u64.wrap
 (IntKind.u64.wrap (a.fdiv 4294967296 * b.fdiv 4294967296) +
 (IntKind.u64.wrap
 (IntKind.u64.wrap (a.fdiv 4294967296 * IntKind.u64.wrap (↑(BitVec.ofInt 64 b &&& BitVec.ofInt 64 4294967295).toNat : Int)) +
 (IntKind.u64.wrap (IntKind.u64.wrap (↑(BitVec.ofInt 64 a &&& BitVec.ofInt 64 4294967295).toNat : Int) * IntKind.u64.wrap (↑(BitVec.ofInt 64 b &&& BitVec.ofInt 64 4294967295).toNat : Int))).fdiv
 4294967296)).fdiv
 4294967296) +
 (IntKind.u64.wrap
 (IntKind.u64.wrap (IntKind.u64.wrap (↑(BitVec.ofInt 64 a &&& BitVec.ofInt 64 4294967295).toNat : Int) * b.fdiv 4294967296) +
 IntKind.u64.wrap
 (↑(BitVec.ofInt 64
 (IntKind.u64.wrap
 (IntKind.u64.wrap (a.fdiv 4294967296 * IntKind.u64.wrap (↑(BitVec.ofInt 64 b &&& BitVec.ofInt 64 4294967295).toNat : Int)) +
 (IntKind.u64.wrap
 (IntKind.u64.wrap (↑(BitVec.ofInt 64 a &&& BitVec.ofInt 64 4294967295).toNat : Int) * IntKind.u64.wrap (↑(BitVec.ofInt 64 b &&& BitVec.ofInt 64 4294967295).toNat : Int))).fdiv
 4294967296)) &&&
 BitVec.ofInt 64 4294967295).toNat :
 Int))).fdiv
 4294967296)),
 Value.int IntKind.u64
 (IntKind.u64.wrap
 (IntKind.u64.wrap
 (IntKind.u64.wrap
 (IntKind.u64.wrap (IntKind.u64.wrap (↑(BitVec.ofInt 64 a &&& BitVec.ofInt 64 4294967295).toNat : Int) * b.fdiv 4294967296) +
 IntKind.u64.wrap
 (↑(BitVec.ofInt 64
 (IntKind.u64.wrap
 (IntKind.u64.wrap (a.fdiv 4294967296 * IntKind.u64.wrap (↑(BitVec.ofInt 64 b &&& BitVec.ofInt 64 4294967295).toNat : Int)) +
 (IntKind.u64.wrap
 (IntKind.u64.wrap (↑(BitVec.ofInt 64 a &&& BitVec.ofInt 64 4294967295).toNat : Int) * IntKind.u64.wrap (↑(BitVec.ofInt 64 b &&& BitVec.ofInt 64 4294967295).toNat : Int))).fdiv
 4294967296)) &&&
 BitVec.ofInt 64 4294967295).toNat :
 Int)) *
 4294967296) +
 IntKind.u64.wrap
 (↑(BitVec.ofInt 64 (IntKind.u64.wrap (IntKind.u64.wrap (↑(BitVec.ofInt 64 a &&& BitVec.ofInt 64 4294967295).toNat : Int) * IntKind.u64.wrap (↑(BitVec.ofInt 64 b &&& BitVec.ofInt 64 4294967295).toNat : Int))) &&&
 BitVec.ofInt 64 4294967295).toNat :
 Int)))]))
 w2
theorem f44_eq (a : Int) (b : Int) (w : World) (R : Ending → World → Prop) : (fnF Go.Proofs.Try.prog h44 Go.Proofs.Try.f44 [Value.int IntKind.u64 a, Value.int IntKind.u64 b] w R).den = f44_vc a b w R := by kernel_rfl
theorem f44_calls (a : Int) (b : Int) (w : World) (R : Ending → World → Prop) (h : f44_vc a b w R) : Calls Go.Proofs.Try.prog 44 (List.toArray [Value.int IntKind.u64 a, Value.int IntKind.u64 b]) w R :=
 fn_sound (H := h44) (fn := Go.Proofs.Try.f44) (by kernel_rfl) (by kernel_rfl) (by kernel_rfl) ((f44_eq a b w R).mpr h)


/-! manciple/mancipleref02.Cmp -/
def h45 : Hints := ⟨[2, 3], [], [14, 35, 38, 10], [(3, [0, 1, 2, 4, 5, 6, 3, 7, 8, 9]), (4, [0, 1, 2, 4, 5, 6, 3, 7, 8, 9])], [], [], [], [], []⟩
def f45_vc (a_0 : Int) (a_1 : Int) (b_0 : Int) (b_1 : Int) (w : World) (R : Ending → World → Prop) : Prop :=
 ∀ (n1 : Nat),
 w.heap.size ≤ n1 →
 ∀ (n2 : Nat),
 w.heap.size ≤ n2 →
 ∀ (w3 : World),
 Below w.heap.size w w3 →
 Under [n1, n2] w3 →
 Calls Proofs.Try.prog 41 #[Value.agg #[Value.int IntKind.i64 a_0, Value.int IntKind.i64 a_1]] w3 fun (e4 : Ending) (w5 : World) =>
 ∃ (b6 : Bool),
 e4 = Ending.returned (Value.bool b6) ∧
 Keeps [n1, n2] w3 w5 ∧
 ((!b6) = true → R (Ending.returned (Value.int IntKind.i64 0)) w5) ∧
 ((!b6) = false →
 Calls Proofs.Try.prog 41 #[Value.agg #[Value.int IntKind.i64 b_0, Value.int IntKind.i64 b_1]] w5 fun (e7 : Ending) (w8 : World) =>
 ∃ (b9 : Bool),
 e7 = Ending.returned (Value.bool b9) ∧
 Keeps [n1, n2] w5 w8 ∧
 ((!b9) = true → R (Ending.returned (Value.int IntKind.i64 0)) w8) ∧
 ((!b9) = false →
 ∀ (w10 : World),
 Below w8.heap.size w8 w10 →
 Under [n1, n2] w10 →
 Calls Proofs.Try.prog 52 #[Value.int IntKind.u64 0, Value.int IntKind.u64 (IntKind.u64.wrap a_0)] w10 fun (e11 : Ending) (w12 : World) =>
 ∃ (a13 : Option Addr),
 ∃ (n14 : Nat),
 ∃ (n15 : Nat),
 e11 = Ending.returned (Value.slice a13 n14 n15) ∧
 Keeps [n1, n2] w10 w12 ∧
 Calls Proofs.Try.prog 52 #[Value.int IntKind.u64 0, Value.int IntKind.u64 (IntKind.u64.wrap b_1)] w12 fun (e16 : Ending) (w17 : World) =>
 ∃ (a18 : Option Addr),
 ∃ (n19 : Nat),
 ∃ (n20 : Nat),
 e16 = Ending.returned (Value.slice a18 n19 n20) ∧
 Keeps [n1, n2] w12 w17 ∧
 Calls Proofs.Try.prog 51 #[Value.slice a13 n14 n15, Value.slice a18 n19 n20] w17 fun (e21 : Ending) (w22 : World) =>
 ∃ (a23 : Option Addr),
 ∃ (n24 : Nat),
 ∃ (n25 : Nat),
 e21 = Ending.returned (Value.slice a23 n24 n25) ∧
 Keeps [n1, n2] w17 w22 ∧
 ∀ (w26 : World),
 Below w22.heap.size w22 w26 →
 Under [n1, n2] w26 →
 Calls Proofs.Try.prog 52 #[Value.int IntKind.u64 0, Value.int IntKind.u64 (IntKind.u64.wrap b_0)] w26 fun (e27 : Ending) (w28 : World) =>
 ∃ (a29 : Option Addr),
 ∃ (n30 : Nat),
 ∃ (n31 : Nat),
 e27 = Ending.returned (Value.slice a29 n30 n31) ∧
 Keeps [n1, n2] w26 w28 ∧
 Calls Proofs.Try.prog 52 #[Value.int IntKind.u64 0, Value.int IntKind.u64 (IntKind.u64.wrap a_1)] w28 fun (e32 : Ending) (w33 : World) =>
 ∃ (a34 : Option Addr),
 ∃ (n35 : Nat),
 ∃ (n36 : Nat),
 e32 = Ending.returned (Value.slice a34 n35 n36) ∧
 Keeps [n1, n2] w28 w33 ∧
 Calls Proofs.Try.prog 51 #[Value.slice a29 n30 n31, Value.slice a34 n35 n36] w33 fun (e37 : Ending) (w38 : World) =>
 ∃ (a39 : Option Addr),
 ∃ (n40 : Nat),
 ∃ (n41 : Nat),
 e37 = Ending.returned (Value.slice a39 n40 n41) ∧
 Keeps [n1, n2] w33 w38 ∧
 Calls Proofs.Try.prog 39 #[Value.slice a23 n24 n25, Value.slice a39 n40 n41] w38 fun (e42 : Ending) (w43 : World) =>
 ∃ (b44 : Bool),
 e42 = Ending.returned (Value.bool b44) ∧
 Keeps [n1, n2] w38 w43 ∧
 (b44 = true → R (Ending.returned (Value.int IntKind.i64 (-1))) w43) ∧
 (b44 = false →
 Calls Proofs.Try.prog 39 #[Value.slice a39 n40 n41, Value.slice a23 n24 n25] w43
 fun (e45 : Ending) (w46 : World) =>
 ∃ (b47 : Bool),
 e45 = Ending.returned (Value.bool b47) ∧
 Keeps [n1, n2] w43 w46 ∧
 (b47 = true → R (Ending.returned (Value.int IntKind.i64 1)) w46) ∧
 (b47 = false → R (Ending.returned (Value.int IntKind.i64 0)) w46))))
theorem f45_eq (a_0 : Int) (a_1 : Int) (b_0 : Int) (b_1 : Int) (w : World) (R : Ending → World → Prop) : (fnF Go.Proofs.Try.prog h45 Go.Proofs.Try.f45 [Value.agg #[Value.int IntKind.i64 a_0, Value.int IntKind.i64 a_1], Value.agg #[Value.int IntKind.i64 b_0, Value.int IntKind.i64 b_1]] w R).den = f45_vc a_0 a_1 b_0 b_1 w R := by kernel_rfl
theorem f45_calls (a_0 : Int) (a_1 : Int) (b_0 : Int) (b_1 : Int) (w : World) (R : Ending → World → Prop) (h : f45_vc a_0 a_1 b_0 b_1 w R) : Calls Go.Proofs.Try.prog 45 (List.toArray [Value.agg #[Value.int IntKind.i64 a_0, Value.int IntKind.i64 a_1], Value.agg #[Value.int IntKind.i64 b_0, Value.int IntKind.i64 b_1]]) w R :=
 fn_sound (H := h45) (fn := Go.Proofs.Try.f45) (by kernel_rfl) (by kernel_rfl) (by kernel_rfl) ((f45_eq a_0 a_1 b_0 b_1 w R).mpr h)


/-! manciple/mancipleref01.Product -/
def h51 : Hints := ⟨[], [32, 36, 40, 52, 61], [19, 25], [(9, [0, 1, 2, 3, 4, 5, 6, 7, 8, 9, 10, 11, 12, 13, 14, 15, 16, 17, 18])], [], [(3, ⟨[(6, .int .i64)], []⟩), (7, ⟨[(7, .int .i64), (8, .int .i64)], []⟩)], [], [], []⟩
def f51_vc (aa : Option Addr) (an : Nat) (ac : Nat) (ba : Option Addr) (bn : Nat) (bc : Nat) (w : World) (R : Ending → World → Prop) : Prop :=
 OpW Proofs.Try.prog (valueS (Instr.makeSlice 31 (Value.int IntKind.i64 (IntKind.i64.wrap ((↑an : Int) + (↑bn : Int)))) (Value.int IntKind.i64 (IntKind.i64.wrap ((↑an : Int) + (↑bn : Int)))))) w fun (v1 : Value) (w2 : World) =>
 ∃ (a3 : Option Addr),
 ∃ (n4 : Nat),
 ∃ (n5 : Nat),
 v1 = Value.slice a3 n4 n5 ∧
 ∃ (J6 : Int × Unit → World → Prop),
 ∃ (J7 : Int × Unit → World → Nat),
 J6 (0, ()) w2 ∧
 ∀ (x8 : Int) (w9 : World),
 J6 (x8, ()) w9 →
 (decide (x8 < (↑an : Int)) = true →
 ∃ (J10 : Int × Int × Unit → World → Prop),
 ∃ (J11 : Int × Int × Unit → World → Nat),
 J10 (0, 0, ()) w9 ∧
 ∀ (x12 x13 : Int) (w14 : World),
 J10 (x12, x13, ()) w14 →
 (decide (x13 < (↑bn : Int)) = true →
 ∃ (ad15 : Addr),
 Gives Proofs.Try.prog (Instr.indexAt 31 (Value.slice a3 n4 n5) (Value.int IntKind.i64 (IntKind.i64.wrap (x8 + x13)))) (Value.pointer (some ad15)) ∧
 ∃ (x16 : Int),
 Reads Proofs.Try.prog [] (Instr.loadAt 3 (Value.pointer (some ad15))) w14 (Value.int IntKind.i64 x16) ∧
 ∃ (ad17 : Addr),
 Gives Proofs.Try.prog (Instr.indexAt 31 (Value.slice aa an ac) (Value.int IntKind.i64 x8)) (Value.pointer (some ad17)) ∧
 ∃ (x18 : Int),
 Reads Proofs.Try.prog [] (Instr.loadAt 3 (Value.pointer (some ad17))) w14 (Value.int IntKind.i64 x18) ∧
 ∃ (ad19 : Addr),
 Gives Proofs.Try.prog (Instr.indexAt 31 (Value.slice ba bn bc) (Value.int IntKind.i64 x13)) (Value.pointer (some ad19)) ∧
 ∃ (x20 : Int),
 Reads Proofs.Try.prog [] (Instr.loadAt 3 (Value.pointer (some ad19))) w14 (Value.int IntKind.i64 x20) ∧
 ∃ (ad21 : Addr),
 Gives Proofs.Try.prog (Instr.indexAt 31 (Value.slice a3 n4 n5) (Value.int IntKind.i64 (IntKind.i64.wrap (x8 + x13)))) (Value.pointer (some ad21)) ∧
 ∀ (w22 : World),
 Below w14.heap.size w14 w22 →
 OpW Proofs.Try.prog
 (skipS
 (Instr.storeAt 3 (Value.pointer (some ad21)) (Value.int IntKind.i64 ((IntKind.i64.wrap (IntKind.i64.wrap (x16 + IntKind.i64.wrap (x18 * x20)) + x12)).tmod 65536))))
 w22 fun (v23 : Value) (w24 : World) =>
 J10 (IntKind.i64.wrap ((IntKind.i64.wrap (IntKind.i64.wrap (x16 + IntKind.i64.wrap (x18 * x20)) + x12)).tdiv 65536), IntKind.i64.wrap (x13 + 1), ()) w24 ∧
 J11 (IntKind.i64.wrap ((IntKind.i64.wrap (IntKind.i64.wrap (x16 + IntKind.i64.wrap (x18 * x20)) + x12)).tdiv 65536), IntKind.i64.wrap (x13 + 1), ()) w24 <
 J11 (x12, x13, ()) w14) ∧
 (decide (x13 < (↑bn : Int)) = false →
 ∃ (ad25 : Addr),
 Gives Proofs.Try.prog (Instr.indexAt 31 (Value.slice a3 n4 n5) (Value.int IntKind.i64 (IntKind.i64.wrap (x8 + (↑bn : Int))))) (Value.pointer (some ad25)) ∧
 OpW Proofs.Try.prog (skipS (Instr.storeAt 3 (Value.pointer (some ad25)) (Value.int IntKind.i64 x12))) w14 fun (v26 : Value) (w27 : World) =>
 J6 (IntKind.i64.wrap (x8 + 1), ()) w27 ∧ J7 (IntKind.i64.wrap (x8 + 1), ()) w27 < J7 (x8, ()) w9)) ∧
 (decide (x8 < (↑an : Int)) = false → R (Ending.returned (Value.slice a3 n4 n5)) w9)
theorem f51_eq (aa : Option Addr) (an : Nat) (ac : Nat) (ba : Option Addr) (bn : Nat) (bc : Nat) (w : World) (R : Ending → World → Prop) : (fnF Go.Proofs.Try.prog h51 Go.Proofs.Try.f51 [Value.slice aa an ac, Value.slice ba bn bc] w R).den = f51_vc aa an ac ba bn bc w R := by kernel_rfl
theorem f51_calls (aa : Option Addr) (an : Nat) (ac : Nat) (ba : Option Addr) (bn : Nat) (bc : Nat) (w : World) (R : Ending → World → Prop) (h : f51_vc aa an ac ba bn bc w R) : Calls Go.Proofs.Try.prog 51 (List.toArray [Value.slice aa an ac, Value.slice ba bn bc]) w R :=
 fn_sound (H := h51) (fn := Go.Proofs.Try.f51) (by kernel_rfl) (by kernel_rfl) (by kernel_rfl) ((f51_eq aa an ac ba bn bc w R).mpr h)


/-! manciple/mancipleref01.Digits -/
def h52 : Hints := ⟨[], [], [9, 21], [], [], [(3, ⟨[(1, .int .u64), (5, .sl), (6, .int .i64)], []⟩), (8, ⟨[(0, .int .u64), (5, .sl), (7, .int .i64)], []⟩)], [], [], []⟩
def f52_vc (hi : Int) (lo : Int) (w : World) (R : Ending → World → Prop) : Prop :=
 ∃ (J1 : Int × (Option Addr × Nat × Nat) × Int × Unit → World → Prop),
 ∃ (J2 : Int × (Option Addr × Nat × Nat) × Int × Unit → World → Nat),
 J1 (lo, (none, 0, 0), 0, ()) w ∧
 ∀ (x3 : Int) (a4 : Option Addr) (n5 n6 : Nat) (x7 : Int) (w8 : World),
 J1 (x3, (a4, n5, n6), x7, ()) w8 →
 (decide (x7 < 4) = true →
 OpW Proofs.Try.prog (valueS (Instr.buildSlice 31 1 #[(0, Value.int IntKind.i64 (IntKind.i64.wrap (x3.tmod 65536)))])) w8 fun (v9 : Value) (w10 : World) =>
 ∃ (a11 : Option Addr),
 ∃ (n12 : Nat),
 ∃ (n13 : Nat),
 v9 = Value.slice a11 n12 n13 ∧
 OpW Proofs.Try.prog (builtin Builtin.append #[31, 31] 31 #[false, false] #[Value.slice a4 n5 n6, Value.slice a11 n12 n13]) w10 fun (v14 : Value) (w15 : World) =>
 ∃ (a16 : Option Addr),
 ∃ (n17 : Nat),
 ∃ (n18 : Nat),
 v14 = Value.slice a16 n17 n18 ∧
 J1 (IntKind.u64.wrap (x3.tdiv 65536), (a16, n17, n18), IntKind.i64.wrap (x7 + 1), ()) w15 ∧
 J2 (IntKind.u64.wrap (x3.tdiv 65536), (a16, n17, n18), IntKind.i64.wrap (x7 + 1), ()) w15 < J2 (x3, (a4, n5, n6), x7, ()) w8) ∧
 (decide (x7 < 4) = false →
 ∃ (J19 : Int × (Option Addr × Nat × Nat) × Int × Unit → World → Prop),
 ∃ (J20 : Int × (Option Addr × Nat × Nat) × Int × Unit → World → Nat),
 J19 (hi, (a4, n5, n6), 0, ()) w8 ∧
 ∀ (x21 : Int) (a22 : Option Addr) (n23 n24 : Nat) (x25 : Int) (w26 : World),
 J19 (x21, (a22, n23, n24), x25, ()) w26 →
 (decide (x25 < 4) = true →
 OpW Proofs.Try.prog (valueS (Instr.buildSlice 31 1 #[(0, Value.int IntKind.i64 (IntKind.i64.wrap (x21.tmod 65536)))])) w26 fun (v27 : Value) (w28 : World) =>
 ∃ (a29 : Option Addr),
 ∃ (n30 : Nat),
 ∃ (n31 : Nat),
 v27 = Value.slice a29 n30 n31 ∧
 OpW Proofs.Try.prog (builtin Builtin.append #[31, 31] 31 #[false, false] #[Value.slice a22 n23 n24, Value.slice a29 n30 n31]) w28 fun (v32 : Value) (w33 : World) =>
 ∃ (a34 : Option Addr),
 ∃ (n35 : Nat),
 ∃ (n36 : Nat),
 v32 = Value.slice a34 n35 n36 ∧
 J19 (IntKind.u64.wrap (x21.tdiv 65536), (a34, n35, n36), IntKind.i64.wrap (x25 + 1), ()) w33 ∧
 J20 (IntKind.u64.wrap (x21.tdiv 65536), (a34, n35, n36), IntKind.i64.wrap (x25 + 1), ()) w33 < J20 (x21, (a22, n23, n24), x25, ()) w26) ∧
 (decide (x25 < 4) = false → R (Ending.returned (Value.slice a22 n23 n24)) w26))
theorem f52_eq (hi : Int) (lo : Int) (w : World) (R : Ending → World → Prop) : (fnF Go.Proofs.Try.prog h52 Go.Proofs.Try.f52 [Value.int IntKind.u64 hi, Value.int IntKind.u64 lo] w R).den = f52_vc hi lo w R := by kernel_rfl
theorem f52_calls (hi : Int) (lo : Int) (w : World) (R : Ending → World → Prop) (h : f52_vc hi lo w R) : Calls Go.Proofs.Try.prog 52 (List.toArray [Value.int IntKind.u64 hi, Value.int IntKind.u64 lo]) w R :=
 fn_sound (H := h52) (fn := Go.Proofs.Try.f52) (by kernel_rfl) (by kernel_rfl) (by kernel_rfl) ((f52_eq hi lo w R).mpr h)

end Vcb
