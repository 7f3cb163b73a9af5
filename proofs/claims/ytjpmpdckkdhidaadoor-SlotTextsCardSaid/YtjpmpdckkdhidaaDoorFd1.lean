/- The formulas of functions, printed by a program (VcTool.lean): each is what the generator's formula comes to, by the kernel's reckoning; whoever proves one has the function's contract. -/
import Derived.Test.YtjpmpdckkdhidaaDoorVcFn
import Derived.Test.YtjpmpdckkdhidaaDoorProg
set_option maxRecDepth 100000
set_option maxHeartbeats 1000000
set_option linter.unusedVariables false
namespace Vcd
open Go Go.Vc Go.RowKit
/-! manciple/manciplelaw04.SlotPacks -/
def h3 : Hints := ⟨[3, 4, 11, 13], [], [67, 68, 80, 86, 31, 34, 39, 41, 53, 55, 58, 76, 93, 98, 103, 108], [], [], [], [(4, ⟨[(67, .bool)], []⟩), (9, ⟨[], []⟩)], [], []⟩
def f3_vc (a_0 : Int) (a_1 : Int) (b_0 : Int) (b_1 : Int) (n : Int) (w : World) (R : Ending → World → Prop) : Prop :=
 ∀ (n1 : Nat),
 w.heap.size ≤ n1 →
 ∀ (n2 : Nat),
 w.heap.size ≤ n2 →
 ∀ (w3 : World),
 Below w.heap.size w w3 →
 Under [n1, n2] w3 →
 Calls Proofs.Tryd.prog 6 #[Value.agg #[Value.int IntKind.i64 a_0, Value.int IntKind.i64 a_1]] w3 fun (e4 : Ending) (w5 : World) =>
 ∃ (x6 : Int),
 ∃ (b7 : Bool),
 e4 = Ending.returned (Value.tuple #[Value.int IntKind.u16 x6, Value.bool b7]) ∧
 Keeps [n1, n2] w3 w5 ∧
 Calls Proofs.Tryd.prog 6 #[Value.agg #[Value.int IntKind.i64 b_0, Value.int IntKind.i64 b_1]] w5 fun (e8 : Ending) (w9 : World) =>
 ∃ (x10 : Int),
 ∃ (b11 : Bool),
 e8 = Ending.returned (Value.tuple #[Value.int IntKind.u16 x10, Value.bool b11]) ∧
 Keeps [n1, n2] w5 w9 ∧
 ∃ (J12 : Bool × Unit → World → Prop),
 (Calls Proofs.Tryd.prog 7 #[Value.agg #[Value.int IntKind.i64 a_0, Value.int IntKind.i64 a_1]] w9 fun (e13 : Ending) (w14 : World) =>
 ∃ (b15 : Bool),
 e13 = Ending.returned (Value.bool b15) ∧
 Keeps [n1, n2] w9 w14 ∧
 ((!b7 == b15) = true → J12 (true, ()) w14) ∧
 ((!b7 == b15) = false →
 ((!b7) = true →
 ((x6 != 0) = true → J12 (true, ()) w14) ∧
 ((x6 != 0) = false →
 (b7 = true →
 ((IntKind.i64.wrap x6 != IntKind.i64.wrap (IntKind.i64.wrap (4 * a_1) + a_0)) = true → J12 (true, ()) w14) ∧
 ((IntKind.i64.wrap x6 != IntKind.i64.wrap (IntKind.i64.wrap (4 * a_1) + a_0)) = false →
 (b7 = true → (b11 = true → J12 (!(x6 == x10) == (a_0 == b_0 && (a_1 == b_1 && true)), ()) w14) ∧ (b11 = false → J12 (false, ()) w14)) ∧ (b7 = false → J12 (false, ()) w14))) ∧
 (b7 = false →
 (b7 = true → (b11 = true → J12 (!(x6 == x10) == (a_0 == b_0 && (a_1 == b_1 && true)), ()) w14) ∧ (b11 = false → J12 (false, ()) w14)) ∧ (b7 = false → J12 (false, ()) w14)))) ∧
 ((!b7) = false →
 (b7 = true →
 ((IntKind.i64.wrap x6 != IntKind.i64.wrap (IntKind.i64.wrap (4 * a_1) + a_0)) = true → J12 (true, ()) w14) ∧
 ((IntKind.i64.wrap x6 != IntKind.i64.wrap (IntKind.i64.wrap (4 * a_1) + a_0)) = false →
 (b7 = true → (b11 = true → J12 (!(x6 == x10) == (a_0 == b_0 && (a_1 == b_1 && true)), ()) w14) ∧ (b11 = false → J12 (false, ()) w14)) ∧ (b7 = false → J12 (false, ()) w14))) ∧
 (b7 = false →
 (b7 = true → (b11 = true → J12 (!(x6 == x10) == (a_0 == b_0 && (a_1 == b_1 && true)), ()) w14) ∧ (b11 = false → J12 (false, ()) w14)) ∧ (b7 = false → J12 (false, ()) w14))))) ∧
 ∀ (b16 : Bool) (w17 : World),
 J12 (b16, ()) w17 →
 (b16 = true → R (Ending.returned (Value.bool false)) w17) ∧
 (b16 = false →
 ∃ (J18 : Unit → World → Prop),
 ((b7 = true →
 Calls Proofs.Tryd.prog 8 #[Value.int IntKind.u16 x6] w17 fun (e19 : Ending) (w20 : World) =>
 ∃ (x21 : Int),
 ∃ (x22 : Int),
 ∃ (b23 : Bool),
 e19 = Ending.returned (Value.tuple #[Value.agg #[Value.int IntKind.i64 x21, Value.int IntKind.i64 x22], Value.bool b23]) ∧
 Keeps [n1, n2] w17 w20 ∧
 ∀ (n24 : Nat),
 w20.heap.size ≤ n24 →
 ((!b23) = true → ∀ (w25 : World), Evo [n24] w20 w25 → Under [n1, n2, n24] w25 → R (Ending.returned (Value.bool false)) w25) ∧
 ((!b23) = false →
 ((!(x21 == a_0 && (x22 == a_1 && true))) = true → ∀ (w26 : World), Evo [n24] w20 w26 → Under [n1, n2, n24] w26 → R (Ending.returned (Value.bool false)) w26) ∧
 ((!(x21 == a_0 && (x22 == a_1 && true))) = false → ∀ (w27 : World), Evo [n24] w20 w27 → Under [n1, n2, n24] w27 → J18 () w27))) ∧
 (b7 = false → J18 () w17)) ∧
 ∀ (w28 : World),
 J18 () w28 →
 Calls Proofs.Tryd.prog 8 #[Value.int IntKind.u16 n] w28 fun (e29 : Ending) (w30 : World) =>
 ∃ (x31 : Int),
 ∃ (x32 : Int),
 ∃ (b33 : Bool),
 e29 = Ending.returned (Value.tuple #[Value.agg #[Value.int IntKind.i64 x31, Value.int IntKind.i64 x32], Value.bool b33]) ∧
 Keeps [n1, n2] w28 w30 ∧
 ∀ (n34 : Nat),
 w30.heap.size ≤ n34 →
 (b33 = true →
 ∀ (w35 : World),
 Evo [n34] w30 w35 →
 Under [n1, n2, n34] w35 →
 Calls Proofs.Tryd.prog 6 #[Value.agg #[Value.int IntKind.i64 x31, Value.int IntKind.i64 x32]] w35 fun (e36 : Ending) (w37 : World) =>
 ∃ (x38 : Int),
 ∃ (b39 : Bool),
 e36 = Ending.returned (Value.tuple #[Value.int IntKind.u16 x38, Value.bool b39]) ∧
 Keeps [n1, n2, n34] w35 w37 ∧
 (b39 = true →
 ((x38 == n) = true →
 Calls Proofs.Tryd.prog 9 #[] w37 fun (e40 : Ending) (w41 : World) =>
 ∃ (b42 : Bool), e40 = Ending.returned (Value.bool b42) ∧ Keeps [n1, n2, n34] w37 w41 ∧ R (Ending.returned (Value.bool b42)) w41) ∧
 ((x38 == n) = false → R (Ending.returned (Value.bool false)) w37)) ∧
 (b39 = false → R (Ending.returned (Value.bool false)) w37)) ∧
 (b33 = false →
 (decide (n > 131) = true →
 ((x31 == 0 && (x32 == 0 && true)) = true →
 ∀ (w43 : World),
 Evo [n34] w30 w43 →
 Under [n1, n2, n34] w43 →
 Calls Proofs.Tryd.prog 9 #[] w43 fun (e44 : Ending) (w45 : World) =>
 ∃ (b46 : Bool), e44 = Ending.returned (Value.bool b46) ∧ Keeps [n1, n2, n34] w43 w45 ∧ R (Ending.returned (Value.bool b46)) w45) ∧
 ((x31 == 0 && (x32 == 0 && true)) = false → ∀ (w47 : World), Evo [n34] w30 w47 → Under [n1, n2, n34] w47 → R (Ending.returned (Value.bool false)) w47)) ∧
 (decide (n > 131) = false → ∀ (w48 : World), Evo [n34] w30 w48 → Under [n1, n2, n34] w48 → R (Ending.returned (Value.bool false)) w48)))
theorem f3_eq (a_0 : Int) (a_1 : Int) (b_0 : Int) (b_1 : Int) (n : Int) (w : World) (R : Ending → World → Prop) : (fnF Go.Proofs.Tryd.prog h3 Go.Proofs.Tryd.f3 [Value.agg #[Value.int IntKind.i64 a_0, Value.int IntKind.i64 a_1], Value.agg #[Value.int IntKind.i64 b_0, Value.int IntKind.i64 b_1], Value.int IntKind.u16 n] w R).den = f3_vc a_0 a_1 b_0 b_1 n w R := by kernel_rfl
theorem f3_calls (a_0 : Int) (a_1 : Int) (b_0 : Int) (b_1 : Int) (n : Int) (w : World) (R : Ending → World → Prop) (h : f3_vc a_0 a_1 b_0 b_1 n w R) : Calls Go.Proofs.Tryd.prog 3 (List.toArray [Value.agg #[Value.int IntKind.i64 a_0, Value.int IntKind.i64 a_1], Value.agg #[Value.int IntKind.i64 b_0, Value.int IntKind.i64 b_1], Value.int IntKind.u16 n]) w R :=
 fn_sound (H := h3) (fn := Go.Proofs.Tryd.f3) (by kernel_rfl) (by kernel_rfl) (by kernel_rfl) ((f3_eq a_0 a_1 b_0 b_1 n w R).mpr h)


/-! manciple/manciplelaw04.SlotOrders -/
def h4 : Hints := ⟨[3, 4], [28, 39], [23, 31, 36, 48, 55, 62, 67, 72], [(12, [0, 1, 3, 4, 2, 5, 6, 7, 8, 10, 9, 11, 12, 13, 14, 15, 16, 18, 17, 19, 20, 21, 22, 23, 24, 25, 26, 27, 28, 29, 30, 31, 32, 33, 34])], [], [(6, ⟨[(9, .int .i64), (10, .bool), (12, .str), (13, .int .i64)], []⟩)], [], [], []⟩
def f4_vc (a_0 : Int) (a_1 : Int) (b_0 : Int) (b_1 : Int) (name : ByteArray) (w : World) (R : Ending → World → Prop) : Prop :=
 ∀ (n1 : Nat),
 w.heap.size ≤ n1 →
 ∀ (n2 : Nat),
 w.heap.size ≤ n2 →
 ∀ (w3 : World),
 Below w.heap.size w w3 →
 Under [n1, n2] w3 →
 Calls Proofs.Tryd.prog 10 #[Value.string name] w3 fun (e4 : Ending) (w5 : World) =>
 ∃ (x6 : Int),
 ∃ (b7 : Bool),
 e4 = Ending.returned (Value.tuple #[Value.int IntKind.i64 x6, Value.bool b7]) ∧
 Keeps [n1, n2] w3 w5 ∧
 Calls Proofs.Tryd.prog 11 #[] w5 fun (e8 : Ending) (w9 : World) =>
 ∃ (a10 : Option Addr),
 ∃ (n11 : Nat),
 ∃ (n12 : Nat),
 e8 = Ending.returned (Value.slice a10 n11 n12) ∧
 Keeps [n1, n2] w5 w9 ∧
 ∃ (J13 : Int × Bool × ByteArray × Int × Unit → World → Prop),
 ∃ (J14 : Int × Bool × ByteArray × Int × Unit → World → Nat),
 J13 (0, false, ByteArray.mk #[], 0, ()) w9 ∧
 ∀ (x15 : Int) (b16 : Bool) (s17 : ByteArray) (x18 : Int) (w19 : World),
 J13 (x15, b16, s17, x18, ()) w19 →
 (decide (x18 < (↑n11 : Int)) = true →
 ∃ (ad20 : Addr),
 Gives Proofs.Tryd.prog (Instr.indexAt 34 (Value.slice a10 n11 n12) (Value.int IntKind.i64 x18)) (Value.pointer (some ad20)) ∧
 ∃ (s21 : ByteArray),
 Reads Proofs.Tryd.prog [] (Instr.loadAt 9 (Value.pointer (some ad20))) w19 (Value.string s21) ∧
 ((s21.toList == name.toList) = true →
 ((x18 == a_0) = true →
 ∃ (ad22 : Addr),
 Gives Proofs.Tryd.prog (Instr.indexAt 34 (Value.slice a10 n11 n12) (Value.int IntKind.i64 x18)) (Value.pointer (some ad22)) ∧
 ∃ (s23 : ByteArray),
 Reads Proofs.Tryd.prog [] (Instr.loadAt 9 (Value.pointer (some ad22))) w19 (Value.string s23) ∧
 J13 (x18, true, s23, IntKind.i64.wrap (x18 + 1), ()) w19 ∧ J14 (x18, true, s23, IntKind.i64.wrap (x18 + 1), ()) w19 < J14 (x15, b16, s17, x18, ()) w19) ∧
 ((x18 == a_0) = false →
 J13 (x18, true, s17, IntKind.i64.wrap (x18 + 1), ()) w19 ∧ J14 (x18, true, s17, IntKind.i64.wrap (x18 + 1), ()) w19 < J14 (x15, b16, s17, x18, ()) w19)) ∧
 ((s21.toList == name.toList) = false →
 ((x18 == a_0) = true →
 ∃ (ad24 : Addr),
 Gives Proofs.Tryd.prog (Instr.indexAt 34 (Value.slice a10 n11 n12) (Value.int IntKind.i64 x18)) (Value.pointer (some ad24)) ∧
 ∃ (s25 : ByteArray),
 Reads Proofs.Tryd.prog [] (Instr.loadAt 9 (Value.pointer (some ad24))) w19 (Value.string s25) ∧
 J13 (x15, b16, s25, IntKind.i64.wrap (x18 + 1), ()) w19 ∧ J14 (x15, b16, s25, IntKind.i64.wrap (x18 + 1), ()) w19 < J14 (x15, b16, s17, x18, ()) w19) ∧
 ((x18 == a_0) = false →
 J13 (x15, b16, s17, IntKind.i64.wrap (x18 + 1), ()) w19 ∧ J14 (x15, b16, s17, IntKind.i64.wrap (x18 + 1), ()) w19 < J14 (x15, b16, s17, x18, ()) w19))) ∧
 (decide (x18 < (↑n11 : Int)) = false →
 ∀ (w26 : World),
 Below w19.heap.size w19 w26 →
 Under [n1, n2] w26 →
 Calls Proofs.Tryd.prog 12 #[Value.agg #[Value.int IntKind.i64 a_0, Value.int IntKind.i64 a_1], Value.agg #[Value.int IntKind.i64 b_0, Value.int IntKind.i64 b_1]] w26
 fun (e27 : Ending) (w28 : World) =>
 ∃ (x29 : Int),
 e27 = Ending.returned (Value.int IntKind.i64 x29) ∧
 Keeps [n1, n2] w26 w28 ∧
 Calls Proofs.Tryd.prog 13 #[Value.agg #[Value.int IntKind.i64 a_0, Value.int IntKind.i64 a_1], Value.agg #[Value.int IntKind.i64 b_0, Value.int IntKind.i64 b_1]] w28
 fun (e30 : Ending) (w31 : World) =>
 ∃ (x32 : Int),
 e30 = Ending.returned (Value.int IntKind.i64 x32) ∧
 Keeps [n1, n2] w28 w31 ∧
 ((x29 == x32) = true →
 Calls Proofs.Tryd.prog 7 #[Value.agg #[Value.int IntKind.i64 a_0, Value.int IntKind.i64 a_1]] w31 fun (e33 : Ending) (w34 : World) =>
 ∃ (b35 : Bool),
 e33 = Ending.returned (Value.bool b35) ∧
 Keeps [n1, n2] w31 w34 ∧
 Calls Proofs.Tryd.prog 14 #[Value.agg #[Value.int IntKind.i64 a_0, Value.int IntKind.i64 a_1]] w34 fun (e36 : Ending) (w37 : World) =>
 ∃ (b38 : Bool),
 e36 = Ending.returned (Value.bool b38) ∧
 Keeps [n1, n2] w34 w37 ∧
 ((b35 == b38) = true →
 Calls Proofs.Tryd.prog 15 #[Value.int IntKind.i64 a_0] w37 fun (e39 : Ending) (w40 : World) =>
 ∃ (s41 : ByteArray),
 e39 = Ending.returned (Value.string s41) ∧
 Keeps [n1, n2] w37 w40 ∧
 ((s41.toList == s17.toList) = true →
 ((x6 == x15) = true →
 ((b7 == b16) = true →
 Calls Proofs.Tryd.prog 9 #[] w40 fun (e42 : Ending) (w43 : World) =>
 ∃ (b44 : Bool),
 e42 = Ending.returned (Value.bool b44) ∧ Keeps [n1, n2] w40 w43 ∧ R (Ending.returned (Value.bool b44)) w43) ∧
 ((b7 == b16) = false → R (Ending.returned (Value.bool false)) w40)) ∧
 ((x6 == x15) = false → R (Ending.returned (Value.bool false)) w40)) ∧
 ((s41.toList == s17.toList) = false → R (Ending.returned (Value.bool false)) w40)) ∧
 ((b35 == b38) = false → R (Ending.returned (Value.bool false)) w37)) ∧
 ((x29 == x32) = false → R (Ending.returned (Value.bool false)) w31))
theorem f4_eq (a_0 : Int) (a_1 : Int) (b_0 : Int) (b_1 : Int) (name : ByteArray) (w : World) (R : Ending → World → Prop) : (fnF Go.Proofs.Tryd.prog h4 Go.Proofs.Tryd.f4 [Value.agg #[Value.int IntKind.i64 a_0, Value.int IntKind.i64 a_1], Value.agg #[Value.int IntKind.i64 b_0, Value.int IntKind.i64 b_1], Value.string name] w R).den = f4_vc a_0 a_1 b_0 b_1 name w R := by kernel_rfl
theorem f4_calls (a_0 : Int) (a_1 : Int) (b_0 : Int) (b_1 : Int) (name : ByteArray) (w : World) (R : Ending → World → Prop) (h : f4_vc a_0 a_1 b_0 b_1 name w R) : Calls Go.Proofs.Tryd.prog 4 (List.toArray [Value.agg #[Value.int IntKind.i64 a_0, Value.int IntKind.i64 a_1], Value.agg #[Value.int IntKind.i64 b_0, Value.int IntKind.i64 b_1], Value.string name]) w R :=
 fn_sound (H := h4) (fn := Go.Proofs.Tryd.f4) (by kernel_rfl) (by kernel_rfl) (by kernel_rfl) ((f4_eq a_0 a_1 b_0 b_1 name w R).mpr h)


/-! manciple/manciplelaw04.SlotTexts -/
def h5 : Hints := ⟨[2, 5, 8], [26, 33], [21, 30, 40, 45, 50], [(9, [0, 2, 1, 3, 4, 5, 6, 7, 8, 9, 10, 11, 12, 13, 14, 15, 16, 17, 18])], [], [(5, ⟨[(9, .bool), (10, .int .i64)], [(8, .cons (.int .i64) (.cons (.int .i64) (.nil)))]⟩)], [], [], []⟩
def f5_vc (a_0 : Int) (a_1 : Int) (s : ByteArray) (w : World) (R : Ending → World → Prop) : Prop :=
 ∀ (n1 : Nat),
 w.heap.size ≤ n1 →
 ∀ (w2 : World),
 Below w.heap.size w w2 →
 Under [n1] w2 →
 Calls Proofs.Tryd.prog 16 #[Value.string s] w2 fun (e3 : Ending) (w4 : World) =>
 ∃ (x5 : Int),
 ∃ (x6 : Int),
 ∃ (b7 : Bool),
 e3 = Ending.returned (Value.tuple #[Value.agg #[Value.int IntKind.i64 x5, Value.int IntKind.i64 x6], Value.bool b7]) ∧
 Keeps [n1] w2 w4 ∧
 ∀ (n8 : Nat),
 w4.heap.size ≤ n8 →
 ∀ (w9 : World),
 Evo [n8] w4 w9 →
 Under [n1, n8] w9 →
 Calls Proofs.Tryd.prog 17 #[] w9 fun (e10 : Ending) (w11 : World) =>
 ∃ (a12 : Option Addr),
 ∃ (n13 : Nat),
 ∃ (n14 : Nat),
 e10 = Ending.returned (Value.slice a12 n13 n14) ∧
 Keeps [n1, n8] w9 w11 ∧
 ∀ (n15 : Nat),
 w11.heap.size ≤ n15 →
 ∃ (J16 : Bool × Int × Int × Int × Unit → World → Prop),
 ∃ (J17 : Bool × Int × Int × Int × Unit → World → Nat),
 (∀ (w18 : World), Evo [n15] w11 w18 → Under [n1, n8, n15] w18 → J16 (false, 0, 0, 0, ()) w18) ∧
 ∀ (b19 : Bool) (x20 x21 x22 : Int) (w23 : World),
 J16 (b19, x20, x21, x22, ()) w23 →
 (decide (x20 < (↑n13 : Int)) = true →
 ∃ (ad24 : Addr),
 Gives Proofs.Tryd.prog (Instr.indexAt 40 (Value.slice a12 n13 n14) (Value.int IntKind.i64 x20)) (Value.pointer (some ad24)) ∧
 ∃ (x25 : Int),
 ∃ (x26 : Int),
 Reads Proofs.Tryd.prog [] (Instr.loadAt 23 (Value.pointer (some ad24))) w23 (Value.agg #[Value.int IntKind.i64 x25, Value.int IntKind.i64 x26]) ∧
 Calls Proofs.Tryd.prog 18 #[Value.agg #[Value.int IntKind.i64 x25, Value.int IntKind.i64 x26]] w23 fun (e27 : Ending) (w28 : World) =>
 ∃ (s29 : ByteArray),
 e27 = Ending.returned (Value.string s29) ∧
 Keeps [n1, n8, n15] w23 w28 ∧
 ((s29.toList == s.toList) = true →
 ∃ (ad30 : Addr),
 Gives Proofs.Tryd.prog (Instr.indexAt 40 (Value.slice a12 n13 n14) (Value.int IntKind.i64 x20)) (Value.pointer (some ad30)) ∧
 ∃ (x31 : Int),
 ∃ (x32 : Int),
 Reads Proofs.Tryd.prog [] (Instr.loadAt 23 (Value.pointer (some ad30))) w28 (Value.agg #[Value.int IntKind.i64 x31, Value.int IntKind.i64 x32]) ∧
 ∀ (w33 : World),
 Evo [n15] w28 w33 →
 Under [n1, n8, n15] w33 →
 J16 (true, IntKind.i64.wrap (x20 + 1), x31, x32, ()) w33 ∧
 J17 (true, IntKind.i64.wrap (x20 + 1), x31, x32, ()) w33 < J17 (b19, x20, x21, x22, ()) w23) ∧
 ((s29.toList == s.toList) = false →
 J16 (b19, IntKind.i64.wrap (x20 + 1), x21, x22, ()) w28 ∧ J17 (b19, IntKind.i64.wrap (x20 + 1), x21, x22, ()) w28 < J17 (b19, x20, x21, x22, ()) w23)) ∧
 (decide (x20 < (↑n13 : Int)) = false →
 ∀ (w34 : World),
 Below w23.heap.size w23 w34 →
 Under [n1, n8, n15] w34 →
 Calls Proofs.Tryd.prog 19 #[Value.agg #[Value.int IntKind.i64 a_0, Value.int IntKind.i64 a_1]] w34 fun (e35 : Ending) (w36 : World) =>
 ∃ (s37 : ByteArray),
 e35 = Ending.returned (Value.string s37) ∧
 Keeps [n1, n8, n15] w34 w36 ∧
 Calls Proofs.Tryd.prog 18 #[Value.agg #[Value.int IntKind.i64 a_0, Value.int IntKind.i64 a_1]] w36 fun (e38 : Ending) (w39 : World) =>
 ∃ (s40 : ByteArray),
 e38 = Ending.returned (Value.string s40) ∧
 Keeps [n1, n8, n15] w36 w39 ∧
 ((s37.toList == s40.toList) = true →
 ((x5 == x21 && (x6 == x22 && true)) = true →
 ((b7 == b19) = true →
 Calls Proofs.Tryd.prog 9 #[] w39 fun (e41 : Ending) (w42 : World) =>
 ∃ (b43 : Bool), e41 = Ending.returned (Value.bool b43) ∧ Keeps [n1, n8, n15] w39 w42 ∧ R (Ending.returned (Value.bool b43)) w42) ∧
 ((b7 == b19) = false → R (Ending.returned (Value.bool false)) w39)) ∧
 ((x5 == x21 && (x6 == x22 && true)) = false → R (Ending.returned (Value.bool false)) w39)) ∧
 ((s37.toList == s40.toList) = false → R (Ending.returned (Value.bool false)) w39))
theorem f5_eq (a_0 : Int) (a_1 : Int) (s : ByteArray) (w : World) (R : Ending → World → Prop) : (fnF Go.Proofs.Tryd.prog h5 Go.Proofs.Tryd.f5 [Value.agg #[Value.int IntKind.i64 a_0, Value.int IntKind.i64 a_1], Value.string s] w R).den = f5_vc a_0 a_1 s w R := by kernel_rfl
theorem f5_calls (a_0 : Int) (a_1 : Int) (s : ByteArray) (w : World) (R : Ending → World → Prop) (h : f5_vc a_0 a_1 s w R) : Calls Go.Proofs.Tryd.prog 5 (List.toArray [Value.agg #[Value.int IntKind.i64 a_0, Value.int IntKind.i64 a_1], Value.string s]) w R :=
 fn_sound (H := h5) (fn := Go.Proofs.Tryd.f5) (by kernel_rfl) (by kernel_rfl) (by kernel_rfl) ((f5_eq a_0 a_1 s w R).mpr h)


/-! manciple/slot.Pack -/
def h6 : Hints := ⟨[1], [], [6], [], [], [], [], [], []⟩
def f6_vc (s_0 : Int) (s_1 : Int) (w : World) (R : Ending → World → Prop) : Prop :=
 ∀ (n1 : Nat),
 w.heap.size ≤ n1 →
 ∀ (w2 : World),
 Below w.heap.size w w2 →
 Under [n1] w2 →
 Calls Proofs.Tryd.prog 7 #[Value.agg #[Value.int IntKind.i64 s_0, Value.int IntKind.i64 s_1]] w2 fun (e3 : Ending) (w4 : World) =>
 ∃ (b5 : Bool),
 e3 = Ending.returned (Value.bool b5) ∧
 Keeps [n1] w2 w4 ∧
 ((!b5) = true → R (Ending.returned (Value.tuple #[Value.int IntKind.u16 0, Value.bool false])) w4) ∧
 ((!b5) = false →
 R (Ending.returned (Value.tuple #[Value.int IntKind.u16 (IntKind.u16.wrap (↑(BitVec.ofInt 16 (IntKind.u16.wrap (IntKind.u16.wrap s_1 * 4)) ||| BitVec.ofInt 16 (IntKind.u16.wrap s_0)).toNat : Int)), Value.bool true]))
 w4)
theorem f6_eq (s_0 : Int) (s_1 : Int) (w : World) (R : Ending → World → Prop) : (fnF Go.Proofs.Tryd.prog h6 Go.Proofs.Tryd.f6 [Value.agg #[Value.int IntKind.i64 s_0, Value.int IntKind.i64 s_1]] w R).den = f6_vc s_0 s_1 w R := by kernel_rfl
theorem f6_calls (s_0 : Int) (s_1 : Int) (w : World) (R : Ending → World → Prop) (h : f6_vc s_0 s_1 w R) : Calls Go.Proofs.Tryd.prog 6 (List.toArray [Value.agg #[Value.int IntKind.i64 s_0, Value.int IntKind.i64 s_1]]) w R :=
 fn_sound (H := h6) (fn := Go.Proofs.Tryd.f6) (by kernel_rfl) (by kernel_rfl) (by kernel_rfl) ((f6_eq s_0 s_1 w R).mpr h)


/-! manciple/slot.Right -/
def h7 : Hints := ⟨[1], [], [6, 11, 16], [], [], [], [], [], []⟩
def f7_vc (s_0 : Int) (s_1 : Int) (w : World) (R : Ending → World → Prop) : Prop :=
 ∀ (n1 : Nat),
 w.heap.size ≤ n1 →
 (decide (s_0 ≥ 0) = true →
 (decide (s_0 < 4) = true →
 (decide (s_1 ≥ 0) = true → ∀ (w2 : World), Below w.heap.size w w2 → Under [n1] w2 → R (Ending.returned (Value.bool (decide (s_1 ≤ 32)))) w2) ∧
 (decide (s_1 ≥ 0) = false → ∀ (w3 : World), Below w.heap.size w w3 → Under [n1] w3 → R (Ending.returned (Value.bool false)) w3)) ∧
 (decide (s_0 < 4) = false → ∀ (w4 : World), Below w.heap.size w w4 → Under [n1] w4 → R (Ending.returned (Value.bool false)) w4)) ∧
 (decide (s_0 ≥ 0) = false → ∀ (w5 : World), Below w.heap.size w w5 → Under [n1] w5 → R (Ending.returned (Value.bool false)) w5)
theorem f7_eq (s_0 : Int) (s_1 : Int) (w : World) (R : Ending → World → Prop) : (fnF Go.Proofs.Tryd.prog h7 Go.Proofs.Tryd.f7 [Value.agg #[Value.int IntKind.i64 s_0, Value.int IntKind.i64 s_1]] w R).den = f7_vc s_0 s_1 w R := by kernel_rfl
theorem f7_calls (s_0 : Int) (s_1 : Int) (w : World) (R : Ending → World → Prop) (h : f7_vc s_0 s_1 w R) : Calls Go.Proofs.Tryd.prog 7 (List.toArray [Value.agg #[Value.int IntKind.i64 s_0, Value.int IntKind.i64 s_1]]) w R :=
 fn_sound (H := h7) (fn := Go.Proofs.Tryd.f7) (by kernel_rfl) (by kernel_rfl) (by kernel_rfl) ((f7_eq s_0 s_1 w R).mpr h)


/-! manciple/slot.Unpack -/
def h8 : Hints := ⟨[2, 4], [], [14], [], [], [], [], [], []⟩
def f8_vc (n : Int) (w : World) (R : Ending → World → Prop) : Prop :=
 ∀ (n1 : Nat),
 w.heap.size ≤ n1 →
 ∀ (n2 : Nat),
 w.heap.size ≤ n2 →
 ∀ (w3 : World),
 Evo [n2] w w3 →
 Under [n1, n2] w3 →
 Calls Proofs.Tryd.prog 7 #[Value.agg #[Value.int IntKind.i64 (IntKind.i64.wrap (IntKind.u16.wrap (↑(BitVec.ofInt 16 n &&& BitVec.ofInt 16 3).toNat : Int))), Value.int IntKind.i64 (IntKind.i64.wrap (n.fdiv 4))]] w3
 fun (e4 : Ending) (w5 : World) =>
 ∃ (b6 : Bool),
 e4 = Ending.returned (Value.bool b6) ∧
 Keeps [n1, n2] w3 w5 ∧
 ((!b6) = true → ∀ (w7 : World), Evo [n1] w5 w7 → Under [n1, n2] w7 → R (Ending.returned (Value.tuple #[Value.agg #[Value.int IntKind.i64 0, Value.int IntKind.i64 0], Value.bool false])) w7) ∧
 ((!b6) = false →
 ∀ (w8 : World),
 Evo [n1] w5 w8 →
 Under [n1, n2] w8 →
 R
 (Ending.returned
 (Value.tuple
 #[Value.agg #[Value.int IntKind.i64 (IntKind.i64.wrap (IntKind.u16.wrap (↑(BitVec.ofInt 16 n &&& BitVec.ofInt 16 3).toNat : Int))), Value.int IntKind.i64 (IntKind.i64.wrap (n.fdiv 4))],
 Value.bool true]))
 w8)
theorem f8_eq (n : Int) (w : World) (R : Ending → World → Prop) : (fnF Go.Proofs.Tryd.prog h8 Go.Proofs.Tryd.f8 [Value.int IntKind.u16 n] w R).den = f8_vc n w R := by kernel_rfl
theorem f8_calls (n : Int) (w : World) (R : Ending → World → Prop) (h : f8_vc n w R) : Calls Go.Proofs.Tryd.prog 8 (List.toArray [Value.int IntKind.u16 n]) w R :=
 fn_sound (H := h8) (fn := Go.Proofs.Tryd.f8) (by kernel_rfl) (by kernel_rfl) (by kernel_rfl) ((f8_eq n w R).mpr h)


/-! manciple/manciplelaw04.works -/
def h9 : Hints := ⟨[], [], [16, 19, 23, 26], [], [], [], [], [], []⟩
def f9_vc  (w : World) (R : Ending → World → Prop) : Prop :=
 Calls Proofs.Tryd.prog 6 #[Value.agg #[Value.int IntKind.i64 1, Value.int IntKind.i64 3]] w fun (e1 : Ending) (w2 : World) =>
 ∃ (x3 : Int),
 ∃ (b4 : Bool),
 e1 = Ending.returned (Value.tuple #[Value.int IntKind.u16 x3, Value.bool b4]) ∧
 Calls Proofs.Tryd.prog 10 #[Value.string (ByteArray.mk #[100, 105, 115, 107])] w2 fun (e5 : Ending) (w6 : World) =>
 ∃ (x7 : Int),
 ∃ (b8 : Bool),
 e5 = Ending.returned (Value.tuple #[Value.int IntKind.i64 x7, Value.bool b8]) ∧
 ((x3 == 13) = true →
 (b4 = true →
 ((x7 == 2) = true →
 (b8 = true →
 Calls Proofs.Tryd.prog 19 #[Value.agg #[Value.int IntKind.i64 1, Value.int IntKind.i64 3]] w6 fun (e9 : Ending) (w10 : World) =>
 ∃ (s11 : ByteArray), e9 = Ending.returned (Value.string s11) ∧ R (Ending.returned (Value.bool (s11.toList == (ByteArray.mk #[109, 101, 109, 40, 51, 41]).toList))) w10) ∧
 (b8 = false → R (Ending.returned (Value.bool false)) w6)) ∧
 ((x7 == 2) = false → R (Ending.returned (Value.bool false)) w6)) ∧
 (b4 = false → R (Ending.returned (Value.bool false)) w6)) ∧
 ((x3 == 13) = false → R (Ending.returned (Value.bool false)) w6)
theorem f9_eq  (w : World) (R : Ending → World → Prop) : (fnF Go.Proofs.Tryd.prog h9 Go.Proofs.Tryd.f9 [] w R).den = f9_vc  w R := by kernel_rfl
theorem f9_calls  (w : World) (R : Ending → World → Prop) (h : f9_vc  w R) : Calls Go.Proofs.Tryd.prog 9 (List.toArray []) w R :=
 fn_sound (H := h9) (fn := Go.Proofs.Tryd.f9) (by kernel_rfl) (by kernel_rfl) (by kernel_rfl) ((f9_eq  w R).mpr h)


/-! manciple/slot.Kind -/
def h10 : Hints := ⟨[], [14], [], [], [(3, 5)], [], [], [], []⟩
def f10_vc (name : ByteArray) (w : World) (R : Ending → World → Prop) : Prop :=
 OpW Proofs.Tryd.prog (valueS (Instr.makeMap 45 none)) w fun (v1 : Value) (w2 : World) =>
 ∃ (r3 : Option Nat),
 v1 = Value.map r3 ∧
 Calls Proofs.Tryd.prog 20 #[] w2 fun (e4 : Ending) (w5 : World) =>
 ∃ (s6 : ByteArray),
 ∃ (s7 : ByteArray),
 ∃ (s8 : ByteArray),
 ∃ (s9 : ByteArray),
 e4 = Ending.returned (Value.agg #[Value.string s6, Value.string s7, Value.string s8, Value.string s9]) ∧
 ∃ (s10 : ByteArray),
 Gives Proofs.Tryd.prog (Instr.index 46 (Value.agg #[Value.string s6, Value.string s7, Value.string s8, Value.string s9]) (Value.int IntKind.i64 0)) (Value.string s10) ∧
 OpW Proofs.Tryd.prog (skipS (Instr.mapUpdate 45 (Value.map r3) (Value.string s10) (Value.int IntKind.i64 0))) w5 fun (v11 : Value) (w12 : World) =>
 ∃ (s13 : ByteArray),
 Gives Proofs.Tryd.prog (Instr.index 46 (Value.agg #[Value.string s6, Value.string s7, Value.string s8, Value.string s9]) (Value.int IntKind.i64 1)) (Value.string s13) ∧
 OpW Proofs.Tryd.prog (skipS (Instr.mapUpdate 45 (Value.map r3) (Value.string s13) (Value.int IntKind.i64 1))) w12 fun (v14 : Value) (w15 : World) =>
 ∃ (s16 : ByteArray),
 Gives Proofs.Tryd.prog (Instr.index 46 (Value.agg #[Value.string s6, Value.string s7, Value.string s8, Value.string s9]) (Value.int IntKind.i64 2)) (Value.string s16) ∧
 OpW Proofs.Tryd.prog (skipS (Instr.mapUpdate 45 (Value.map r3) (Value.string s16) (Value.int IntKind.i64 2))) w15 fun (v17 : Value) (w18 : World) =>
 ∃ (s19 : ByteArray),
 Gives Proofs.Tryd.prog (Instr.index 46 (Value.agg #[Value.string s6, Value.string s7, Value.string s8, Value.string s9]) (Value.int IntKind.i64 3)) (Value.string s19) ∧
 OpW Proofs.Tryd.prog (skipS (Instr.mapUpdate 45 (Value.map r3) (Value.string s19) (Value.int IntKind.i64 3))) w18 fun (v20 : Value) (w21 : World) =>
 ∃ (x22 : Int),
 ∃ (b23 : Bool),
 Reads Proofs.Tryd.prog [] (Instr.lookup 45 (Value.map r3) (Value.string name) true) w21 (Value.tuple #[Value.int IntKind.i64 x22, Value.bool b23]) ∧
 R (Ending.returned (Value.tuple #[Value.int IntKind.i64 x22, Value.bool b23])) w21
theorem f10_eq (name : ByteArray) (w : World) (R : Ending → World → Prop) : (fnF Go.Proofs.Tryd.prog h10 Go.Proofs.Tryd.f10 [Value.string name] w R).den = f10_vc name w R := by kernel_rfl
theorem f10_calls (name : ByteArray) (w : World) (R : Ending → World → Prop) (h : f10_vc name w R) : Calls Go.Proofs.Tryd.prog 10 (List.toArray [Value.string name]) w R :=
 fn_sound (H := h10) (fn := Go.Proofs.Tryd.f10) (by kernel_rfl) (by kernel_rfl) (by kernel_rfl) ((f10_eq name w R).mpr h)


/-! manciple/mancipleref04.Names -/
def h11 : Hints := ⟨[], [], [], [], [], [], [], [], []⟩
def f11_vc  (w : World) (R : Ending → World → Prop) : Prop :=
 OpW Proofs.Tryd.prog
 (valueS
 (Instr.buildSlice 34 4
 #[(0, Value.string (ByteArray.mk #[99, 112, 117, 115])), (1, Value.string (ByteArray.mk #[109, 101, 109])), (2, Value.string (ByteArray.mk #[100, 105, 115, 107])), (3, Value.string (ByteArray.mk #[103, 112, 117, 115]))]))
 w fun (v1 : Value) (w2 : World) => ∃ (a3 : Option Addr), ∃ (n4 : Nat), ∃ (n5 : Nat), v1 = Value.slice a3 n4 n5 ∧ R (Ending.returned (Value.slice a3 n4 n5)) w2
theorem f11_eq  (w : World) (R : Ending → World → Prop) : (fnF Go.Proofs.Tryd.prog h11 Go.Proofs.Tryd.f11 [] w R).den = f11_vc  w R := by kernel_rfl
theorem f11_calls  (w : World) (R : Ending → World → Prop) (h : f11_vc  w R) : Calls Go.Proofs.Tryd.prog 11 (List.toArray []) w R :=
 fn_sound (H := h11) (fn := Go.Proofs.Tryd.f11) (by kernel_rfl) (by kernel_rfl) (by kernel_rfl) ((f11_eq  w R).mpr h)


/-! manciple/slot.Cmp -/
def h12 : Hints := ⟨[2, 3], [], [5, 9, 20], [], [], [], [], [], []⟩
def f12_vc (a_0 : Int) (a_1 : Int) (b_0 : Int) (b_1 : Int) (w : World) (R : Ending → World → Prop) : Prop :=
 ∀ (n1 : Nat),
 w.heap.size ≤ n1 →
 ∀ (n2 : Nat),
 w.heap.size ≤ n2 →
 ((a_0 == b_0 && (a_1 == b_1 && true)) = true → ∀ (w3 : World), Below w.heap.size w w3 → Under [n1, n2] w3 → R (Ending.returned (Value.int IntKind.i64 0)) w3) ∧
 ((a_0 == b_0 && (a_1 == b_1 && true)) = false →
 (decide (a_0 < b_0) = true → ∀ (w4 : World), Below w.heap.size w w4 → Under [n1, n2] w4 → R (Ending.returned (Value.int IntKind.i64 (-1))) w4) ∧
 (decide (a_0 < b_0) = false →
 ((a_0 == b_0) = true →
 (decide (a_1 < b_1) = true → ∀ (w5 : World), Below w.heap.size w w5 → Under [n1, n2] w5 → R (Ending.returned (Value.int IntKind.i64 (-1))) w5) ∧
 (decide (a_1 < b_1) = false → ∀ (w6 : World), Below w.heap.size w w6 → Under [n1, n2] w6 → R (Ending.returned (Value.int IntKind.i64 1)) w6)) ∧
 ((a_0 == b_0) = false → ∀ (w7 : World), Below w.heap.size w w7 → Under [n1, n2] w7 → R (Ending.returned (Value.int IntKind.i64 1)) w7)))
theorem f12_eq (a_0 : Int) (a_1 : Int) (b_0 : Int) (b_1 : Int) (w : World) (R : Ending → World → Prop) : (fnF Go.Proofs.Tryd.prog h12 Go.Proofs.Tryd.f12 [Value.agg #[Value.int IntKind.i64 a_0, Value.int IntKind.i64 a_1], Value.agg #[Value.int IntKind.i64 b_0, Value.int IntKind.i64 b_1]] w R).den = f12_vc a_0 a_1 b_0 b_1 w R := by kernel_rfl
theorem f12_calls (a_0 : Int) (a_1 : Int) (b_0 : Int) (b_1 : Int) (w : World) (R : Ending → World → Prop) (h : f12_vc a_0 a_1 b_0 b_1 w R) : Calls Go.Proofs.Tryd.prog 12 (List.toArray [Value.agg #[Value.int IntKind.i64 a_0, Value.int IntKind.i64 a_1], Value.agg #[Value.int IntKind.i64 b_0, Value.int IntKind.i64 b_1]]) w R :=
 fn_sound (H := h12) (fn := Go.Proofs.Tryd.f12) (by kernel_rfl) (by kernel_rfl) (by kernel_rfl) ((f12_eq a_0 a_1 b_0 b_1 w R).mpr h)


/-! manciple/mancipleref04.Cmp -/
def h13 : Hints := ⟨[2, 3], [], [23, 35, 10, 16, 29], [], [], [], [], [], []⟩
def f13_vc (a_0 : Int) (a_1 : Int) (b_0 : Int) (b_1 : Int) (w : World) (R : Ending → World → Prop) : Prop :=
 ∀ (n1 : Nat),
 w.heap.size ≤ n1 →
 ∀ (n2 : Nat),
 w.heap.size ≤ n2 →
 (decide (a_0 < b_0) = true → ∀ (w3 : World), Below w.heap.size w w3 → Under [n1, n2] w3 → R (Ending.returned (Value.int IntKind.i64 (-1))) w3) ∧
 (decide (a_0 < b_0) = false →
 ((a_0 == b_0) = true →
 (decide (a_1 < b_1) = true → ∀ (w4 : World), Below w.heap.size w w4 → Under [n1, n2] w4 → R (Ending.returned (Value.int IntKind.i64 (-1))) w4) ∧
 (decide (a_1 < b_1) = false →
 ((a_0 == b_0) = true →
 ((a_1 == b_1) = true → ∀ (w5 : World), Below w.heap.size w w5 → Under [n1, n2] w5 → R (Ending.returned (Value.int IntKind.i64 0)) w5) ∧
 ((a_1 == b_1) = false → ∀ (w6 : World), Below w.heap.size w w6 → Under [n1, n2] w6 → R (Ending.returned (Value.int IntKind.i64 1)) w6)) ∧
 ((a_0 == b_0) = false → ∀ (w7 : World), Below w.heap.size w w7 → Under [n1, n2] w7 → R (Ending.returned (Value.int IntKind.i64 1)) w7))) ∧
 ((a_0 == b_0) = false →
 ((a_0 == b_0) = true →
 ((a_1 == b_1) = true → ∀ (w8 : World), Below w.heap.size w w8 → Under [n1, n2] w8 → R (Ending.returned (Value.int IntKind.i64 0)) w8) ∧
 ((a_1 == b_1) = false → ∀ (w9 : World), Below w.heap.size w w9 → Under [n1, n2] w9 → R (Ending.returned (Value.int IntKind.i64 1)) w9)) ∧
 ((a_0 == b_0) = false → ∀ (w10 : World), Below w.heap.size w w10 → Under [n1, n2] w10 → R (Ending.returned (Value.int IntKind.i64 1)) w10)))
theorem f13_eq (a_0 : Int) (a_1 : Int) (b_0 : Int) (b_1 : Int) (w : World) (R : Ending → World → Prop) : (fnF Go.Proofs.Tryd.prog h13 Go.Proofs.Tryd.f13 [Value.agg #[Value.int IntKind.i64 a_0, Value.int IntKind.i64 a_1], Value.agg #[Value.int IntKind.i64 b_0, Value.int IntKind.i64 b_1]] w R).den = f13_vc a_0 a_1 b_0 b_1 w R := by kernel_rfl
theorem f13_calls (a_0 : Int) (a_1 : Int) (b_0 : Int) (b_1 : Int) (w : World) (R : Ending → World → Prop) (h : f13_vc a_0 a_1 b_0 b_1 w R) : Calls Go.Proofs.Tryd.prog 13 (List.toArray [Value.agg #[Value.int IntKind.i64 a_0, Value.int IntKind.i64 a_1], Value.agg #[Value.int IntKind.i64 b_0, Value.int IntKind.i64 b_1]]) w R :=
 fn_sound (H := h13) (fn := Go.Proofs.Tryd.f13) (by kernel_rfl) (by kernel_rfl) (by kernel_rfl) ((f13_eq a_0 a_1 b_0 b_1 w R).mpr h)


/-! manciple/mancipleref04.Right -/
def h14 : Hints := ⟨[1], [], [6, 11, 16], [], [], [], [], [], []⟩
def f14_vc (s_0 : Int) (s_1 : Int) (w : World) (R : Ending → World → Prop) : Prop :=
 ∀ (n1 : Nat),
 w.heap.size ≤ n1 →
 (decide (s_0 ≥ 0) = true →
 (decide (s_0 ≤ 3) = true →
 (decide (s_1 ≥ 0) = true → ∀ (w2 : World), Below w.heap.size w w2 → Under [n1] w2 → R (Ending.returned (Value.bool (decide (s_1 ≤ 32)))) w2) ∧
 (decide (s_1 ≥ 0) = false → ∀ (w3 : World), Below w.heap.size w w3 → Under [n1] w3 → R (Ending.returned (Value.bool false)) w3)) ∧
 (decide (s_0 ≤ 3) = false → ∀ (w4 : World), Below w.heap.size w w4 → Under [n1] w4 → R (Ending.returned (Value.bool false)) w4)) ∧
 (decide (s_0 ≥ 0) = false → ∀ (w5 : World), Below w.heap.size w w5 → Under [n1] w5 → R (Ending.returned (Value.bool false)) w5)
theorem f14_eq (s_0 : Int) (s_1 : Int) (w : World) (R : Ending → World → Prop) : (fnF Go.Proofs.Tryd.prog h14 Go.Proofs.Tryd.f14 [Value.agg #[Value.int IntKind.i64 s_0, Value.int IntKind.i64 s_1]] w R).den = f14_vc s_0 s_1 w R := by kernel_rfl
theorem f14_calls (s_0 : Int) (s_1 : Int) (w : World) (R : Ending → World → Prop) (h : f14_vc s_0 s_1 w R) : Calls Go.Proofs.Tryd.prog 14 (List.toArray [Value.agg #[Value.int IntKind.i64 s_0, Value.int IntKind.i64 s_1]]) w R :=
 fn_sound (H := h14) (fn := Go.Proofs.Tryd.f14) (by kernel_rfl) (by kernel_rfl) (by kernel_rfl) ((f14_eq s_0 s_1 w R).mpr h)


/-! manciple/slot.Name -/
def h15 : Hints := ⟨[], [12], [10, 7], [], [], [], [], [], []⟩
def f15_vc (kind : Int) (w : World) (R : Ending → World → Prop) : Prop :=
 Calls Proofs.Tryd.prog 20 #[] w fun (e1 : Ending) (w2 : World) =>
 ∃ (s3 : ByteArray),
 ∃ (s4 : ByteArray),
 ∃ (s5 : ByteArray),
 ∃ (s6 : ByteArray),
 e1 = Ending.returned (Value.agg #[Value.string s3, Value.string s4, Value.string s5, Value.string s6]) ∧
 OpW Proofs.Tryd.prog (valueS (Instr.alloc 46 true (Value.tuple #[]))) w2 fun (v7 : Value) (w8 : World) =>
 ∃ (ad9 : Addr),
 v7 = Value.pointer (some ad9) ∧
 OpW Proofs.Tryd.prog (skipS (Instr.storeAt 46 (Value.pointer (some ad9)) (Value.agg #[Value.string s3, Value.string s4, Value.string s5, Value.string s6]))) w8 fun (v10 : Value) (w11 : World) =>
 (decide (kind < 0) = true → R (Ending.returned (Value.string (ByteArray.mk #[]))) w11) ∧
 (decide (kind < 0) = false →
 (decide (kind ≥ 4) = true → R (Ending.returned (Value.string (ByteArray.mk #[]))) w11) ∧
 (decide (kind ≥ 4) = false →
 ∃ (ad12 : Addr),
 Gives Proofs.Tryd.prog (Instr.indexAt 46 (Value.pointer (some ad9)) (Value.int IntKind.i64 kind)) (Value.pointer (some ad12)) ∧
 ∃ (s13 : ByteArray), Reads Proofs.Tryd.prog [] (Instr.loadAt 9 (Value.pointer (some ad12))) w11 (Value.string s13) ∧ R (Ending.returned (Value.string s13)) w11))
theorem f15_eq (kind : Int) (w : World) (R : Ending → World → Prop) : (fnF Go.Proofs.Tryd.prog h15 Go.Proofs.Tryd.f15 [Value.int IntKind.i64 kind] w R).den = f15_vc kind w R := by kernel_rfl
theorem f15_calls (kind : Int) (w : World) (R : Ending → World → Prop) (h : f15_vc kind w R) : Calls Go.Proofs.Tryd.prog 15 (List.toArray [Value.int IntKind.i64 kind]) w R :=
 fn_sound (H := h15) (fn := Go.Proofs.Tryd.f15) (by kernel_rfl) (by kernel_rfl) (by kernel_rfl) ((f15_eq kind w R).mpr h)


/-! manciple/slot.Parse -/
def h16 : Hints := ⟨[2, 9], [33], [24, 32, 45, 58, 37, 41], [], [], [(7, ⟨[(31, .int .i64)], [(9, .cons (.int .i64) (.cons (.int .i64) (.nil)))]⟩)], [], [], []⟩
def f16_vc (s : ByteArray) (w : World) (R : Ending → World → Prop) : Prop :=
 ∀ (n1 : Nat),
 w.heap.size ≤ n1 →
 ∀ (w2 : World),
 Below w.heap.size w w2 →
 Under [n1] w2 →
 Calls Proofs.Tryd.prog 21 #[Value.string s, Value.string (ByteArray.mk #[40])] w2 fun (e3 : Ending) (w4 : World) =>
 ∃ (s5 : ByteArray),
 ∃ (s6 : ByteArray),
 ∃ (b7 : Bool),
 e3 = Ending.returned (Value.tuple #[Value.string s5, Value.string s6, Value.bool b7]) ∧
 Keeps [n1] w2 w4 ∧
 Calls Proofs.Tryd.prog 10 #[Value.string s5] w4 fun (e8 : Ending) (w9 : World) =>
 ∃ (x10 : Int),
 ∃ (b11 : Bool),
 e8 = Ending.returned (Value.tuple #[Value.int IntKind.i64 x10, Value.bool b11]) ∧
 Keeps [n1] w4 w9 ∧
 ((!b11) = true → ∀ (w12 : World), Evo [n1] w9 w12 → Under [n1] w12 → R (Ending.returned (Value.tuple #[Value.agg #[Value.int IntKind.i64 0, Value.int IntKind.i64 0], Value.bool false])) w12) ∧
 ((!b11) = false →
 ∀ (n13 : Nat),
 w9.heap.size ≤ n13 →
 ∀ (w14 : World),
 Evo [n13] w9 w14 →
 Under [n1, n13] w14 →
 OpW Proofs.Tryd.prog (valueS (convert 9 50 (Value.string s6))) w14 fun (v15 : Value) (w16 : World) =>
 ∃ (a17 : Option Addr),
 ∃ (n18 : Nat),
 ∃ (n19 : Nat),
 v15 = Value.slice a17 n18 n19 ∧
 Keeps [n1, n13] w14 w16 ∧
 ∃ (J20 : Int × Int × Int × Unit → World → Prop),
 ∃ (J21 : Int × Int × Int × Unit → World → Nat),
 J20 (0, x10, 0, ()) w16 ∧
 ∀ (x22 x23 x24 : Int) (w25 : World),
 J20 (x22, x23, x24, ()) w25 →
 (decide (x22 < (↑n18 : Int)) = true →
 ∃ (ad26 : Addr),
 Gives Proofs.Tryd.prog (Instr.indexAt 50 (Value.slice a17 n18 n19) (Value.int IntKind.i64 x22)) (Value.pointer (some ad26)) ∧
 ∃ (x27 : Int),
 Reads Proofs.Tryd.prog [] (Instr.loadAt 5 (Value.pointer (some ad26))) w25 (Value.int IntKind.u8 x27) ∧
 (decide (x27 ≥ 48) = true →
 (decide (x27 ≤ 57) = true →
 (decide (x24 ≤ 32) = true →
 ∀ (w28 : World),
 Evo [n13] w25 w28 →
 Under [n1, n13] w28 →
 J20 (IntKind.i64.wrap (x22 + 1), x23, IntKind.i64.wrap (IntKind.i64.wrap (x24 * 10) + IntKind.i64.wrap (IntKind.u8.wrap (x27 - 48))), ())
 w28 ∧
 J21 (IntKind.i64.wrap (x22 + 1), x23, IntKind.i64.wrap (IntKind.i64.wrap (x24 * 10) + IntKind.i64.wrap (IntKind.u8.wrap (x27 - 48))), ())
 w28 <
 J21 (x22, x23, x24, ()) w25) ∧
 (decide (x24 ≤ 32) = false →
 J20 (IntKind.i64.wrap (x22 + 1), x23, x24, ()) w25 ∧ J21 (IntKind.i64.wrap (x22 + 1), x23, x24, ()) w25 < J21 (x22, x23, x24, ()) w25)) ∧
 (decide (x27 ≤ 57) = false →
 J20 (IntKind.i64.wrap (x22 + 1), x23, x24, ()) w25 ∧ J21 (IntKind.i64.wrap (x22 + 1), x23, x24, ()) w25 < J21 (x22, x23, x24, ()) w25)) ∧
 (decide (x27 ≥ 48) = false →
 J20 (IntKind.i64.wrap (x22 + 1), x23, x24, ()) w25 ∧ J21 (IntKind.i64.wrap (x22 + 1), x23, x24, ()) w25 < J21 (x22, x23, x24, ()) w25)) ∧
 (decide (x22 < (↑n18 : Int)) = false →
 Calls Proofs.Tryd.prog 19 #[Value.agg #[Value.int IntKind.i64 x23, Value.int IntKind.i64 x24]] w25 fun (e29 : Ending) (w30 : World) =>
 ∃ (s31 : ByteArray),
 e29 = Ending.returned (Value.string s31) ∧
 Keeps [n1, n13] w25 w30 ∧
 ((!s31.toList == s.toList) = true →
 ∀ (w32 : World),
 Evo [n1] w30 w32 →
 Under [n1, n13] w32 → R (Ending.returned (Value.tuple #[Value.agg #[Value.int IntKind.i64 0, Value.int IntKind.i64 0], Value.bool false])) w32) ∧
 ((!s31.toList == s.toList) = false →
 ∀ (w33 : World),
 Evo [n1] w30 w33 →
 Under [n1, n13] w33 → R (Ending.returned (Value.tuple #[Value.agg #[Value.int IntKind.i64 x23, Value.int IntKind.i64 x24], Value.bool true])) w33)))
theorem f16_eq (s : ByteArray) (w : World) (R : Ending → World → Prop) : (fnF Go.Proofs.Tryd.prog h16 Go.Proofs.Tryd.f16 [Value.string s] w R).den = f16_vc s w R := by kernel_rfl
theorem f16_calls (s : ByteArray) (w : World) (R : Ending → World → Prop) (h : f16_vc s w R) : Calls Go.Proofs.Tryd.prog 16 (List.toArray [Value.string s]) w R :=
 fn_sound (H := h16) (fn := Go.Proofs.Tryd.f16) (by kernel_rfl) (by kernel_rfl) (by kernel_rfl) ((f16_eq s w R).mpr h)


/-! manciple/mancipleref04.All -/
def h17 : Hints := ⟨[], [], [5, 9], [], [], [(3, ⟨[(1, .sl), (2, .int .i64)], []⟩), (6, ⟨[(1, .sl), (3, .int .i64)], []⟩)], [], [], []⟩
def f17_vc  (w : World) (R : Ending → World → Prop) : Prop :=
 ∃ (J1 : (Option Addr × Nat × Nat) × Int × Unit → World → Prop),
 ∃ (J2 : (Option Addr × Nat × Nat) × Int × Unit → World → Nat),
 J1 ((none, 0, 0), 0, ()) w ∧
 ∀ (a3 : Option Addr) (n4 n5 : Nat) (x6 : Int) (w7 : World),
 J1 ((a3, n4, n5), x6, ()) w7 →
 (decide (x6 < 4) = true →
 ∃ (J8 : (Option Addr × Nat × Nat) × Int × Unit → World → Prop),
 ∃ (J9 : (Option Addr × Nat × Nat) × Int × Unit → World → Nat),
 J8 ((a3, n4, n5), 0, ()) w7 ∧
 ∀ (a10 : Option Addr) (n11 n12 : Nat) (x13 : Int) (w14 : World),
 J8 ((a10, n11, n12), x13, ()) w14 →
 (decide (x13 ≤ 32) = true →
 OpW Proofs.Tryd.prog (valueS (Instr.buildSlice 40 1 #[(0, Value.agg #[Value.int IntKind.i64 x6, Value.int IntKind.i64 x13])])) w14 fun (v15 : Value) (w16 : World) =>
 ∃ (a17 : Option Addr),
 ∃ (n18 : Nat),
 ∃ (n19 : Nat),
 v15 = Value.slice a17 n18 n19 ∧
 OpW Proofs.Tryd.prog (builtin Builtin.append #[40, 40] 40 #[false, false] #[Value.slice a10 n11 n12, Value.slice a17 n18 n19]) w16 fun (v20 : Value) (w21 : World) =>
 ∃ (a22 : Option Addr),
 ∃ (n23 : Nat),
 ∃ (n24 : Nat),
 v20 = Value.slice a22 n23 n24 ∧ J8 ((a22, n23, n24), IntKind.i64.wrap (x13 + 1), ()) w21 ∧ J9 ((a22, n23, n24), IntKind.i64.wrap (x13 + 1), ()) w21 < J9 ((a10, n11, n12), x13, ()) w14) ∧
 (decide (x13 ≤ 32) = false → J1 ((a10, n11, n12), IntKind.i64.wrap (x6 + 1), ()) w14 ∧ J2 ((a10, n11, n12), IntKind.i64.wrap (x6 + 1), ()) w14 < J2 ((a3, n4, n5), x6, ()) w7)) ∧
 (decide (x6 < 4) = false → R (Ending.returned (Value.slice a3 n4 n5)) w7)
theorem f17_eq  (w : World) (R : Ending → World → Prop) : (fnF Go.Proofs.Tryd.prog h17 Go.Proofs.Tryd.f17 [] w R).den = f17_vc  w R := by kernel_rfl
theorem f17_calls  (w : World) (R : Ending → World → Prop) (h : f17_vc  w R) : Calls Go.Proofs.Tryd.prog 17 (List.toArray []) w R :=
 fn_sound (H := h17) (fn := Go.Proofs.Tryd.f17) (by kernel_rfl) (by kernel_rfl) (by kernel_rfl) ((f17_eq  w R).mpr h)


/-! manciple/mancipleref04.Text -/
def h18 : Hints := ⟨[1], [10, 20, 27, 28, 30, 43, 44], [6, 14, 18], [(3, [1, 2, 0, 3, 4, 5])], [], [], [], [], []⟩
def f18_vc (s_0 : Int) (s_1 : Int) (w : World) (R : Ending → World → Prop) : Prop :=
 ∀ (n1 : Nat),
 w.heap.size ≤ n1 →
 ∀ (w2 : World),
 Below w.heap.size w w2 →
 Under [n1] w2 →
 Calls Proofs.Tryd.prog 14 #[Value.agg #[Value.int IntKind.i64 s_0, Value.int IntKind.i64 s_1]] w2 fun (e3 : Ending) (w4 : World) =>
 ∃ (b5 : Bool),
 e3 = Ending.returned (Value.bool b5) ∧
 Keeps [n1] w2 w4 ∧
 ((!b5) = true → R (Ending.returned (Value.string (ByteArray.mk #[]))) w4) ∧
 ((!b5) = false →
 ∀ (w6 : World),
 Below w4.heap.size w4 w6 →
 Under [n1] w6 →
 Calls Proofs.Tryd.prog 11 #[] w6 fun (e7 : Ending) (w8 : World) =>
 ∃ (a9 : Option Addr),
 ∃ (n10 : Nat),
 ∃ (n11 : Nat),
 e7 = Ending.returned (Value.slice a9 n10 n11) ∧
 Keeps [n1] w6 w8 ∧
 ∃ (ad12 : Addr),
 Gives Proofs.Tryd.prog (Instr.indexAt 34 (Value.slice a9 n10 n11) (Value.int IntKind.i64 s_0)) (Value.pointer (some ad12)) ∧
 ∃ (s13 : ByteArray),
 Reads Proofs.Tryd.prog [] (Instr.loadAt 9 (Value.pointer (some ad12))) w8 (Value.string s13) ∧
 ((s_1 == 0) = true → R (Ending.returned (Value.string s13)) w8) ∧
 ((s_1 == 0) = false →
 (decide (s_1 < 10) = true →
 ∃ (s14 : ByteArray),
 Gives Proofs.Tryd.prog (binOpS BinOp.add 9 (Operand.tmp 19) (Operand.const (Value.string (ByteArray.mk #[40]))) (Value.string s13) (Value.string (ByteArray.mk #[40])))
 (Value.string s14) ∧
 OpW Proofs.Tryd.prog (valueS (Instr.buildSlice 50 1 #[(0, Value.int IntKind.u8 (IntKind.u8.wrap (IntKind.i64.wrap (48 + s_1))))])) w8 fun (v15 : Value) (w16 : World) =>
 ∃ (a17 : Option Addr),
 ∃ (n18 : Nat),
 ∃ (n19 : Nat),
 v15 = Value.slice a17 n18 n19 ∧
 Keeps [n1] w8 w16 ∧
 OpW Proofs.Tryd.prog (valueS (convert 50 9 (Value.slice a17 n18 n19))) w16 fun (v20 : Value) (w21 : World) =>
 ∃ (s22 : ByteArray),
 v20 = Value.string s22 ∧
 Keeps [n1] w16 w21 ∧
 ∃ (s23 : ByteArray),
 Gives Proofs.Tryd.prog (binOpS BinOp.add 9 (Operand.tmp 20) (Operand.tmp 26) (Value.string s14) (Value.string s22)) (Value.string s23) ∧
 ∃ (s24 : ByteArray),
 Gives Proofs.Tryd.prog
 (binOpS BinOp.add 9 (Operand.tmp 27) (Operand.const (Value.string (ByteArray.mk #[41]))) (Value.string s23) (Value.string (ByteArray.mk #[41])))
 (Value.string s24) ∧
 R (Ending.returned (Value.string s24)) w21) ∧
 (decide (s_1 < 10) = false →
 ∃ (s25 : ByteArray),
 Gives Proofs.Tryd.prog (binOpS BinOp.add 9 (Operand.tmp 29) (Operand.const (Value.string (ByteArray.mk #[40]))) (Value.string s13) (Value.string (ByteArray.mk #[40])))
 (Value.string s25) ∧
 OpW Proofs.Tryd.prog
 (valueS
 (Instr.buildSlice 50 2
 #[(0, Value.int IntKind.u8 (IntKind.u8.wrap (IntKind.i64.wrap (48 + IntKind.i64.wrap (s_1.tdiv 10))))),
 (1, Value.int IntKind.u8 (IntKind.u8.wrap (IntKind.i64.wrap (48 + s_1.tmod 10))))]))
 w8 fun (v26 : Value) (w27 : World) =>
 ∃ (a28 : Option Addr),
 ∃ (n29 : Nat),
 ∃ (n30 : Nat),
 v26 = Value.slice a28 n29 n30 ∧
 Keeps [n1] w8 w27 ∧
 OpW Proofs.Tryd.prog (valueS (convert 50 9 (Value.slice a28 n29 n30))) w27 fun (v31 : Value) (w32 : World) =>
 ∃ (s33 : ByteArray),
 v31 = Value.string s33 ∧
 Keeps [n1] w27 w32 ∧
 ∃ (s34 : ByteArray),
 Gives Proofs.Tryd.prog (binOpS BinOp.add 9 (Operand.tmp 30) (Operand.tmp 42) (Value.string s25) (Value.string s33)) (Value.string s34) ∧
 ∃ (s35 : ByteArray),
 Gives Proofs.Tryd.prog
 (binOpS BinOp.add 9 (Operand.tmp 43) (Operand.const (Value.string (ByteArray.mk #[41]))) (Value.string s34) (Value.string (ByteArray.mk #[41])))
 (Value.string s35) ∧
 R (Ending.returned (Value.string s35)) w32)))
theorem f18_eq (s_0 : Int) (s_1 : Int) (w : World) (R : Ending → World → Prop) : (fnF Go.Proofs.Tryd.prog h18 Go.Proofs.Tryd.f18 [Value.agg #[Value.int IntKind.i64 s_0, Value.int IntKind.i64 s_1]] w R).den = f18_vc s_0 s_1 w R := by kernel_rfl
theorem f18_calls (s_0 : Int) (s_1 : Int) (w : World) (R : Ending → World → Prop) (h : f18_vc s_0 s_1 w R) : Calls Go.Proofs.Tryd.prog 18 (List.toArray [Value.agg #[Value.int IntKind.i64 s_0, Value.int IntKind.i64 s_1]]) w R :=
 fn_sound (H := h18) (fn := Go.Proofs.Tryd.f18) (by kernel_rfl) (by kernel_rfl) (by kernel_rfl) ((f18_eq s_0 s_1 w R).mpr h)


/-! manciple/slot.Text -/
def h19 : Hints := ⟨[1], [15, 19, 20], [5, 8], [(5, [0, 1, 4, 5, 2, 3, 6, 7, 8, 9])], [], [], [], [], []⟩
def f19_vc (s_0 : Int) (s_1 : Int) (w : World) (R : Ending → World → Prop) : Prop :=
 ∀ (n1 : Nat),
 w.heap.size ≤ n1 →
 ∀ (w2 : World),
 Below w.heap.size w w2 →
 Under [n1] w2 →
 Calls Proofs.Tryd.prog 7 #[Value.agg #[Value.int IntKind.i64 s_0, Value.int IntKind.i64 s_1]] w2 fun (e3 : Ending) (w4 : World) =>
 ∃ (b5 : Bool),
 e3 = Ending.returned (Value.bool b5) ∧
 Keeps [n1] w2 w4 ∧
 ((!b5) = true → R (Ending.returned (Value.string (ByteArray.mk #[]))) w4) ∧
 ((!b5) = false →
 ((s_1 == 0) = true →
 Calls Proofs.Tryd.prog 15 #[Value.int IntKind.i64 s_0] w4 fun (e6 : Ending) (w7 : World) =>
 ∃ (s8 : ByteArray), e6 = Ending.returned (Value.string s8) ∧ Keeps [n1] w4 w7 ∧ R (Ending.returned (Value.string s8)) w7) ∧
 ((s_1 == 0) = false →
 ∀ (w9 : World),
 Below w4.heap.size w4 w9 →
 Under [n1] w9 →
 Calls Proofs.Tryd.prog 15 #[Value.int IntKind.i64 s_0] w9 fun (e10 : Ending) (w11 : World) =>
 ∃ (s12 : ByteArray),
 e10 = Ending.returned (Value.string s12) ∧
 Keeps [n1] w9 w11 ∧
 ∃ (s13 : ByteArray),
 Gives Proofs.Tryd.prog (binOpS BinOp.add 9 (Operand.tmp 14) (Operand.const (Value.string (ByteArray.mk #[40]))) (Value.string s12) (Value.string (ByteArray.mk #[40]))) (Value.string s13) ∧
 Calls Proofs.Tryd.prog 22 #[Value.int IntKind.i64 s_1] w11 fun (e14 : Ending) (w15 : World) =>
 ∃ (s16 : ByteArray),
 e14 = Ending.returned (Value.string s16) ∧
 Keeps [n1] w11 w15 ∧
 ∃ (s17 : ByteArray),
 Gives Proofs.Tryd.prog (binOpS BinOp.add 9 (Operand.tmp 15) (Operand.tmp 18) (Value.string s13) (Value.string s16)) (Value.string s17) ∧
 ∃ (s18 : ByteArray),
 Gives Proofs.Tryd.prog (binOpS BinOp.add 9 (Operand.tmp 19) (Operand.const (Value.string (ByteArray.mk #[41]))) (Value.string s17) (Value.string (ByteArray.mk #[41])))
 (Value.string s18) ∧
 R (Ending.returned (Value.string s18)) w15))
theorem f19_eq (s_0 : Int) (s_1 : Int) (w : World) (R : Ending → World → Prop) : (fnF Go.Proofs.Tryd.prog h19 Go.Proofs.Tryd.f19 [Value.agg #[Value.int IntKind.i64 s_0, Value.int IntKind.i64 s_1]] w R).den = f19_vc s_0 s_1 w R := by kernel_rfl
theorem f19_calls (s_0 : Int) (s_1 : Int) (w : World) (R : Ending → World → Prop) (h : f19_vc s_0 s_1 w R) : Calls Go.Proofs.Tryd.prog 19 (List.toArray [Value.agg #[Value.int IntKind.i64 s_0, Value.int IntKind.i64 s_1]]) w R :=
 fn_sound (H := h19) (fn := Go.Proofs.Tryd.f19) (by kernel_rfl) (by kernel_rfl) (by kernel_rfl) ((f19_eq s_0 s_1 w R).mpr h)


/-! manciple/slot.names -/
def h20 : Hints := ⟨[0], [], [], [], [], [], [], [], []⟩
def f20_vc  (w : World) (R : Ending → World → Prop) : Prop :=
 ∀ (n1 : Nat),
 w.heap.size ≤ n1 →
 ∃ (s2 : ByteArray),
 ∃ (s3 : ByteArray),
 ∃ (s4 : ByteArray),
 ∃ (s5 : ByteArray),
 Reads Proofs.Tryd.prog [] (Instr.loadAt 46 (Value.pointer (some (Addr.mk 0 0 none)))) w (Value.agg #[Value.string s2, Value.string s3, Value.string s4, Value.string s5]) ∧
 ∀ (w6 : World), Evo [n1] w w6 → Under [n1] w6 → R (Ending.returned (Value.agg #[Value.string s2, Value.string s3, Value.string s4, Value.string s5])) w6
theorem f20_eq  (w : World) (R : Ending → World → Prop) : (fnF Go.Proofs.Tryd.prog h20 Go.Proofs.Tryd.f20 [] w R).den = f20_vc  w R := by kernel_rfl
theorem f20_calls  (w : World) (R : Ending → World → Prop) (h : f20_vc  w R) : Calls Go.Proofs.Tryd.prog 20 (List.toArray []) w R :=
 fn_sound (H := h20) (fn := Go.Proofs.Tryd.f20) (by kernel_rfl) (by kernel_rfl) (by kernel_rfl) ((f20_eq  w R).mpr h)


/-! strings.Cut -/
def h21 : Hints := ⟨[], [], [], [], [], [], [], [], []⟩
def f21_vc (s : ByteArray) (sep : ByteArray) (w : World) (R : Ending → World → Prop) : Prop :=
 Calls Proofs.Tryd.prog 23 #[Value.string s, Value.string sep] w fun (e1 : Ending) (w2 : World) =>
 ∃ (s3 : ByteArray), ∃ (s4 : ByteArray), ∃ (b5 : Bool), e1 = Ending.returned (Value.tuple #[Value.string s3, Value.string s4, Value.bool b5]) ∧ R (Ending.returned (Value.tuple #[Value.string s3, Value.string s4, Value.bool b5])) w2
theorem f21_eq (s : ByteArray) (sep : ByteArray) (w : World) (R : Ending → World → Prop) : (fnF Go.Proofs.Tryd.prog h21 Go.Proofs.Tryd.f21 [Value.string s, Value.string sep] w R).den = f21_vc s sep w R := by kernel_rfl
theorem f21_calls (s : ByteArray) (sep : ByteArray) (w : World) (R : Ending → World → Prop) (h : f21_vc s sep w R) : Calls Go.Proofs.Tryd.prog 21 (List.toArray [Value.string s, Value.string sep]) w R :=
 fn_sound (H := h21) (fn := Go.Proofs.Tryd.f21) (by kernel_rfl) (by kernel_rfl) (by kernel_rfl) ((f21_eq s sep w R).mpr h)


/-! manciple/slot.role -/
def h22 : Hints := ⟨[], [16], [4], [], [], [], [], [], []⟩
def f22_vc (n : Int) (w : World) (R : Ending → World → Prop) : Prop :=
 (decide (n < 10) = true →
 OpW Proofs.Tryd.prog (valueS (Instr.buildSlice 50 1 #[(0, Value.int IntKind.u8 (IntKind.u8.wrap (IntKind.i64.wrap (48 + n))))])) w fun (v1 : Value) (w2 : World) =>
 ∃ (a3 : Option Addr),
 ∃ (n4 : Nat),
 ∃ (n5 : Nat),
 v1 = Value.slice a3 n4 n5 ∧ OpW Proofs.Tryd.prog (valueS (convert 50 9 (Value.slice a3 n4 n5))) w2 fun (v6 : Value) (w7 : World) => ∃ (s8 : ByteArray), v6 = Value.string s8 ∧ R (Ending.returned (Value.string s8)) w7) ∧
 (decide (n < 10) = false →
 Calls Proofs.Tryd.prog 22 #[Value.int IntKind.i64 (IntKind.i64.wrap (n.tdiv 10))] w fun (e9 : Ending) (w10 : World) =>
 ∃ (s11 : ByteArray),
 e9 = Ending.returned (Value.string s11) ∧
 Calls Proofs.Tryd.prog 22 #[Value.int IntKind.i64 (n.tmod 10)] w10 fun (e12 : Ending) (w13 : World) =>
 ∃ (s14 : ByteArray),
 e12 = Ending.returned (Value.string s14) ∧
 ∃ (s15 : ByteArray), Gives Proofs.Tryd.prog (binOpS BinOp.add 9 (Operand.tmp 12) (Operand.tmp 15) (Value.string s11) (Value.string s14)) (Value.string s15) ∧ R (Ending.returned (Value.string s15)) w13)
theorem f22_eq (n : Int) (w : World) (R : Ending → World → Prop) : (fnF Go.Proofs.Tryd.prog h22 Go.Proofs.Tryd.f22 [Value.int IntKind.i64 n] w R).den = f22_vc n w R := by kernel_rfl
theorem f22_calls (n : Int) (w : World) (R : Ending → World → Prop) (h : f22_vc n w R) : Calls Go.Proofs.Tryd.prog 22 (List.toArray [Value.int IntKind.i64 n]) w R :=
 fn_sound (H := h22) (fn := Go.Proofs.Tryd.f22) (by kernel_rfl) (by kernel_rfl) (by kernel_rfl) ((f22_eq n w R).mpr h)


/-! internal/stringslite.Cut -/
def h23 : Hints := ⟨[], [15, 21], [12], [(3, [0, 1, 2, 3, 4, 5, 6, 7, 8, 9, 10, 11])], [], [], [], [], []⟩
def f23_vc (s : ByteArray) (sep : ByteArray) (w : World) (R : Ending → World → Prop) : Prop :=
 Calls Proofs.Tryd.prog 24 #[Value.string s, Value.string sep] w fun (e1 : Ending) (w2 : World) =>
 ∃ (x3 : Int),
 e1 = Ending.returned (Value.int IntKind.i64 x3) ∧
 (decide (x3 ≥ 0) = true →
 ∃ (s4 : ByteArray),
 Gives Proofs.Tryd.prog (Instr.sliceAt 9 (Value.string s) none (some (Value.int IntKind.i64 x3)) none) (Value.string s4) ∧
 ∃ (s5 : ByteArray),
 Gives Proofs.Tryd.prog (Instr.sliceAt 9 (Value.string s) (some (Value.int IntKind.i64 (IntKind.i64.wrap (x3 + (↑sep.size : Int))))) none none) (Value.string s5) ∧
 ∀ (w6 : World), Below w2.heap.size w2 w6 → R (Ending.returned (Value.tuple #[Value.string s4, Value.string s5, Value.bool true])) w6) ∧
 (decide (x3 ≥ 0) = false → R (Ending.returned (Value.tuple #[Value.string s, Value.string (ByteArray.mk #[]), Value.bool false])) w2)
theorem f23_eq (s : ByteArray) (sep : ByteArray) (w : World) (R : Ending → World → Prop) : (fnF Go.Proofs.Tryd.prog h23 Go.Proofs.Tryd.f23 [Value.string s, Value.string sep] w R).den = f23_vc s sep w R := by kernel_rfl
theorem f23_calls (s : ByteArray) (sep : ByteArray) (w : World) (R : Ending → World → Prop) (h : f23_vc s sep w R) : Calls Go.Proofs.Tryd.prog 23 (List.toArray [Value.string s, Value.string sep]) w R :=
 fn_sound (H := h23) (fn := Go.Proofs.Tryd.f23) (by kernel_rfl) (by kernel_rfl) (by kernel_rfl) ((f23_eq s sep w R).mpr h)

end Vcd
