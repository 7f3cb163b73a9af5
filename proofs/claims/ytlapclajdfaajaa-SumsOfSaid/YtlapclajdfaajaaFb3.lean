/- The formulas of functions, printed by a program (VcTool.lean): each is what the generator's formula comes to, by the kernel's reckoning; whoever proves one has the function's contract. -/
import Derived.Test.YtlapclajdfaajaaVcFn
import Derived.Test.YtlapclajdfaajaaProg
set_option maxRecDepth 100000
set_option maxHeartbeats 1000000
set_option linter.unusedVariables false
namespace Vcb
open Go Go.Vc Go.RowKit
/-! manciple/sums.Of -/
def h33 : Hints := ⟨[2, 5], [14, 18, 23], [8, 13], [(7, [0, 1, 2, 3, 4, 5, 6, 7, 8])], [], [(5, ⟨[(12, .int .i64)], []⟩)], [], [], []⟩
def f33_vc (va : Option Addr) (vn : Nat) (vc : Nat) (w : World) (R : Ending → World → Prop) : Prop :=
 ∀ (n1 : Nat),
 w.heap.size ≤ n1 →
 ∀ (w2 : World),
 Below w.heap.size w w2 →
 Under [n1] w2 →
 OpW Proofs.Try.prog (valueS (Instr.alloc 40 true (Value.tuple #[]))) w2 fun (v3 : Value) (w4 : World) =>
 ∃ (ad5 : Addr),
 v3 = Value.pointer (some ad5) ∧
 Keeps [n1] w2 w4 ∧
 Calls Proofs.Try.prog 34 #[Value.slice va vn vc] w4 fun (e6 : Ending) (w7 : World) =>
 ∃ (b8 : Bool),
 e6 = Ending.returned (Value.bool b8) ∧
 Keeps [n1] w4 w7 ∧
 ((!b8) = true →
 ∃ (x9 : Int),
 ∃ (x10 : Int),
 ∃ (x11 : Int),
 ∃ (x12 : Int),
 Reads Proofs.Try.prog [] (Instr.loadAt 40 (Value.pointer (some ad5))) w7 (Value.agg #[Value.int IntKind.i64 x9, Value.int IntKind.i64 x10, Value.int IntKind.i64 x11, Value.int IntKind.i64 x12]) ∧
 ∀ (w13 : World), Evo [n1] w7 w13 → Under [n1] w13 → R (Ending.returned (Value.agg #[Value.int IntKind.i64 x9, Value.int IntKind.i64 x10, Value.int IntKind.i64 x11, Value.int IntKind.i64 x12])) w13) ∧
 ((!b8) = false →
 ∃ (J14 : Int × Unit → World → Prop),
 ∃ (J15 : Int × Unit → World → Nat),
 J14 (0, ()) w7 ∧
 ∀ (x16 : Int) (w17 : World),
 J14 (x16, ()) w17 →
 (decide (x16 < (↑vn : Int)) = true →
 ∃ (ad18 : Addr),
 Gives Proofs.Try.prog (Instr.indexAt 55 (Value.slice va vn vc) (Value.int IntKind.i64 x16)) (Value.pointer (some ad18)) ∧
 ∃ (x19 : Int),
 ∃ (x20 : Int),
 ∃ (x21 : Int),
 Reads Proofs.Try.prog [] (Instr.loadAt 59 (Value.pointer (some ad18))) w17 (Value.agg #[Value.int IntKind.i64 x19, Value.int IntKind.i64 x20, Value.int IntKind.i64 x21]) ∧
 ∀ (n22 : Nat),
 w17.heap.size ≤ n22 →
 ∃ (ad23 : Addr),
 Gives Proofs.Try.prog (Instr.indexAt 40 (Value.pointer (some ad5)) (Value.int IntKind.i64 x19)) (Value.pointer (some ad23)) ∧
 ∃ (x24 : Int),
 Reads Proofs.Try.prog [n22] (Instr.loadAt 2 (Value.pointer (some ad23))) w17 (Value.int IntKind.i64 x24) ∧
 ∃ (ad25 : Addr),
 Gives Proofs.Try.prog (Instr.indexAt 40 (Value.pointer (some ad5)) (Value.int IntKind.i64 x19)) (Value.pointer (some ad25)) ∧
 ∀ (w26 : World),
 Evo [n22] w17 w26 →
 Under [n1, n22] w26 →
 OpW Proofs.Try.prog (skipS (Instr.storeAt 2 (Value.pointer (some ad25)) (Value.int IntKind.i64 (IntKind.i64.wrap (x24 + x21))))) w26
 fun (v27 : Value) (w28 : World) =>
 Keeps [n1, n22] w26 w28 ∧ J14 (IntKind.i64.wrap (x16 + 1), ()) w28 ∧ J15 (IntKind.i64.wrap (x16 + 1), ()) w28 < J15 (x16, ()) w17) ∧
 (decide (x16 < (↑vn : Int)) = false →
 ∃ (x29 : Int),
 ∃ (x30 : Int),
 ∃ (x31 : Int),
 ∃ (x32 : Int),
 Reads Proofs.Try.prog [] (Instr.loadAt 40 (Value.pointer (some ad5))) w17
 (Value.agg #[Value.int IntKind.i64 x29, Value.int IntKind.i64 x30, Value.int IntKind.i64 x31, Value.int IntKind.i64 x32]) ∧
 ∀ (w33 : World),
 Evo [n1] w17 w33 → Under [n1] w33 → R (Ending.returned (Value.agg #[Value.int IntKind.i64 x29, Value.int IntKind.i64 x30, Value.int IntKind.i64 x31, Value.int IntKind.i64 x32])) w33))
theorem f33_eq (va : Option Addr) (vn : Nat) (vc : Nat) (w : World) (R : Ending → World → Prop) : (fnF Go.Proofs.Try.prog h33 Go.Proofs.Try.f33 [Value.slice va vn vc] w R).den = f33_vc va vn vc w R := by kernel_rfl
theorem f33_calls (va : Option Addr) (vn : Nat) (vc : Nat) (w : World) (R : Ending → World → Prop) (h : f33_vc va vn vc w R) : Calls Go.Proofs.Try.prog 33 (List.toArray [Value.slice va vn vc]) w R :=
 fn_sound (H := h33) (fn := Go.Proofs.Try.f33) (by kernel_rfl) (by kernel_rfl) (by kernel_rfl) ((f33_eq va vn vc w R).mpr h)


/-! manciple/vec.Right -/
def h34 : Hints := ⟨[4], [10, 34], [8, 42, 16, 21, 27, 30], [(4, [0, 1, 2, 3, 4, 5, 6, 7, 8, 9, 10, 11, 12, 13, 14, 15, 16, 17, 18, 19, 20, 21, 22, 23, 25, 24, 26, 27, 28, 29, 30])], [], [(2, ⟨[(7, .int .i64)], []⟩)], [], [], []⟩
def f34_vc (va : Option Addr) (vn : Nat) (vc : Nat) (w : World) (R : Ending → World → Prop) : Prop :=
 ∃ (J1 : Int × Unit → World → Prop),
 ∃ (J2 : Int × Unit → World → Nat),
 J1 (0, ()) w ∧
 ∀ (x3 : Int) (w4 : World),
 J1 (x3, ()) w4 →
 (decide (x3 < (↑vn : Int)) = true →
 ∃ (ad5 : Addr),
 Gives Proofs.Try.prog (Instr.indexAt 55 (Value.slice va vn vc) (Value.int IntKind.i64 x3)) (Value.pointer (some ad5)) ∧
 ∃ (x6 : Int),
 ∃ (x7 : Int),
 ∃ (x8 : Int),
 Reads Proofs.Try.prog [] (Instr.loadAt 59 (Value.pointer (some ad5))) w4 (Value.agg #[Value.int IntKind.i64 x6, Value.int IntKind.i64 x7, Value.int IntKind.i64 x8]) ∧
 ∀ (n9 : Nat),
 w4.heap.size ≤ n9 →
 ∀ (w10 : World),
 Evo [n9] w4 w10 →
 Under [n9] w10 →
 Calls Proofs.Try.prog 47 #[Value.agg #[Value.int IntKind.i64 x6, Value.int IntKind.i64 x7, Value.int IntKind.i64 x8]] w10 fun (e11 : Ending) (w12 : World) =>
 ∃ (x13 : Int),
 ∃ (x14 : Int),
 e11 = Ending.returned (Value.agg #[Value.int IntKind.i64 x13, Value.int IntKind.i64 x14]) ∧
 Keeps [n9] w10 w12 ∧
 Calls Proofs.Try.prog 46 #[Value.agg #[Value.int IntKind.i64 x13, Value.int IntKind.i64 x14]] w12 fun (e15 : Ending) (w16 : World) =>
 ∃ (b17 : Bool),
 e15 = Ending.returned (Value.bool b17) ∧
 Keeps [n9] w12 w16 ∧
 ((!b17) = true → R (Ending.returned (Value.bool false)) w16) ∧
 ((!b17) = false →
 (decide (x8 < 1) = true → R (Ending.returned (Value.bool false)) w16) ∧
 (decide (x8 < 1) = false →
 Calls Proofs.Try.prog 48 #[Value.int IntKind.i64 x8] w16 fun (e18 : Ending) (w19 : World) =>
 ∃ (b20 : Bool),
 e18 = Ending.returned (Value.bool b20) ∧
 Keeps [n9] w16 w19 ∧
 ((!b20) = true → R (Ending.returned (Value.bool false)) w19) ∧
 ((!b20) = false →
 (decide (x3 > 0) = true →
 ∃ (ad21 : Addr),
 Gives Proofs.Try.prog (Instr.indexAt 55 (Value.slice va vn vc) (Value.int IntKind.i64 (IntKind.i64.wrap (x3 - 1)))) (Value.pointer (some ad21)) ∧
 ∃ (x22 : Int),
 ∃ (x23 : Int),
 ∃ (x24 : Int),
 Reads Proofs.Try.prog [] (Instr.loadAt 59 (Value.pointer (some ad21))) w19
 (Value.agg #[Value.int IntKind.i64 x22, Value.int IntKind.i64 x23, Value.int IntKind.i64 x24]) ∧
 Calls Proofs.Try.prog 47 #[Value.agg #[Value.int IntKind.i64 x22, Value.int IntKind.i64 x23, Value.int IntKind.i64 x24]] w19
 fun (e25 : Ending) (w26 : World) =>
 ∃ (x27 : Int),
 ∃ (x28 : Int),
 e25 = Ending.returned (Value.agg #[Value.int IntKind.i64 x27, Value.int IntKind.i64 x28]) ∧
 Keeps [n9] w19 w26 ∧
 Calls Proofs.Try.prog 47 #[Value.agg #[Value.int IntKind.i64 x6, Value.int IntKind.i64 x7, Value.int IntKind.i64 x8]] w26
 fun (e29 : Ending) (w30 : World) =>
 ∃ (x31 : Int),
 ∃ (x32 : Int),
 e29 = Ending.returned (Value.agg #[Value.int IntKind.i64 x31, Value.int IntKind.i64 x32]) ∧
 Keeps [n9] w26 w30 ∧
 Calls Proofs.Try.prog 49
 #[Value.agg #[Value.int IntKind.i64 x27, Value.int IntKind.i64 x28],
 Value.agg #[Value.int IntKind.i64 x31, Value.int IntKind.i64 x32]]
 w30 fun (e33 : Ending) (w34 : World) =>
 ∃ (x35 : Int),
 e33 = Ending.returned (Value.int IntKind.i64 x35) ∧
 Keeps [n9] w30 w34 ∧
 (decide (x35 ≥ 0) = true → R (Ending.returned (Value.bool false)) w34) ∧
 (decide (x35 ≥ 0) = false →
 J1 (IntKind.i64.wrap (x3 + 1), ()) w34 ∧ J2 (IntKind.i64.wrap (x3 + 1), ()) w34 < J2 (x3, ()) w4)) ∧
 (decide (x3 > 0) = false → J1 (IntKind.i64.wrap (x3 + 1), ()) w19 ∧ J2 (IntKind.i64.wrap (x3 + 1), ()) w19 < J2 (x3, ()) w4))))) ∧
 (decide (x3 < (↑vn : Int)) = false → R (Ending.returned (Value.bool true)) w4)
theorem f34_eq (va : Option Addr) (vn : Nat) (vc : Nat) (w : World) (R : Ending → World → Prop) : (fnF Go.Proofs.Try.prog h34 Go.Proofs.Try.f34 [Value.slice va vn vc] w R).den = f34_vc va vn vc w R := by kernel_rfl
theorem f34_calls (va : Option Addr) (vn : Nat) (vc : Nat) (w : World) (R : Ending → World → Prop) (h : f34_vc va vn vc w R) : Calls Go.Proofs.Try.prog 34 (List.toArray [Value.slice va vn vc]) w R :=
 fn_sound (H := h34) (fn := Go.Proofs.Try.f34) (by kernel_rfl) (by kernel_rfl) (by kernel_rfl) ((f34_eq va vn vc w R).mpr h)


/-! manciple/vec.Add -/
def h35 : Hints := ⟨[7], [36, 40, 49, 54, 61, 65, 73, 78, 80, 86, 101, 103], [17, 25, 26, 55, 93, 13, 21, 30, 34, 59], [(5, [0, 1, 2, 3, 4, 5, 6, 7, 8, 9, 10, 12, 13, 14, 11, 15, 16, 17, 18, 19, 20]), (6, [0, 1, 2, 3, 6, 7, 4, 5, 8, 9]), (7, [0, 1, 2, 3, 4, 5, 6, 8, 9, 10, 7, 11, 12, 13, 14, 15]), (8, [0, 1, 2, 3, 6, 7, 4, 5, 8, 9]), (10, [0, 1, 2, 3, 4, 5, 6, 7, 8, 9, 10, 11]), (14, [0, 1, 4, 5, 6, 7, 2, 3, 8, 9, 10])], [], [(4, ⟨[(0, .sl), (1, .sl), (6, .sl)], []⟩)], [], [], []⟩
def f35_vc (aa : Option Addr) (an : Nat) (ac : Nat) (ba : Option Addr) (bn : Nat) (bc : Nat) (w : World) (R : Ending → World → Prop) : Prop :=
 Calls Proofs.Try.prog 34 #[Value.slice aa an ac] w fun (e1 : Ending) (w2 : World) =>
 ∃ (b3 : Bool),
 e1 = Ending.returned (Value.bool b3) ∧
 ((!b3) = true → R (Ending.returned (Value.tuple #[Value.slice none 0 0, Value.bool false])) w2) ∧
 ((!b3) = false →
 Calls Proofs.Try.prog 34 #[Value.slice ba bn bc] w2 fun (e4 : Ending) (w5 : World) =>
 ∃ (b6 : Bool),
 e4 = Ending.returned (Value.bool b6) ∧
 ((!b6) = true → R (Ending.returned (Value.tuple #[Value.slice none 0 0, Value.bool false])) w5) ∧
 ((!b6) = false →
 ∃ (J7 : (Option Addr × Nat × Nat) × (Option Addr × Nat × Nat) × (Option Addr × Nat × Nat) × Unit → World → Prop),
 ∃ (J8 : (Option Addr × Nat × Nat) × (Option Addr × Nat × Nat) × (Option Addr × Nat × Nat) × Unit → World → Nat),
 J7 ((aa, an, ac), (ba, bn, bc), (none, 0, 0), ()) w5 ∧
 ∀ (a9 : Option Addr) (n10 n11 : Nat) (a12 : Option Addr) (n13 n14 : Nat) (a15 : Option Addr) (n16 n17 : Nat) (w18 : World),
 J7 ((a9, n10, n11), (a12, n13, n14), (a15, n16, n17), ()) w18 →
 (decide ((↑n10 : Int) > 0) = true →
 (((↑n13 : Int) == 0) = true →
 ∃ (ad19 : Addr),
 Gives Proofs.Try.prog (Instr.indexAt 55 (Value.slice a9 n10 n11) (Value.int IntKind.i64 0)) (Value.pointer (some ad19)) ∧
 ∃ (x20 : Int),
 ∃ (x21 : Int),
 ∃ (x22 : Int),
 Reads Proofs.Try.prog [] (Instr.loadAt 59 (Value.pointer (some ad19))) w18 (Value.agg #[Value.int IntKind.i64 x20, Value.int IntKind.i64 x21, Value.int IntKind.i64 x22]) ∧
 ∃ (a23 : Option Addr),
 ∃ (n24 : Nat),
 ∃ (n25 : Nat),
 Gives Proofs.Try.prog (Instr.sliceAt 55 (Value.slice a9 n10 n11) (some (Value.int IntKind.i64 1)) none none) (Value.slice a23 n24 n25) ∧
 ∀ (w26 : World),
 Below w18.heap.size w18 w26 →
 OpW Proofs.Try.prog (valueS (Instr.buildSlice 55 1 #[(0, Value.agg #[Value.int IntKind.i64 x20, Value.int IntKind.i64 x21, Value.int IntKind.i64 x22])])) w26
 fun (v27 : Value) (w28 : World) =>
 ∃ (a29 : Option Addr),
 ∃ (n30 : Nat),
 ∃ (n31 : Nat),
 v27 = Value.slice a29 n30 n31 ∧
 OpW Proofs.Try.prog (builtin Builtin.append #[55, 55] 55 #[false, false] #[Value.slice a15 n16 n17, Value.slice a29 n30 n31]) w28 fun (v32 : Value) (w33 : World) =>
 ∃ (a34 : Option Addr),
 ∃ (n35 : Nat),
 ∃ (n36 : Nat),
 v32 = Value.slice a34 n35 n36 ∧
 J7 ((a23, n24, n25), (a12, n13, n14), (a34, n35, n36), ()) w33 ∧
 J8 ((a23, n24, n25), (a12, n13, n14), (a34, n35, n36), ()) w33 < J8 ((a9, n10, n11), (a12, n13, n14), (a15, n16, n17), ()) w18) ∧
 (((↑n13 : Int) == 0) = false →
 (decide ((↑n10 : Int) > 0) = true →
 ∃ (ad37 : Addr),
 Gives Proofs.Try.prog (Instr.indexAt 55 (Value.slice a9 n10 n11) (Value.int IntKind.i64 0)) (Value.pointer (some ad37)) ∧
 ∃ (x38 : Int),
 ∃ (x39 : Int),
 ∃ (x40 : Int),
 Reads Proofs.Try.prog [] (Instr.loadAt 59 (Value.pointer (some ad37))) w18 (Value.agg #[Value.int IntKind.i64 x38, Value.int IntKind.i64 x39, Value.int IntKind.i64 x40]) ∧
 ∃ (ad41 : Addr),
 Gives Proofs.Try.prog (Instr.indexAt 55 (Value.slice a12 n13 n14) (Value.int IntKind.i64 0)) (Value.pointer (some ad41)) ∧
 ∃ (x42 : Int),
 ∃ (x43 : Int),
 ∃ (x44 : Int),
 Reads Proofs.Try.prog [] (Instr.loadAt 59 (Value.pointer (some ad41))) w18 (Value.agg #[Value.int IntKind.i64 x42, Value.int IntKind.i64 x43, Value.int IntKind.i64 x44]) ∧
 ∀ (w45 : World),
 Below w18.heap.size w18 w45 →
 Calls Proofs.Try.prog 47 #[Value.agg #[Value.int IntKind.i64 x38, Value.int IntKind.i64 x39, Value.int IntKind.i64 x40]] w45 fun (e46 : Ending) (w47 : World) =>
 ∃ (x48 : Int),
 ∃ (x49 : Int),
 e46 = Ending.returned (Value.agg #[Value.int IntKind.i64 x48, Value.int IntKind.i64 x49]) ∧
 Reads Proofs.Try.prog [] (Instr.loadAt 59 (Value.pointer (some ad41))) w47
 (Value.agg #[Value.int IntKind.i64 x42, Value.int IntKind.i64 x43, Value.int IntKind.i64 x44]) ∧
 Calls Proofs.Try.prog 47 #[Value.agg #[Value.int IntKind.i64 x42, Value.int IntKind.i64 x43, Value.int IntKind.i64 x44]] w47 fun (e50 : Ending) (w51 : World) =>
 ∃ (x52 : Int),
 ∃ (x53 : Int),
 e50 = Ending.returned (Value.agg #[Value.int IntKind.i64 x52, Value.int IntKind.i64 x53]) ∧
 Calls Proofs.Try.prog 49
 #[Value.agg #[Value.int IntKind.i64 x48, Value.int IntKind.i64 x49], Value.agg #[Value.int IntKind.i64 x52, Value.int IntKind.i64 x53]] w51
 fun (e54 : Ending) (w55 : World) =>
 ∃ (x56 : Int),
 e54 = Ending.returned (Value.int IntKind.i64 x56) ∧
 (decide (x56 < 0) = true →
 ∃ (ad57 : Addr),
 Gives Proofs.Try.prog (Instr.indexAt 55 (Value.slice a9 n10 n11) (Value.int IntKind.i64 0)) (Value.pointer (some ad57)) ∧
 ∃ (x58 : Int),
 ∃ (x59 : Int),
 ∃ (x60 : Int),
 Reads Proofs.Try.prog [] (Instr.loadAt 59 (Value.pointer (some ad57))) w55
 (Value.agg #[Value.int IntKind.i64 x58, Value.int IntKind.i64 x59, Value.int IntKind.i64 x60]) ∧
 ∃ (a61 : Option Addr),
 ∃ (n62 : Nat),
 ∃ (n63 : Nat),
 Gives Proofs.Try.prog (Instr.sliceAt 55 (Value.slice a9 n10 n11) (some (Value.int IntKind.i64 1)) none none)
 (Value.slice a61 n62 n63) ∧
 ∀ (w64 : World),
 Below w55.heap.size w55 w64 →
 OpW Proofs.Try.prog
 (valueS
 (Instr.buildSlice 55 1
 #[(0, Value.agg #[Value.int IntKind.i64 x58, Value.int IntKind.i64 x59, Value.int IntKind.i64 x60])]))
 w64 fun (v65 : Value) (w66 : World) =>
 ∃ (a67 : Option Addr),
 ∃ (n68 : Nat),
 ∃ (n69 : Nat),
 v65 = Value.slice a67 n68 n69 ∧
 OpW Proofs.Try.prog
 (builtin Builtin.append #[55, 55] 55 #[false, false] #[Value.slice a15 n16 n17, Value.slice a67 n68 n69])
 w66 fun (v70 : Value) (w71 : World) =>
 ∃ (a72 : Option Addr),
 ∃ (n73 : Nat),
 ∃ (n74 : Nat),
 v70 = Value.slice a72 n73 n74 ∧
 J7 ((a61, n62, n63), (a12, n13, n14), (a72, n73, n74), ()) w71 ∧
 J8 ((a61, n62, n63), (a12, n13, n14), (a72, n73, n74), ()) w71 <
 J8 ((a9, n10, n11), (a12, n13, n14), (a15, n16, n17), ()) w18) ∧
 (decide (x56 < 0) = false →
 (((↑n10 : Int) == 0) = true →
 ∃ (ad75 : Addr),
 Gives Proofs.Try.prog (Instr.indexAt 55 (Value.slice a12 n13 n14) (Value.int IntKind.i64 0)) (Value.pointer (some ad75)) ∧
 ∃ (x76 : Int),
 ∃ (x77 : Int),
 ∃ (x78 : Int),
 Reads Proofs.Try.prog [] (Instr.loadAt 59 (Value.pointer (some ad75))) w55
 (Value.agg #[Value.int IntKind.i64 x76, Value.int IntKind.i64 x77, Value.int IntKind.i64 x78]) ∧
 ∃ (a79 : Option Addr),
 ∃ (n80 : Nat),
 ∃ (n81 : Nat),
 Gives Proofs.Try.prog (Instr.sliceAt 55 (Value.slice a12 n13 n14) (some (Value.int IntKind.i64 1)) none none)
 (Value.slice a79 n80 n81) ∧
 ∀ (w82 : World),
 Below w55.heap.size w55 w82 →
 OpW Proofs.Try.prog
 (valueS
 (Instr.buildSlice 55 1
 #[(0, Value.agg #[Value.int IntKind.i64 x76, Value.int IntKind.i64 x77, Value.int IntKind.i64 x78])]))
 w82 fun (v83 : Value) (w84 : World) =>
 ∃ (a85 : Option Addr),
 ∃ (n86 : Nat),
 ∃ (n87 : Nat),
 v83 = Value.slice a85 n86 n87 ∧
 OpW Proofs.Try.prog
 (builtin Builtin.append #[55, 55] 55 #[false, false]
 #[Value.slice a15 n16 n17, Value.slice a85 n86 n87])
 w84 fun (v88 : Value) (w89 : World) =>
 ∃ (a90 : Option Addr),
 ∃ (n91 : Nat),
 ∃ (n92 : Nat),
 v88 = Value.slice a90 n91 n92 ∧
 J7 ((a9, n10, n11), (a79, n80, n81), (a90, n91, n92), ()) w89 ∧
 J8 ((a9, n10, n11), (a79, n80, n81), (a90, n91, n92), ()) w89 <
 J8 ((a9, n10, n11), (a12, n13, n14), (a15, n16, n17), ()) w18) ∧
 (((↑n10 : Int) == 0) = false →
 ∃ (ad93 : Addr),
 Gives Proofs.Try.prog (Instr.indexAt 55 (Value.slice a9 n10 n11) (Value.int IntKind.i64 0)) (Value.pointer (some ad93)) ∧
 ∃ (x94 : Int),
 ∃ (x95 : Int),
 ∃ (x96 : Int),
 Reads Proofs.Try.prog [] (Instr.loadAt 59 (Value.pointer (some ad93))) w55
 (Value.agg #[Value.int IntKind.i64 x94, Value.int IntKind.i64 x95, Value.int IntKind.i64 x96]) ∧
 ∃ (ad97 : Addr),
 Gives Proofs.Try.prog (Instr.indexAt 55 (Value.slice a12 n13 n14) (Value.int IntKind.i64 0)) (Value.pointer (some ad97)) ∧
 ∃ (x98 : Int),
 ∃ (x99 : Int),
 ∃ (x100 : Int),
 Reads Proofs.Try.prog [] (Instr.loadAt 59 (Value.pointer (some ad97))) w55
 (Value.agg #[Value.int IntKind.i64 x98, Value.int IntKind.i64 x99, Value.int IntKind.i64 x100]) ∧
 ∀ (w101 : World),
 Below w55.heap.size w55 w101 →
 Calls Proofs.Try.prog 47
 #[Value.agg #[Value.int IntKind.i64 x94, Value.int IntKind.i64 x95, Value.int IntKind.i64 x96]] w101
 fun (e102 : Ending) (w103 : World) =>
 ∃ (x104 : Int),
 ∃ (x105 : Int),
 e102 = Ending.returned (Value.agg #[Value.int IntKind.i64 x104, Value.int IntKind.i64 x105]) ∧
 Reads Proofs.Try.prog [] (Instr.loadAt 59 (Value.pointer (some ad97))) w103
 (Value.agg #[Value.int IntKind.i64 x98, Value.int IntKind.i64 x99, Value.int IntKind.i64 x100]) ∧
 Calls Proofs.Try.prog 47
 #[Value.agg #[Value.int IntKind.i64 x98, Value.int IntKind.i64 x99, Value.int IntKind.i64 x100]]
 w103 fun (e106 : Ending) (w107 : World) =>
 ∃ (x108 : Int),
 ∃ (x109 : Int),
 e106 = Ending.returned (Value.agg #[Value.int IntKind.i64 x108, Value.int IntKind.i64 x109]) ∧
 Calls Proofs.Try.prog 49
 #[Value.agg #[Value.int IntKind.i64 x104, Value.int IntKind.i64 x105],
 Value.agg #[Value.int IntKind.i64 x108, Value.int IntKind.i64 x109]]
 w107 fun (e110 : Ending) (w111 : World) =>
 ∃ (x112 : Int),
 e110 = Ending.returned (Value.int IntKind.i64 x112) ∧
 (decide (x112 > 0) = true →
 ∃ (ad113 : Addr),
 Gives Proofs.Try.prog
 (Instr.indexAt 55 (Value.slice a12 n13 n14) (Value.int IntKind.i64 0))
 (Value.pointer (some ad113)) ∧
 ∃ (x114 : Int),
 ∃ (x115 : Int),
 ∃ (x116 : Int),
 Reads Proofs.Try.prog [] (Instr.loadAt 59 (Value.pointer (some ad113)))
 w111
 (Value.agg
 #[Value.int IntKind.i64 x114, Value.int IntKind.i64 x115,
 Value.int IntKind.i64 x116]) ∧
 ∃ (a117 : Option Addr),
 ∃ (n118 : Nat),
 ∃ (n119 : Nat),
 Gives Proofs.Try.prog
 (Instr.sliceAt 55 (Value.slice a12 n13 n14)
 (some (Value.int IntKind.i64 1)) none none)
 (Value.slice a117 n118 n119) ∧
 ∀ (w120 : World),
 Below w111.heap.size w111 w120 →
 OpW Proofs.Try.prog
 (valueS
 (Instr.buildSlice 55 1
 #[(0,
 Value.agg
 #[Value.int IntKind.i64 x114,
 Value.int IntKind.i64 x115,
 Value.int IntKind.i64 x116])]))
 w120 fun (v121 : Value) (w122 : World) =>
 ∃ (a123 : Option Addr),
 ∃ (n124 : Nat),
 ∃ (n125 : Nat),
 v121 = Value.slice a123 n124 n125 ∧
 OpW Proofs.Try.prog
 (builtin Builtin.append #[55, 55] 55
 #[false, false]
 #[Value.slice a15 n16 n17,
 Value.slice a123 n124 n125])
 w122 fun (v126 : Value) (w127 : World) =>
 ∃ (a128 : Option Addr),
 ∃ (n129 : Nat),
 ∃ (n130 : Nat),
 v126 = Value.slice a128 n129 n130 ∧
 J7
 ((a9, n10, n11),
 (a117, n118, n119),
 (a128, n129, n130), ())
 w127 ∧
 J8
 ((a9, n10, n11),
 (a117, n118, n119),
 (a128, n129, n130), ())
 w127 <
 J8
 ((a9, n10, n11),
 (a12, n13, n14),
 (a15, n16, n17), ())
 w18) ∧
 (decide (x112 > 0) = false →
 ∃ (ad131 : Addr),
 Gives Proofs.Try.prog
 (Instr.indexAt 55 (Value.slice a9 n10 n11) (Value.int IntKind.i64 0))
 (Value.pointer (some ad131)) ∧
 ∃ (x132 : Int),
 ∃ (x133 : Int),
 ∃ (x134 : Int),
 Reads Proofs.Try.prog [] (Instr.loadAt 59 (Value.pointer (some ad131)))
 w111
 (Value.agg
 #[Value.int IntKind.i64 x132, Value.int IntKind.i64 x133,
 Value.int IntKind.i64 x134]) ∧
 ∀ (n135 : Nat),
 w111.heap.size ≤ n135 →
 ∃ (ad136 : Addr),
 Gives Proofs.Try.prog
 (Instr.indexAt 55 (Value.slice a12 n13 n14)
 (Value.int IntKind.i64 0))
 (Value.pointer (some ad136)) ∧
 ∃ (x137 : Int),
 Reads Proofs.Try.prog [n135]
 (Instr.loadAt 2
 (Value.pointer
 (some (Addr.mk ad136.block (ad136.off + 2) none))))
 w111 (Value.int IntKind.i64 x137) ∧
 ∀ (w138 : World),
 Evo [n135] w111 w138 →
 Under [n135] w138 →
 Calls Proofs.Try.prog 50
 #[Value.int IntKind.i64 x134,
 Value.int IntKind.i64 x137,
 Value.int IntKind.i64 9007199254740992]
 w138 fun (e139 : Ending) (w140 : World) =>
 ∃ (x141 : Int),
 ∃ (b142 : Bool),
 e139 =
 Ending.returned
 (Value.tuple
 #[Value.int IntKind.i64 x141,
 Value.bool b142]) ∧
 Keeps [n135] w138 w140 ∧
 ((!b142) = true →
 R
 (Ending.returned
 (Value.tuple
 #[Value.slice none 0 0,
 Value.bool false]))
 w140) ∧
 ((!b142) = false →
 ∃ (a143 : Option Addr),
 ∃ (n144 : Nat),
 ∃ (n145 : Nat),
 Gives Proofs.Try.prog
 (Instr.sliceAt 55
 (Value.slice a9 n10 n11)
 (some
 (Value.int IntKind.i64
 1))
 none none)
 (Value.slice a143 n144
 n145) ∧
 ∃ (a146 : Option Addr),
 ∃ (n147 : Nat),
 ∃ (n148 : Nat),
 Gives Proofs.Try.prog
 (Instr.sliceAt 55
 (Value.slice a12
 n13 n14)
 (some
 (Value.int
 IntKind.i64
 1))
 none none)
 (Value.slice a146
 n147 n148) ∧
 ∀ (w149 : World),
 Evo [n135] w140
 w149 →
 Under [n135]
 w149 →
 OpW
 Proofs.Try.prog
 (valueS
 (Instr.buildSlice
 55 1
 #[(0,
 Value.agg
 #[Value.int
 IntKind.i64
 x132,
 Value.int
 IntKind.i64
 x133,
 Value.int
 IntKind.i64
 x141])]))
 w149
 fun
 (v150 :
 Value)
 (w151 :
 World) =>
 ∃ (a152 :
 Option
 Addr),
 ∃ (n153 :
 Nat),
 ∃ (n154 :
 Nat),
 v150 =
 Value.slice
 a152
 n153
 n154 ∧
 Keeps
 [n135]
 w149
 w151 ∧
 OpW
 Proofs.Try.prog
 (builtin
 Builtin.append
 #[55,
 55]
 55
 #[false,
 false]
 #[Value.slice
 a15
 n16
 n17,
 Value.slice
 a152
 n153
 n154])
 w151
 fun
 (v155 :
 Value)
 (w156 :
 World) =>
 ∃
 (a157
 :
 Option
 Addr),
 ∃
 (n158
 :
 Nat),
 ∃
 (n159
 :
 Nat),
 v155 =
 Value.slice
 a157
 n158
 n159 ∧
 Keeps
 [n135]
 w151
 w156 ∧
 J7
 ((a143,
 n144,
 n145),
 (a146,
 n147,
 n148),
 (a157,
 n158,
 n159),
 ())
 w156 ∧
 J8
 ((a143,
 n144,
 n145),
 (a146,
 n147,
 n148),
 (a157,
 n158,
 n159),
 ())
 w156 <
 J8
 ((a9,
 n10,
 n11),
 (a12,
 n13,
 n14),
 (a15,
 n16,
 n17),
 ())
 w18))))) ∧
 (decide ((↑n10 : Int) > 0) = false →
 (((↑n10 : Int) == 0) = true →
 ∃ (ad160 : Addr),
 Gives Proofs.Try.prog (Instr.indexAt 55 (Value.slice a12 n13 n14) (Value.int IntKind.i64 0)) (Value.pointer (some ad160)) ∧
 ∃ (x161 : Int),
 ∃ (x162 : Int),
 ∃ (x163 : Int),
 Reads Proofs.Try.prog [] (Instr.loadAt 59 (Value.pointer (some ad160))) w18 (Value.agg #[Value.int IntKind.i64 x161, Value.int IntKind.i64 x162, Value.int IntKind.i64 x163]) ∧
 ∃ (a164 : Option Addr),
 ∃ (n165 : Nat),
 ∃ (n166 : Nat),
 Gives Proofs.Try.prog (Instr.sliceAt 55 (Value.slice a12 n13 n14) (some (Value.int IntKind.i64 1)) none none) (Value.slice a164 n165 n166) ∧
 ∀ (w167 : World),
 Below w18.heap.size w18 w167 →
 OpW Proofs.Try.prog (valueS (Instr.buildSlice 55 1 #[(0, Value.agg #[Value.int IntKind.i64 x161, Value.int IntKind.i64 x162, Value.int IntKind.i64 x163])])) w167
 fun (v168 : Value) (w169 : World) =>
 ∃ (a170 : Option Addr),
 ∃ (n171 : Nat),
 ∃ (n172 : Nat),
 v168 = Value.slice a170 n171 n172 ∧
 OpW Proofs.Try.prog (builtin Builtin.append #[55, 55] 55 #[false, false] #[Value.slice a15 n16 n17, Value.slice a170 n171 n172]) w169
 fun (v173 : Value) (w174 : World) =>
 ∃ (a175 : Option Addr),
 ∃ (n176 : Nat),
 ∃ (n177 : Nat),
 v173 = Value.slice a175 n176 n177 ∧
 J7 ((a9, n10, n11), (a164, n165, n166), (a175, n176, n177), ()) w174 ∧
 J8 ((a9, n10, n11), (a164, n165, n166), (a175, n176, n177), ()) w174 < J8 ((a9, n10, n11), (a12, n13, n14), (a15, n16, n17), ()) w18) ∧
 (((↑n10 : Int) == 0) = false →
 ∃ (ad178 : Addr),
 Gives Proofs.Try.prog (Instr.indexAt 55 (Value.slice a9 n10 n11) (Value.int IntKind.i64 0)) (Value.pointer (some ad178)) ∧
 ∃ (x179 : Int),
 ∃ (x180 : Int),
 ∃ (x181 : Int),
 Reads Proofs.Try.prog [] (Instr.loadAt 59 (Value.pointer (some ad178))) w18 (Value.agg #[Value.int IntKind.i64 x179, Value.int IntKind.i64 x180, Value.int IntKind.i64 x181]) ∧
 ∃ (ad182 : Addr),
 Gives Proofs.Try.prog (Instr.indexAt 55 (Value.slice a12 n13 n14) (Value.int IntKind.i64 0)) (Value.pointer (some ad182)) ∧
 ∃ (x183 : Int),
 ∃ (x184 : Int),
 ∃ (x185 : Int),
 Reads Proofs.Try.prog [] (Instr.loadAt 59 (Value.pointer (some ad182))) w18
 (Value.agg #[Value.int IntKind.i64 x183, Value.int IntKind.i64 x184, Value.int IntKind.i64 x185]) ∧
 ∀ (w186 : World),
 Below w18.heap.size w18 w186 →
 Calls Proofs.Try.prog 47 #[Value.agg #[Value.int IntKind.i64 x179, Value.int IntKind.i64 x180, Value.int IntKind.i64 x181]] w186 fun (e187 : Ending) (w188 : World) =>
 ∃ (x189 : Int),
 ∃ (x190 : Int),
 e187 = Ending.returned (Value.agg #[Value.int IntKind.i64 x189, Value.int IntKind.i64 x190]) ∧
 Reads Proofs.Try.prog [] (Instr.loadAt 59 (Value.pointer (some ad182))) w188
 (Value.agg #[Value.int IntKind.i64 x183, Value.int IntKind.i64 x184, Value.int IntKind.i64 x185]) ∧
 Calls Proofs.Try.prog 47 #[Value.agg #[Value.int IntKind.i64 x183, Value.int IntKind.i64 x184, Value.int IntKind.i64 x185]] w188
 fun (e191 : Ending) (w192 : World) =>
 ∃ (x193 : Int),
 ∃ (x194 : Int),
 e191 = Ending.returned (Value.agg #[Value.int IntKind.i64 x193, Value.int IntKind.i64 x194]) ∧
 Calls Proofs.Try.prog 49
 #[Value.agg #[Value.int IntKind.i64 x189, Value.int IntKind.i64 x190], Value.agg #[Value.int IntKind.i64 x193, Value.int IntKind.i64 x194]] w192
 fun (e195 : Ending) (w196 : World) =>
 ∃ (x197 : Int),
 e195 = Ending.returned (Value.int IntKind.i64 x197) ∧
 (decide (x197 > 0) = true →
 ∃ (ad198 : Addr),
 Gives Proofs.Try.prog (Instr.indexAt 55 (Value.slice a12 n13 n14) (Value.int IntKind.i64 0)) (Value.pointer (some ad198)) ∧
 ∃ (x199 : Int),
 ∃ (x200 : Int),
 ∃ (x201 : Int),
 Reads Proofs.Try.prog [] (Instr.loadAt 59 (Value.pointer (some ad198))) w196
 (Value.agg #[Value.int IntKind.i64 x199, Value.int IntKind.i64 x200, Value.int IntKind.i64 x201]) ∧
 ∃ (a202 : Option Addr),
 ∃ (n203 : Nat),
 ∃ (n204 : Nat),
 Gives Proofs.Try.prog (Instr.sliceAt 55 (Value.slice a12 n13 n14) (some (Value.int IntKind.i64 1)) none none)
 (Value.slice a202 n203 n204) ∧
 ∀ (w205 : World),
 Below w196.heap.size w196 w205 →
 OpW Proofs.Try.prog
 (valueS
 (Instr.buildSlice 55 1
 #[(0, Value.agg #[Value.int IntKind.i64 x199, Value.int IntKind.i64 x200, Value.int IntKind.i64 x201])]))
 w205 fun (v206 : Value) (w207 : World) =>
 ∃ (a208 : Option Addr),
 ∃ (n209 : Nat),
 ∃ (n210 : Nat),
 v206 = Value.slice a208 n209 n210 ∧
 OpW Proofs.Try.prog
 (builtin Builtin.append #[55, 55] 55 #[false, false]
 #[Value.slice a15 n16 n17, Value.slice a208 n209 n210])
 w207 fun (v211 : Value) (w212 : World) =>
 ∃ (a213 : Option Addr),
 ∃ (n214 : Nat),
 ∃ (n215 : Nat),
 v211 = Value.slice a213 n214 n215 ∧
 J7 ((a9, n10, n11), (a202, n203, n204), (a213, n214, n215), ()) w212 ∧
 J8 ((a9, n10, n11), (a202, n203, n204), (a213, n214, n215), ()) w212 <
 J8 ((a9, n10, n11), (a12, n13, n14), (a15, n16, n17), ()) w18) ∧
 (decide (x197 > 0) = false →
 ∃ (ad216 : Addr),
 Gives Proofs.Try.prog (Instr.indexAt 55 (Value.slice a9 n10 n11) (Value.int IntKind.i64 0)) (Value.pointer (some ad216)) ∧
 ∃ (x217 : Int),
 ∃ (x218 : Int),
 ∃ (x219 : Int),
 Reads Proofs.Try.prog [] (Instr.loadAt 59 (Value.pointer (some ad216))) w196
 (Value.agg #[Value.int IntKind.i64 x217, Value.int IntKind.i64 x218, Value.int IntKind.i64 x219]) ∧
 ∀ (n220 : Nat),
 w196.heap.size ≤ n220 →
 ∃ (ad221 : Addr),
 Gives Proofs.Try.prog (Instr.indexAt 55 (Value.slice a12 n13 n14) (Value.int IntKind.i64 0))
 (Value.pointer (some ad221)) ∧
 ∃ (x222 : Int),
 Reads Proofs.Try.prog [n220] (Instr.loadAt 2 (Value.pointer (some (Addr.mk ad221.block (ad221.off + 2) none)))) w196
 (Value.int IntKind.i64 x222) ∧
 ∀ (w223 : World),
 Evo [n220] w196 w223 →
 Under [n220] w223 →
 Calls Proofs.Try.prog 50
 #[Value.int IntKind.i64 x219, Value.int IntKind.i64 x222, Value.int IntKind.i64 9007199254740992] w223
 fun (e224 : Ending) (w225 : World) =>
 ∃ (x226 : Int),
 ∃ (b227 : Bool),
 e224 = Ending.returned (Value.tuple #[Value.int IntKind.i64 x226, Value.bool b227]) ∧
 Keeps [n220] w223 w225 ∧
 ((!b227) = true →
 R (Ending.returned (Value.tuple #[Value.slice none 0 0, Value.bool false])) w225) ∧
 ((!b227) = false →
 ∃ (a228 : Option Addr),
 ∃ (n229 : Nat),
 ∃ (n230 : Nat),
 Gives Proofs.Try.prog
 (Instr.sliceAt 55 (Value.slice a9 n10 n11) (some (Value.int IntKind.i64 1)) none
 none)
 (Value.slice a228 n229 n230) ∧
 ∃ (a231 : Option Addr),
 ∃ (n232 : Nat),
 ∃ (n233 : Nat),
 Gives Proofs.Try.prog
 (Instr.sliceAt 55 (Value.slice a12 n13 n14) (some (Value.int IntKind.i64 1))
 none none)
 (Value.slice a231 n232 n233) ∧
 ∀ (w234 : World),
 Evo [n220] w225 w234 →
 Under [n220] w234 →
 OpW Proofs.Try.prog
 (valueS
 (Instr.buildSlice 55 1
 #[(0,
 Value.agg
 #[Value.int IntKind.i64 x217, Value.int IntKind.i64 x218,
 Value.int IntKind.i64 x226])]))
 w234 fun (v235 : Value) (w236 : World) =>
 ∃ (a237 : Option Addr),
 ∃ (n238 : Nat),
 ∃ (n239 : Nat),
 v235 = Value.slice a237 n238 n239 ∧
 Keeps [n220] w234 w236 ∧
 OpW Proofs.Try.prog
 (builtin Builtin.append #[55, 55] 55 #[false, false]
 #[Value.slice a15 n16 n17, Value.slice a237 n238 n239])
 w236 fun (v240 : Value) (w241 : World) =>
 ∃ (a242 : Option Addr),
 ∃ (n243 : Nat),
 ∃ (n244 : Nat),
 v240 = Value.slice a242 n243 n244 ∧
 Keeps [n220] w236 w241 ∧
 J7
 ((a228, n229, n230), (a231, n232, n233),
 (a242, n243, n244), ())
 w241 ∧
 J8
 ((a228, n229, n230), (a231, n232, n233),
 (a242, n243, n244), ())
 w241 <
 J8
 ((a9, n10, n11), (a12, n13, n14),
 (a15, n16, n17), ())
 w18)))))) ∧
 (decide ((↑n10 : Int) > 0) = false →
 (decide ((↑n13 : Int) > 0) = true →
 (((↑n13 : Int) == 0) = true →
 ∃ (ad245 : Addr),
 Gives Proofs.Try.prog (Instr.indexAt 55 (Value.slice a9 n10 n11) (Value.int IntKind.i64 0)) (Value.pointer (some ad245)) ∧
 ∃ (x246 : Int),
 ∃ (x247 : Int),
 ∃ (x248 : Int),
 Reads Proofs.Try.prog [] (Instr.loadAt 59 (Value.pointer (some ad245))) w18 (Value.agg #[Value.int IntKind.i64 x246, Value.int IntKind.i64 x247, Value.int IntKind.i64 x248]) ∧
 ∃ (a249 : Option Addr),
 ∃ (n250 : Nat),
 ∃ (n251 : Nat),
 Gives Proofs.Try.prog (Instr.sliceAt 55 (Value.slice a9 n10 n11) (some (Value.int IntKind.i64 1)) none none) (Value.slice a249 n250 n251) ∧
 ∀ (w252 : World),
 Below w18.heap.size w18 w252 →
 OpW Proofs.Try.prog (valueS (Instr.buildSlice 55 1 #[(0, Value.agg #[Value.int IntKind.i64 x246, Value.int IntKind.i64 x247, Value.int IntKind.i64 x248])])) w252
 fun (v253 : Value) (w254 : World) =>
 ∃ (a255 : Option Addr),
 ∃ (n256 : Nat),
 ∃ (n257 : Nat),
 v253 = Value.slice a255 n256 n257 ∧
 OpW Proofs.Try.prog (builtin Builtin.append #[55, 55] 55 #[false, false] #[Value.slice a15 n16 n17, Value.slice a255 n256 n257]) w254
 fun (v258 : Value) (w259 : World) =>
 ∃ (a260 : Option Addr),
 ∃ (n261 : Nat),
 ∃ (n262 : Nat),
 v258 = Value.slice a260 n261 n262 ∧
 J7 ((a249, n250, n251), (a12, n13, n14), (a260, n261, n262), ()) w259 ∧
 J8 ((a249, n250, n251), (a12, n13, n14), (a260, n261, n262), ()) w259 < J8 ((a9, n10, n11), (a12, n13, n14), (a15, n16, n17), ()) w18) ∧
 (((↑n13 : Int) == 0) = false →
 (decide ((↑n10 : Int) > 0) = true →
 ∃ (ad263 : Addr),
 Gives Proofs.Try.prog (Instr.indexAt 55 (Value.slice a9 n10 n11) (Value.int IntKind.i64 0)) (Value.pointer (some ad263)) ∧
 ∃ (x264 : Int),
 ∃ (x265 : Int),
 ∃ (x266 : Int),
 Reads Proofs.Try.prog [] (Instr.loadAt 59 (Value.pointer (some ad263))) w18 (Value.agg #[Value.int IntKind.i64 x264, Value.int IntKind.i64 x265, Value.int IntKind.i64 x266]) ∧
 ∃ (ad267 : Addr),
 Gives Proofs.Try.prog (Instr.indexAt 55 (Value.slice a12 n13 n14) (Value.int IntKind.i64 0)) (Value.pointer (some ad267)) ∧
 ∃ (x268 : Int),
 ∃ (x269 : Int),
 ∃ (x270 : Int),
 Reads Proofs.Try.prog [] (Instr.loadAt 59 (Value.pointer (some ad267))) w18
 (Value.agg #[Value.int IntKind.i64 x268, Value.int IntKind.i64 x269, Value.int IntKind.i64 x270]) ∧
 ∀ (w271 : World),
 Below w18.heap.size w18 w271 →
 Calls Proofs.Try.prog 47 #[Value.agg #[Value.int IntKind.i64 x264, Value.int IntKind.i64 x265, Value.int IntKind.i64 x266]] w271 fun (e272 : Ending) (w273 : World) =>
 ∃ (x274 : Int),
 ∃ (x275 : Int),
 e272 = Ending.returned (Value.agg #[Value.int IntKind.i64 x274, Value.int IntKind.i64 x275]) ∧
 Reads Proofs.Try.prog [] (Instr.loadAt 59 (Value.pointer (some ad267))) w273
 (Value.agg #[Value.int IntKind.i64 x268, Value.int IntKind.i64 x269, Value.int IntKind.i64 x270]) ∧
 Calls Proofs.Try.prog 47 #[Value.agg #[Value.int IntKind.i64 x268, Value.int IntKind.i64 x269, Value.int IntKind.i64 x270]] w273
 fun (e276 : Ending) (w277 : World) =>
 ∃ (x278 : Int),
 ∃ (x279 : Int),
 e276 = Ending.returned (Value.agg #[Value.int IntKind.i64 x278, Value.int IntKind.i64 x279]) ∧
 Calls Proofs.Try.prog 49
 #[Value.agg #[Value.int IntKind.i64 x274, Value.int IntKind.i64 x275], Value.agg #[Value.int IntKind.i64 x278, Value.int IntKind.i64 x279]] w277
 fun (e280 : Ending) (w281 : World) =>
 ∃ (x282 : Int),
 e280 = Ending.returned (Value.int IntKind.i64 x282) ∧
 (decide (x282 < 0) = true →
 ∃ (ad283 : Addr),
 Gives Proofs.Try.prog (Instr.indexAt 55 (Value.slice a9 n10 n11) (Value.int IntKind.i64 0)) (Value.pointer (some ad283)) ∧
 ∃ (x284 : Int),
 ∃ (x285 : Int),
 ∃ (x286 : Int),
 Reads Proofs.Try.prog [] (Instr.loadAt 59 (Value.pointer (some ad283))) w281
 (Value.agg #[Value.int IntKind.i64 x284, Value.int IntKind.i64 x285, Value.int IntKind.i64 x286]) ∧
 ∃ (a287 : Option Addr),
 ∃ (n288 : Nat),
 ∃ (n289 : Nat),
 Gives Proofs.Try.prog (Instr.sliceAt 55 (Value.slice a9 n10 n11) (some (Value.int IntKind.i64 1)) none none)
 (Value.slice a287 n288 n289) ∧
 ∀ (w290 : World),
 Below w281.heap.size w281 w290 →
 OpW Proofs.Try.prog
 (valueS
 (Instr.buildSlice 55 1
 #[(0, Value.agg #[Value.int IntKind.i64 x284, Value.int IntKind.i64 x285, Value.int IntKind.i64 x286])]))
 w290 fun (v291 : Value) (w292 : World) =>
 ∃ (a293 : Option Addr),
 ∃ (n294 : Nat),
 ∃ (n295 : Nat),
 v291 = Value.slice a293 n294 n295 ∧
 OpW Proofs.Try.prog
 (builtin Builtin.append #[55, 55] 55 #[false, false]
 #[Value.slice a15 n16 n17, Value.slice a293 n294 n295])
 w292 fun (v296 : Value) (w297 : World) =>
 ∃ (a298 : Option Addr),
 ∃ (n299 : Nat),
 ∃ (n300 : Nat),
 v296 = Value.slice a298 n299 n300 ∧
 J7 ((a287, n288, n289), (a12, n13, n14), (a298, n299, n300), ()) w297 ∧
 J8 ((a287, n288, n289), (a12, n13, n14), (a298, n299, n300), ()) w297 <
 J8 ((a9, n10, n11), (a12, n13, n14), (a15, n16, n17), ()) w18) ∧
 (decide (x282 < 0) = false →
 (((↑n10 : Int) == 0) = true →
 ∃ (ad301 : Addr),
 Gives Proofs.Try.prog (Instr.indexAt 55 (Value.slice a12 n13 n14) (Value.int IntKind.i64 0)) (Value.pointer (some ad301)) ∧
 ∃ (x302 : Int),
 ∃ (x303 : Int),
 ∃ (x304 : Int),
 Reads Proofs.Try.prog [] (Instr.loadAt 59 (Value.pointer (some ad301))) w281
 (Value.agg #[Value.int IntKind.i64 x302, Value.int IntKind.i64 x303, Value.int IntKind.i64 x304]) ∧
 ∃ (a305 : Option Addr),
 ∃ (n306 : Nat),
 ∃ (n307 : Nat),
 Gives Proofs.Try.prog (Instr.sliceAt 55 (Value.slice a12 n13 n14) (some (Value.int IntKind.i64 1)) none none)
 (Value.slice a305 n306 n307) ∧
 ∀ (w308 : World),
 Below w281.heap.size w281 w308 →
 OpW Proofs.Try.prog
 (valueS
 (Instr.buildSlice 55 1
 #[(0,
 Value.agg #[Value.int IntKind.i64 x302, Value.int IntKind.i64 x303, Value.int IntKind.i64 x304])]))
 w308 fun (v309 : Value) (w310 : World) =>
 ∃ (a311 : Option Addr),
 ∃ (n312 : Nat),
 ∃ (n313 : Nat),
 v309 = Value.slice a311 n312 n313 ∧
 OpW Proofs.Try.prog
 (builtin Builtin.append #[55, 55] 55 #[false, false]
 #[Value.slice a15 n16 n17, Value.slice a311 n312 n313])
 w310 fun (v314 : Value) (w315 : World) =>
 ∃ (a316 : Option Addr),
 ∃ (n317 : Nat),
 ∃ (n318 : Nat),
 v314 = Value.slice a316 n317 n318 ∧
 J7 ((a9, n10, n11), (a305, n306, n307), (a316, n317, n318), ()) w315 ∧
 J8 ((a9, n10, n11), (a305, n306, n307), (a316, n317, n318), ()) w315 <
 J8 ((a9, n10, n11), (a12, n13, n14), (a15, n16, n17), ()) w18) ∧
 (((↑n10 : Int) == 0) = false →
 ∃ (ad319 : Addr),
 Gives Proofs.Try.prog (Instr.indexAt 55 (Value.slice a9 n10 n11) (Value.int IntKind.i64 0)) (Value.pointer (some ad319)) ∧
 ∃ (x320 : Int),
 ∃ (x321 : Int),
 ∃ (x322 : Int),
 Reads Proofs.Try.prog [] (Instr.loadAt 59 (Value.pointer (some ad319))) w281
 (Value.agg #[Value.int IntKind.i64 x320, Value.int IntKind.i64 x321, Value.int IntKind.i64 x322]) ∧
 ∃ (ad323 : Addr),
 Gives Proofs.Try.prog (Instr.indexAt 55 (Value.slice a12 n13 n14) (Value.int IntKind.i64 0))
 (Value.pointer (some ad323)) ∧
 ∃ (x324 : Int),
 ∃ (x325 : Int),
 ∃ (x326 : Int),
 Reads Proofs.Try.prog [] (Instr.loadAt 59 (Value.pointer (some ad323))) w281
 (Value.agg #[Value.int IntKind.i64 x324, Value.int IntKind.i64 x325, Value.int IntKind.i64 x326]) ∧
 ∀ (w327 : World),
 Below w281.heap.size w281 w327 →
 Calls Proofs.Try.prog 47
 #[Value.agg #[Value.int IntKind.i64 x320, Value.int IntKind.i64 x321, Value.int IntKind.i64 x322]] w327
 fun (e328 : Ending) (w329 : World) =>
 ∃ (x330 : Int),
 ∃ (x331 : Int),
 e328 = Ending.returned (Value.agg #[Value.int IntKind.i64 x330, Value.int IntKind.i64 x331]) ∧
 Reads Proofs.Try.prog [] (Instr.loadAt 59 (Value.pointer (some ad323))) w329
 (Value.agg
 #[Value.int IntKind.i64 x324, Value.int IntKind.i64 x325, Value.int IntKind.i64 x326]) ∧
 Calls Proofs.Try.prog 47
 #[Value.agg
 #[Value.int IntKind.i64 x324, Value.int IntKind.i64 x325, Value.int IntKind.i64 x326]]
 w329 fun (e332 : Ending) (w333 : World) =>
 ∃ (x334 : Int),
 ∃ (x335 : Int),
 e332 =
 Ending.returned
 (Value.agg #[Value.int IntKind.i64 x334, Value.int IntKind.i64 x335]) ∧
 Calls Proofs.Try.prog 49
 #[Value.agg #[Value.int IntKind.i64 x330, Value.int IntKind.i64 x331],
 Value.agg #[Value.int IntKind.i64 x334, Value.int IntKind.i64 x335]]
 w333 fun (e336 : Ending) (w337 : World) =>
 ∃ (x338 : Int),
 e336 = Ending.returned (Value.int IntKind.i64 x338) ∧
 (decide (x338 > 0) = true →
 ∃ (ad339 : Addr),
 Gives Proofs.Try.prog
 (Instr.indexAt 55 (Value.slice a12 n13 n14) (Value.int IntKind.i64 0))
 (Value.pointer (some ad339)) ∧
 ∃ (x340 : Int),
 ∃ (x341 : Int),
 ∃ (x342 : Int),
 Reads Proofs.Try.prog []
 (Instr.loadAt 59 (Value.pointer (some ad339))) w337
 (Value.agg
 #[Value.int IntKind.i64 x340, Value.int IntKind.i64 x341,
 Value.int IntKind.i64 x342]) ∧
 ∃ (a343 : Option Addr),
 ∃ (n344 : Nat),
 ∃ (n345 : Nat),
 Gives Proofs.Try.prog
 (Instr.sliceAt 55 (Value.slice a12 n13 n14)
 (some (Value.int IntKind.i64 1)) none none)
 (Value.slice a343 n344 n345) ∧
 ∀ (w346 : World),
 Below w337.heap.size w337 w346 →
 OpW Proofs.Try.prog
 (valueS
 (Instr.buildSlice 55 1
 #[(0,
 Value.agg
 #[Value.int IntKind.i64 x340,
 Value.int IntKind.i64 x341,
 Value.int IntKind.i64 x342])]))
 w346 fun (v347 : Value) (w348 : World) =>
 ∃ (a349 : Option Addr),
 ∃ (n350 : Nat),
 ∃ (n351 : Nat),
 v347 = Value.slice a349 n350 n351 ∧
 OpW Proofs.Try.prog
 (builtin Builtin.append #[55, 55] 55
 #[false, false]
 #[Value.slice a15 n16 n17,
 Value.slice a349 n350 n351])
 w348 fun (v352 : Value) (w353 : World) =>
 ∃ (a354 : Option Addr),
 ∃ (n355 : Nat),
 ∃ (n356 : Nat),
 v352 = Value.slice a354 n355 n356 ∧
 J7
 ((a9, n10, n11),
 (a343, n344, n345),
 (a354, n355, n356), ())
 w353 ∧
 J8
 ((a9, n10, n11),
 (a343, n344, n345),
 (a354, n355, n356), ())
 w353 <
 J8
 ((a9, n10, n11),
 (a12, n13, n14),
 (a15, n16, n17), ())
 w18) ∧
 (decide (x338 > 0) = false →
 ∃ (ad357 : Addr),
 Gives Proofs.Try.prog
 (Instr.indexAt 55 (Value.slice a9 n10 n11) (Value.int IntKind.i64 0))
 (Value.pointer (some ad357)) ∧
 ∃ (x358 : Int),
 ∃ (x359 : Int),
 ∃ (x360 : Int),
 Reads Proofs.Try.prog []
 (Instr.loadAt 59 (Value.pointer (some ad357))) w337
 (Value.agg
 #[Value.int IntKind.i64 x358, Value.int IntKind.i64 x359,
 Value.int IntKind.i64 x360]) ∧
 ∀ (n361 : Nat),
 w337.heap.size ≤ n361 →
 ∃ (ad362 : Addr),
 Gives Proofs.Try.prog
 (Instr.indexAt 55 (Value.slice a12 n13 n14)
 (Value.int IntKind.i64 0))
 (Value.pointer (some ad362)) ∧
 ∃ (x363 : Int),
 Reads Proofs.Try.prog [n361]
 (Instr.loadAt 2
 (Value.pointer
 (some
 (Addr.mk ad362.block (ad362.off + 2) none))))
 w337 (Value.int IntKind.i64 x363) ∧
 ∀ (w364 : World),
 Evo [n361] w337 w364 →
 Under [n361] w364 →
 Calls Proofs.Try.prog 50
 #[Value.int IntKind.i64 x360,
 Value.int IntKind.i64 x363,
 Value.int IntKind.i64 9007199254740992]
 w364 fun (e365 : Ending) (w366 : World) =>
 ∃ (x367 : Int),
 ∃ (b368 : Bool),
 e365 =
 Ending.returned
 (Value.tuple
 #[Value.int IntKind.i64 x367,
 Value.bool b368]) ∧
 Keeps [n361] w364 w366 ∧
 ((!b368) = true →
 R
 (Ending.returned
 (Value.tuple
 #[Value.slice none 0 0,
 Value.bool false]))
 w366) ∧
 ((!b368) = false →
 ∃ (a369 : Option Addr),
 ∃ (n370 : Nat),
 ∃ (n371 : Nat),
 Gives Proofs.Try.prog
 (Instr.sliceAt 55
 (Value.slice a9 n10
 n11)
 (some
 (Value.int
 IntKind.i64 1))
 none none)
 (Value.slice a369 n370
 n371) ∧
 ∃ (a372 : Option Addr),
 ∃ (n373 : Nat),
 ∃ (n374 : Nat),
 Gives
 Proofs.Try.prog
 (Instr.sliceAt
 55
 (Value.slice
 a12 n13 n14)
 (some
 (Value.int
 IntKind.i64
 1))
 none none)
 (Value.slice
 a372 n373
 n374) ∧
 ∀ (w375 : World),
 Evo [n361] w366
 w375 →
 Under [n361]
 w375 →
 OpW
 Proofs.Try.prog
 (valueS
 (Instr.buildSlice
 55 1
 #[(0,
 Value.agg
 #[Value.int
 IntKind.i64
 x358,
 Value.int
 IntKind.i64
 x359,
 Value.int
 IntKind.i64
 x367])]))
 w375
 fun
 (v376 :
 Value)
 (w377 :
 World) =>
 ∃ (a378 :
 Option
 Addr),
 ∃ (n379
 :
 Nat),
 ∃
 (n380
 :
 Nat),
 v376 =
 Value.slice
 a378
 n379
 n380 ∧
 Keeps
 [n361]
 w375
 w377 ∧
 OpW
 Proofs.Try.prog
 (builtin
 Builtin.append
 #[55,
 55]
 55
 #[false,
 false]
 #[Value.slice
 a15
 n16
 n17,
 Value.slice
 a378
 n379
 n380])
 w377
 fun
 (v381 :
 Value)
 (w382 :
 World) =>
 ∃
 (a383
 :
 Option
 Addr),
 ∃
 (n384
 :
 Nat),
 ∃
 (n385
 :
 Nat),
 v381 =
 Value.slice
 a383
 n384
 n385 ∧
 Keeps
 [n361]
 w377
 w382 ∧
 J7
 ((a369,
 n370,
 n371),
 (a372,
 n373,
 n374),
 (a383,
 n384,
 n385),
 ())
 w382 ∧
 J8
 ((a369,
 n370,
 n371),
 (a372,
 n373,
 n374),
 (a383,
 n384,
 n385),
 ())
 w382 <
 J8
 ((a9,
 n10,
 n11),
 (a12,
 n13,
 n14),
 (a15,
 n16,
 n17),
 ())
 w18))))) ∧
 (decide ((↑n10 : Int) > 0) = false →
 (((↑n10 : Int) == 0) = true →
 ∃ (ad386 : Addr),
 Gives Proofs.Try.prog (Instr.indexAt 55 (Value.slice a12 n13 n14) (Value.int IntKind.i64 0)) (Value.pointer (some ad386)) ∧
 ∃ (x387 : Int),
 ∃ (x388 : Int),
 ∃ (x389 : Int),
 Reads Proofs.Try.prog [] (Instr.loadAt 59 (Value.pointer (some ad386))) w18 (Value.agg #[Value.int IntKind.i64 x387, Value.int IntKind.i64 x388, Value.int IntKind.i64 x389]) ∧
 ∃ (a390 : Option Addr),
 ∃ (n391 : Nat),
 ∃ (n392 : Nat),
 Gives Proofs.Try.prog (Instr.sliceAt 55 (Value.slice a12 n13 n14) (some (Value.int IntKind.i64 1)) none none) (Value.slice a390 n391 n392) ∧
 ∀ (w393 : World),
 Below w18.heap.size w18 w393 →
 OpW Proofs.Try.prog (valueS (Instr.buildSlice 55 1 #[(0, Value.agg #[Value.int IntKind.i64 x387, Value.int IntKind.i64 x388, Value.int IntKind.i64 x389])])) w393
 fun (v394 : Value) (w395 : World) =>
 ∃ (a396 : Option Addr),
 ∃ (n397 : Nat),
 ∃ (n398 : Nat),
 v394 = Value.slice a396 n397 n398 ∧
 OpW Proofs.Try.prog (builtin Builtin.append #[55, 55] 55 #[false, false] #[Value.slice a15 n16 n17, Value.slice a396 n397 n398]) w395
 fun (v399 : Value) (w400 : World) =>
 ∃ (a401 : Option Addr),
 ∃ (n402 : Nat),
 ∃ (n403 : Nat),
 v399 = Value.slice a401 n402 n403 ∧
 J7 ((a9, n10, n11), (a390, n391, n392), (a401, n402, n403), ()) w400 ∧
 J8 ((a9, n10, n11), (a390, n391, n392), (a401, n402, n403), ()) w400 < J8 ((a9, n10, n11), (a12, n13, n14), (a15, n16, n17), ()) w18) ∧
 (((↑n10 : Int) == 0) = false →
 ∃ (ad404 : Addr),
 Gives Proofs.Try.prog (Instr.indexAt 55 (Value.slice a9 n10 n11) (Value.int IntKind.i64 0)) (Value.pointer (some ad404)) ∧
 ∃ (x405 : Int),
 ∃ (x406 : Int),
 ∃ (x407 : Int),
 Reads Proofs.Try.prog [] (Instr.loadAt 59 (Value.pointer (some ad404))) w18 (Value.agg #[Value.int IntKind.i64 x405, Value.int IntKind.i64 x406, Value.int IntKind.i64 x407]) ∧
 ∃ (ad408 : Addr),
 Gives Proofs.Try.prog (Instr.indexAt 55 (Value.slice a12 n13 n14) (Value.int IntKind.i64 0)) (Value.pointer (some ad408)) ∧
 ∃ (x409 : Int),
 ∃ (x410 : Int),
 ∃ (x411 : Int),
 Reads Proofs.Try.prog [] (Instr.loadAt 59 (Value.pointer (some ad408))) w18
 (Value.agg #[Value.int IntKind.i64 x409, Value.int IntKind.i64 x410, Value.int IntKind.i64 x411]) ∧
 ∀ (w412 : World),
 Below w18.heap.size w18 w412 →
 Calls Proofs.Try.prog 47 #[Value.agg #[Value.int IntKind.i64 x405, Value.int IntKind.i64 x406, Value.int IntKind.i64 x407]] w412
 fun (e413 : Ending) (w414 : World) =>
 ∃ (x415 : Int),
 ∃ (x416 : Int),
 e413 = Ending.returned (Value.agg #[Value.int IntKind.i64 x415, Value.int IntKind.i64 x416]) ∧
 Reads Proofs.Try.prog [] (Instr.loadAt 59 (Value.pointer (some ad408))) w414
 (Value.agg #[Value.int IntKind.i64 x409, Value.int IntKind.i64 x410, Value.int IntKind.i64 x411]) ∧
 Calls Proofs.Try.prog 47 #[Value.agg #[Value.int IntKind.i64 x409, Value.int IntKind.i64 x410, Value.int IntKind.i64 x411]] w414
 fun (e417 : Ending) (w418 : World) =>
 ∃ (x419 : Int),
 ∃ (x420 : Int),
 e417 = Ending.returned (Value.agg #[Value.int IntKind.i64 x419, Value.int IntKind.i64 x420]) ∧
 Calls Proofs.Try.prog 49
 #[Value.agg #[Value.int IntKind.i64 x415, Value.int IntKind.i64 x416], Value.agg #[Value.int IntKind.i64 x419, Value.int IntKind.i64 x420]]
 w418 fun (e421 : Ending) (w422 : World) =>
 ∃ (x423 : Int),
 e421 = Ending.returned (Value.int IntKind.i64 x423) ∧
 (decide (x423 > 0) = true →
 ∃ (ad424 : Addr),
 Gives Proofs.Try.prog (Instr.indexAt 55 (Value.slice a12 n13 n14) (Value.int IntKind.i64 0)) (Value.pointer (some ad424)) ∧
 ∃ (x425 : Int),
 ∃ (x426 : Int),
 ∃ (x427 : Int),
 Reads Proofs.Try.prog [] (Instr.loadAt 59 (Value.pointer (some ad424))) w422
 (Value.agg #[Value.int IntKind.i64 x425, Value.int IntKind.i64 x426, Value.int IntKind.i64 x427]) ∧
 ∃ (a428 : Option Addr),
 ∃ (n429 : Nat),
 ∃ (n430 : Nat),
 Gives Proofs.Try.prog (Instr.sliceAt 55 (Value.slice a12 n13 n14) (some (Value.int IntKind.i64 1)) none none)
 (Value.slice a428 n429 n430) ∧
 ∀ (w431 : World),
 Below w422.heap.size w422 w431 →
 OpW Proofs.Try.prog
 (valueS
 (Instr.buildSlice 55 1
 #[(0,
 Value.agg #[Value.int IntKind.i64 x425, Value.int IntKind.i64 x426, Value.int IntKind.i64 x427])]))
 w431 fun (v432 : Value) (w433 : World) =>
 ∃ (a434 : Option Addr),
 ∃ (n435 : Nat),
 ∃ (n436 : Nat),
 v432 = Value.slice a434 n435 n436 ∧
 OpW Proofs.Try.prog
 (builtin Builtin.append #[55, 55] 55 #[false, false]
 #[Value.slice a15 n16 n17, Value.slice a434 n435 n436])
 w433 fun (v437 : Value) (w438 : World) =>
 ∃ (a439 : Option Addr),
 ∃ (n440 : Nat),
 ∃ (n441 : Nat),
 v437 = Value.slice a439 n440 n441 ∧
 J7 ((a9, n10, n11), (a428, n429, n430), (a439, n440, n441), ()) w438 ∧
 J8 ((a9, n10, n11), (a428, n429, n430), (a439, n440, n441), ()) w438 <
 J8 ((a9, n10, n11), (a12, n13, n14), (a15, n16, n17), ()) w18) ∧
 (decide (x423 > 0) = false →
 ∃ (ad442 : Addr),
 Gives Proofs.Try.prog (Instr.indexAt 55 (Value.slice a9 n10 n11) (Value.int IntKind.i64 0)) (Value.pointer (some ad442)) ∧
 ∃ (x443 : Int),
 ∃ (x444 : Int),
 ∃ (x445 : Int),
 Reads Proofs.Try.prog [] (Instr.loadAt 59 (Value.pointer (some ad442))) w422
 (Value.agg #[Value.int IntKind.i64 x443, Value.int IntKind.i64 x444, Value.int IntKind.i64 x445]) ∧
 ∀ (n446 : Nat),
 w422.heap.size ≤ n446 →
 ∃ (ad447 : Addr),
 Gives Proofs.Try.prog (Instr.indexAt 55 (Value.slice a12 n13 n14) (Value.int IntKind.i64 0))
 (Value.pointer (some ad447)) ∧
 ∃ (x448 : Int),
 Reads Proofs.Try.prog [n446] (Instr.loadAt 2 (Value.pointer (some (Addr.mk ad447.block (ad447.off + 2) none))))
 w422 (Value.int IntKind.i64 x448) ∧
 ∀ (w449 : World),
 Evo [n446] w422 w449 →
 Under [n446] w449 →
 Calls Proofs.Try.prog 50
 #[Value.int IntKind.i64 x445, Value.int IntKind.i64 x448, Value.int IntKind.i64 9007199254740992] w449
 fun (e450 : Ending) (w451 : World) =>
 ∃ (x452 : Int),
 ∃ (b453 : Bool),
 e450 = Ending.returned (Value.tuple #[Value.int IntKind.i64 x452, Value.bool b453]) ∧
 Keeps [n446] w449 w451 ∧
 ((!b453) = true →
 R (Ending.returned (Value.tuple #[Value.slice none 0 0, Value.bool false])) w451) ∧
 ((!b453) = false →
 ∃ (a454 : Option Addr),
 ∃ (n455 : Nat),
 ∃ (n456 : Nat),
 Gives Proofs.Try.prog
 (Instr.sliceAt 55 (Value.slice a9 n10 n11) (some (Value.int IntKind.i64 1)) none
 none)
 (Value.slice a454 n455 n456) ∧
 ∃ (a457 : Option Addr),
 ∃ (n458 : Nat),
 ∃ (n459 : Nat),
 Gives Proofs.Try.prog
 (Instr.sliceAt 55 (Value.slice a12 n13 n14)
 (some (Value.int IntKind.i64 1)) none none)
 (Value.slice a457 n458 n459) ∧
 ∀ (w460 : World),
 Evo [n446] w451 w460 →
 Under [n446] w460 →
 OpW Proofs.Try.prog
 (valueS
 (Instr.buildSlice 55 1
 #[(0,
 Value.agg
 #[Value.int IntKind.i64 x443,
 Value.int IntKind.i64 x444,
 Value.int IntKind.i64 x452])]))
 w460 fun (v461 : Value) (w462 : World) =>
 ∃ (a463 : Option Addr),
 ∃ (n464 : Nat),
 ∃ (n465 : Nat),
 v461 = Value.slice a463 n464 n465 ∧
 Keeps [n446] w460 w462 ∧
 OpW Proofs.Try.prog
 (builtin Builtin.append #[55, 55] 55 #[false, false]
 #[Value.slice a15 n16 n17,
 Value.slice a463 n464 n465])
 w462 fun (v466 : Value) (w467 : World) =>
 ∃ (a468 : Option Addr),
 ∃ (n469 : Nat),
 ∃ (n470 : Nat),
 v466 = Value.slice a468 n469 n470 ∧
 Keeps [n446] w462 w467 ∧
 J7
 ((a454, n455, n456), (a457, n458, n459),
 (a468, n469, n470), ())
 w467 ∧
 J8
 ((a454, n455, n456),
 (a457, n458, n459),
 (a468, n469, n470), ())
 w467 <
 J8
 ((a9, n10, n11), (a12, n13, n14),
 (a15, n16, n17), ())
 w18)))))) ∧
 (decide ((↑n13 : Int) > 0) = false → R (Ending.returned (Value.tuple #[Value.slice a15 n16 n17, Value.bool true])) w18))))
theorem f35_eq (aa : Option Addr) (an : Nat) (ac : Nat) (ba : Option Addr) (bn : Nat) (bc : Nat) (w : World) (R : Ending → World → Prop) : (fnF Go.Proofs.Try.prog h35 Go.Proofs.Try.f35 [Value.slice aa an ac, Value.slice ba bn bc] w R).den = f35_vc aa an ac ba bn bc w R := by kernel_rfl
theorem f35_calls (aa : Option Addr) (an : Nat) (ac : Nat) (ba : Option Addr) (bn : Nat) (bc : Nat) (w : World) (R : Ending → World → Prop) (h : f35_vc aa an ac ba bn bc w R) : Calls Go.Proofs.Try.prog 35 (List.toArray [Value.slice aa an ac, Value.slice ba bn bc]) w R :=
 fn_sound (H := h35) (fn := Go.Proofs.Try.f35) (by kernel_rfl) (by kernel_rfl) (by kernel_rfl) ((f35_eq aa an ac ba bn bc w R).mpr h)


/-! manciple/slot.Right -/
def h46 : Hints := ⟨[1], [], [6, 11, 16], [], [], [], [], [], []⟩
def f46_vc (s_0 : Int) (s_1 : Int) (w : World) (R : Ending → World → Prop) : Prop :=
 ∀ (n1 : Nat),
 w.heap.size ≤ n1 →
 (decide (s_0 ≥ 0) = true →
 (decide (s_0 < 4) = true →
 (decide (s_1 ≥ 0) = true → ∀ (w2 : World), Below w.heap.size w w2 → Under [n1] w2 → R (Ending.returned (Value.bool (decide (s_1 ≤ 32)))) w2) ∧
 (decide (s_1 ≥ 0) = false → ∀ (w3 : World), Below w.heap.size w w3 → Under [n1] w3 → R (Ending.returned (Value.bool false)) w3)) ∧
 (decide (s_0 < 4) = false → ∀ (w4 : World), Below w.heap.size w w4 → Under [n1] w4 → R (Ending.returned (Value.bool false)) w4)) ∧
 (decide (s_0 ≥ 0) = false → ∀ (w5 : World), Below w.heap.size w w5 → Under [n1] w5 → R (Ending.returned (Value.bool false)) w5)
theorem f46_eq (s_0 : Int) (s_1 : Int) (w : World) (R : Ending → World → Prop) : (fnF Go.Proofs.Try.prog h46 Go.Proofs.Try.f46 [Value.agg #[Value.int IntKind.i64 s_0, Value.int IntKind.i64 s_1]] w R).den = f46_vc s_0 s_1 w R := by kernel_rfl
theorem f46_calls (s_0 : Int) (s_1 : Int) (w : World) (R : Ending → World → Prop) (h : f46_vc s_0 s_1 w R) : Calls Go.Proofs.Try.prog 46 (List.toArray [Value.agg #[Value.int IntKind.i64 s_0, Value.int IntKind.i64 s_1]]) w R :=
 fn_sound (H := h46) (fn := Go.Proofs.Try.f46) (by kernel_rfl) (by kernel_rfl) (by kernel_rfl) ((f46_eq s_0 s_1 w R).mpr h)


/-! manciple/vec.of -/
def h47 : Hints := ⟨[1, 2], [], [], [], [], [], [], [], []⟩
def f47_vc (p_0 : Int) (p_1 : Int) (p_2 : Int) (w : World) (R : Ending → World → Prop) : Prop :=
 ∀ (n1 : Nat), w.heap.size ≤ n1 → ∀ (n2 : Nat), w.heap.size ≤ n2 → ∀ (w3 : World), Evo [n2] w w3 → Under [n1, n2] w3 → R (Ending.returned (Value.agg #[Value.int IntKind.i64 p_0, Value.int IntKind.i64 p_1])) w3
theorem f47_eq (p_0 : Int) (p_1 : Int) (p_2 : Int) (w : World) (R : Ending → World → Prop) : (fnF Go.Proofs.Try.prog h47 Go.Proofs.Try.f47 [Value.agg #[Value.int IntKind.i64 p_0, Value.int IntKind.i64 p_1, Value.int IntKind.i64 p_2]] w R).den = f47_vc p_0 p_1 p_2 w R := by kernel_rfl
theorem f47_calls (p_0 : Int) (p_1 : Int) (p_2 : Int) (w : World) (R : Ending → World → Prop) (h : f47_vc p_0 p_1 p_2 w R) : Calls Go.Proofs.Try.prog 47 (List.toArray [Value.agg #[Value.int IntKind.i64 p_0, Value.int IntKind.i64 p_1, Value.int IntKind.i64 p_2]]) w R :=
 fn_sound (H := h47) (fn := Go.Proofs.Try.f47) (by kernel_rfl) (by kernel_rfl) (by kernel_rfl) ((f47_eq p_0 p_1 p_2 w R).mpr h)


/-! manciple/quant.Right -/
def h48 : Hints := ⟨[], [], [5], [], [], [], [], [], []⟩
def f48_vc (n : Int) (w : World) (R : Ending → World → Prop) : Prop :=
 (decide (n ≥ 0) = true → R (Ending.returned (Value.bool (decide (n ≤ 9007199254740992)))) w) ∧ (decide (n ≥ 0) = false → R (Ending.returned (Value.bool false)) w)
theorem f48_eq (n : Int) (w : World) (R : Ending → World → Prop) : (fnF Go.Proofs.Try.prog h48 Go.Proofs.Try.f48 [Value.int IntKind.i64 n] w R).den = f48_vc n w R := by kernel_rfl
theorem f48_calls (n : Int) (w : World) (R : Ending → World → Prop) (h : f48_vc n w R) : Calls Go.Proofs.Try.prog 48 (List.toArray [Value.int IntKind.i64 n]) w R :=
 fn_sound (H := h48) (fn := Go.Proofs.Try.f48) (by kernel_rfl) (by kernel_rfl) (by kernel_rfl) ((f48_eq n w R).mpr h)


/-! manciple/slot.Cmp -/
def h49 : Hints := ⟨[2, 3], [], [5, 9, 20], [], [], [], [], [], []⟩
def f49_vc (a_0 : Int) (a_1 : Int) (b_0 : Int) (b_1 : Int) (w : World) (R : Ending → World → Prop) : Prop :=
 ∀ (n1 : Nat),
 w.heap.size ≤ n1 →
 ∀ (n2 : Nat),
 w.heap.size ≤ n2 →
 ((a_0 == b_0 && (a_1 == b_1 && true)) = true → ∀ (w3 : World), Below w.heap.size w w3 → Under [n1, n2] w3 → R (Ending.returned (Value.int IntKind.i64 0)) w3) ∧
 ((a_0 == b_0 && (a_1 == b_1 && true)) = false →
 (decide (a_0 < b_0) = true → ∀ (w4 : World), Below w.heap.size w w4 → Under [n1, n2] w4 → R (Ending.returned (Value.int IntKind.i64 (-1))) w4) ∧
 (decide (a_0 < b_0) = false →
 ((a_0 == b_0) = true →
 (decide (a_1 < b_1) = true → ∀ (w5 : World), Below w.heap.size w w5 → Under [n1, n2] w5 → R (Ending.returned (Value.int IntKind.i64 (-1))) w5) ∧
 (decide (a_1 < b_1) = false → ∀ (w6 : World), Below w.heap.size w w6 → Under [n1, n2] w6 → R (Ending.returned (Value.int IntKind.i64 1)) w6)) ∧
 ((a_0 == b_0) = false → ∀ (w7 : World), Below w.heap.size w w7 → Under [n1, n2] w7 → R (Ending.returned (Value.int IntKind.i64 1)) w7)))
theorem f49_eq (a_0 : Int) (a_1 : Int) (b_0 : Int) (b_1 : Int) (w : World) (R : Ending → World → Prop) : (fnF Go.Proofs.Try.prog h49 Go.Proofs.Try.f49 [Value.agg #[Value.int IntKind.i64 a_0, Value.int IntKind.i64 a_1], Value.agg #[Value.int IntKind.i64 b_0, Value.int IntKind.i64 b_1]] w R).den = f49_vc a_0 a_1 b_0 b_1 w R := by kernel_rfl
theorem f49_calls (a_0 : Int) (a_1 : Int) (b_0 : Int) (b_1 : Int) (w : World) (R : Ending → World → Prop) (h : f49_vc a_0 a_1 b_0 b_1 w R) : Calls Go.Proofs.Try.prog 49 (List.toArray [Value.agg #[Value.int IntKind.i64 a_0, Value.int IntKind.i64 a_1], Value.agg #[Value.int IntKind.i64 b_0, Value.int IntKind.i64 b_1]]) w R :=
 fn_sound (H := h49) (fn := Go.Proofs.Try.f49) (by kernel_rfl) (by kernel_rfl) (by kernel_rfl) ((f49_eq a_0 a_1 b_0 b_1 w R).mpr h)


/-! manciple/quant.Add -/
def h50 : Hints := ⟨[], [], [], [], [], [], [], [], []⟩
def f50_vc (a : Int) (b : Int) (most : Int) (w : World) (R : Ending → World → Prop) : Prop :=
 OpW Proofs.Try.prog (valueS (Instr.buildSlice 87 2 #[(0, Value.int IntKind.i64 a), (1, Value.int IntKind.i64 b)])) w fun (v1 : Value) (w2 : World) =>
 ∃ (a3 : Option Addr),
 ∃ (n4 : Nat),
 ∃ (n5 : Nat),
 v1 = Value.slice a3 n4 n5 ∧
 Calls Proofs.Try.prog 53 #[Value.int IntKind.i64 most, Value.slice a3 n4 n5] w2 fun (e6 : Ending) (w7 : World) =>
 ∃ (x8 : Int), ∃ (b9 : Bool), e6 = Ending.returned (Value.tuple #[Value.int IntKind.i64 x8, Value.bool b9]) ∧ R (Ending.returned (Value.tuple #[Value.int IntKind.i64 x8, Value.bool b9])) w7
theorem f50_eq (a : Int) (b : Int) (most : Int) (w : World) (R : Ending → World → Prop) : (fnF Go.Proofs.Try.prog h50 Go.Proofs.Try.f50 [Value.int IntKind.i64 a, Value.int IntKind.i64 b, Value.int IntKind.i64 most] w R).den = f50_vc a b most w R := by kernel_rfl
theorem f50_calls (a : Int) (b : Int) (most : Int) (w : World) (R : Ending → World → Prop) (h : f50_vc a b most w R) : Calls Go.Proofs.Try.prog 50 (List.toArray [Value.int IntKind.i64 a, Value.int IntKind.i64 b, Value.int IntKind.i64 most]) w R :=
 fn_sound (H := h50) (fn := Go.Proofs.Try.f50) (by kernel_rfl) (by kernel_rfl) (by kernel_rfl) ((f50_eq a b most w R).mpr h)


/-! manciple/quant.Sum -/
def h53 : Hints := ⟨[], [15], [10, 14, 25, 19], [], [], [(5, ⟨[(6, .int .i64), (13, .int .i64)], []⟩)], [], [], []⟩
def f53_vc (most : Int) (la : Option Addr) (ln : Nat) (lc : Nat) (w : World) (R : Ending → World → Prop) : Prop :=
 (decide (most < 0) = true → R (Ending.returned (Value.tuple #[Value.int IntKind.i64 0, Value.bool false])) w) ∧
 (decide (most < 0) = false →
 ∃ (J1 : Int × Int × Unit → World → Prop),
 ∃ (J2 : Int × Int × Unit → World → Nat),
 J1 (0, 0, ()) w ∧
 ∀ (x3 x4 : Int) (w5 : World),
 J1 (x3, x4, ()) w5 →
 (decide (x4 < (↑ln : Int)) = true →
 ∃ (ad6 : Addr),
 Gives Proofs.Try.prog (Instr.indexAt 87 (Value.slice la ln lc) (Value.int IntKind.i64 x4)) (Value.pointer (some ad6)) ∧
 ∃ (x7 : Int),
 Reads Proofs.Try.prog [] (Instr.loadAt 2 (Value.pointer (some ad6))) w5 (Value.int IntKind.i64 x7) ∧
 (decide (x7 < 0) = true → R (Ending.returned (Value.tuple #[Value.int IntKind.i64 0, Value.bool false])) w5) ∧
 (decide (x7 < 0) = false →
 (decide (x7 > IntKind.i64.wrap (most - x3)) = true → R (Ending.returned (Value.tuple #[Value.int IntKind.i64 0, Value.bool false])) w5) ∧
 (decide (x7 > IntKind.i64.wrap (most - x3)) = false →
 J1 (IntKind.i64.wrap (x3 + x7), IntKind.i64.wrap (x4 + 1), ()) w5 ∧ J2 (IntKind.i64.wrap (x3 + x7), IntKind.i64.wrap (x4 + 1), ()) w5 < J2 (x3, x4, ()) w5))) ∧
 (decide (x4 < (↑ln : Int)) = false → R (Ending.returned (Value.tuple #[Value.int IntKind.i64 x3, Value.bool true])) w5))
theorem f53_eq (most : Int) (la : Option Addr) (ln : Nat) (lc : Nat) (w : World) (R : Ending → World → Prop) : (fnF Go.Proofs.Try.prog h53 Go.Proofs.Try.f53 [Value.int IntKind.i64 most, Value.slice la ln lc] w R).den = f53_vc most la ln lc w R := by kernel_rfl
theorem f53_calls (most : Int) (la : Option Addr) (ln : Nat) (lc : Nat) (w : World) (R : Ending → World → Prop) (h : f53_vc most la ln lc w R) : Calls Go.Proofs.Try.prog 53 (List.toArray [Value.int IntKind.i64 most, Value.slice la ln lc]) w R :=
 fn_sound (H := h53) (fn := Go.Proofs.Try.f53) (by kernel_rfl) (by kernel_rfl) (by kernel_rfl) ((f53_eq most la ln lc w R).mpr h)

end Vcb
