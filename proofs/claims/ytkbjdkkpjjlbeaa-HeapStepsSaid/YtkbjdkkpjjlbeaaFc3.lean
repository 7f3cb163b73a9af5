/- The formulas of functions, printed by a program (VcTool.lean): each is what the generator's formula comes to, by the kernel's reckoning; whoever proves one has the function's contract. -/
import Derived.Test.YtkbjdkkpjjlbeaaVcFn
import Derived.Test.YtkbjdkkpjjlbeaaProg
set_option maxRecDepth 100000
set_option maxHeartbeats 1000000
set_option linter.unusedVariables false
namespace Vcc
open Go Go.Vc Go.RowKit
/-! manciple/manciplelaw11.HeapSorts -/
def h3 : Hints := ⟨[], [39, 43, 84, 90, 121, 125], [28, 33, 52, 75, 79, 87, 101, 109, 114, 129, 22, 61, 65, 69, 96, 118, 135], [(7, [0, 1, 2, 3, 4, 5, 6, 7, 8, 9]), (33, [0, 1, 2, 3, 4, 5, 6, 7, 8, 9, 10, 11, 12])], [], [(5, ⟨[(6, .int .i64)], []⟩), (11, ⟨[(7, .int .i64), (8, .int .i64), (9, .int .i64), (10, .int .i64), (11, .int .i64), (12, .bool)], []⟩), (17, ⟨[(13, .bool), (14, .int .i64)], []⟩), (27, ⟨[(15, .int .i64), (16, .int .i64)], []⟩), (31, ⟨[(17, .bool), (18, .int .i64)], []⟩)], [(14, ⟨[(75, .bool)], []⟩), (22, ⟨[(101, .bool)], []⟩)], [], []⟩
def f3_vc (keysa : Option Addr) (keysn : Nat) (keysc : Nat) (timesa : Option Addr) (timesn : Nat) (timesc : Nat) (w : World) (R : Ending → World → Prop) : Prop :=
 (decide ((↑keysn : Int) > 300) = true → R (Ending.returned (Value.bool true)) w) ∧
 (decide ((↑keysn : Int) > 300) = false →
 (decide ((↑timesn : Int) < (↑keysn : Int)) = true → R (Ending.returned (Value.bool true)) w) ∧
 (decide ((↑timesn : Int) < (↑keysn : Int)) = false →
 Calls Proofs.Try.prog 9 #[] w fun (e1 : Ending) (w2 : World) =>
 ∃ (a3 : Option Addr),
 e1 = Ending.returned (Value.pointer a3) ∧
 ∃ (J4 : Int × Unit → World → Prop),
 ∃ (J5 : Int × Unit → World → Nat),
 J4 (0, ()) w2 ∧
 ∀ (x6 : Int) (w7 : World),
 J4 (x6, ()) w7 →
 (decide (x6 < (↑keysn : Int)) = true →
 ∃ (ad8 : Addr),
 Gives Proofs.Try.prog (Instr.indexAt 22 (Value.slice keysa keysn keysc) (Value.int IntKind.i64 x6)) (Value.pointer (some ad8)) ∧
 ∃ (x9 : Int),
 Reads Proofs.Try.prog [] (Instr.loadAt 2 (Value.pointer (some ad8))) w7 (Value.int IntKind.i64 x9) ∧
 ∃ (ad10 : Addr),
 Gives Proofs.Try.prog (Instr.indexAt 22 (Value.slice timesa timesn timesc) (Value.int IntKind.i64 x6)) (Value.pointer (some ad10)) ∧
 ∃ (x11 : Int),
 Reads Proofs.Try.prog [] (Instr.loadAt 2 (Value.pointer (some ad10))) w7 (Value.int IntKind.i64 x11) ∧
 ∀ (w12 : World),
 Bel w7 w12 →
 Calls Proofs.Try.prog 10 #[Value.pointer a3, Value.int IntKind.i64 x9, Value.int IntKind.i64 x11] w12 fun (e13 : Ending) (w14 : World) =>
 ∃ (b15 : Bool), e13 = Ending.returned (Value.bool b15) ∧ J4 (IntKind.i64.wrap (x6 + 1), ()) w14 ∧ J5 (IntKind.i64.wrap (x6 + 1), ()) w14 < J5 (x6, ()) w7) ∧
 (decide (x6 < (↑keysn : Int)) = false →
 Calls Proofs.Try.prog 11 #[Value.pointer a3] w7 fun (e16 : Ending) (w17 : World) =>
 ∃ (x18 : Int),
 ∃ (x19 : Int),
 ∃ (b20 : Bool),
 e16 = Ending.returned (Value.tuple #[Value.int IntKind.i64 x18, Value.int IntKind.i64 x19, Value.bool b20]) ∧
 ∃ (J21 : Int × Int × Int × Int × Int × Bool × Unit → World → Prop),
 ∃ (J22 : Int × Int × Int × Int × Int × Bool × Unit → World → Nat),
 J21 (0, 0, 0, x18, x19, b20, ()) w17 ∧
 ∀ (x23 x24 x25 x26 x27 : Int) (b28 : Bool) (w29 : World),
 J21 (x23, x24, x25, x26, x27, b28, ()) w29 →
 (b28 = true →
 ∃ (J30 : Bool × Unit → World → Prop),
 ((decide (x25 > 0) = true →
 (decide (x27 < x24) = true → J30 (true, ()) w29) ∧
 (decide (x27 < x24) = false → ((x27 == x24) = true → J30 (decide (x26 ≤ x23), ()) w29) ∧ ((x27 == x24) = false → J30 (false, ()) w29))) ∧
 (decide (x25 > 0) = false → J30 (false, ()) w29)) ∧
 ∀ (b31 : Bool) (w32 : World),
 J30 (b31, ()) w32 →
 (b31 = true → R (Ending.returned (Value.bool false)) w32) ∧
 (b31 = false →
 ∃ (J33 : Bool × Int × Unit → World → Prop),
 ∃ (J34 : Bool × Int × Unit → World → Nat),
 J33 (false, 0, ()) w32 ∧
 ∀ (b35 : Bool) (x36 : Int) (w37 : World),
 J33 (b35, x36, ()) w37 →
 (decide (x36 < (↑keysn : Int)) = true →
 ∃ (ad38 : Addr),
 Gives Proofs.Try.prog (Instr.indexAt 22 (Value.slice keysa keysn keysc) (Value.int IntKind.i64 x36)) (Value.pointer (some ad38)) ∧
 ∃ (x39 : Int),
 Reads Proofs.Try.prog [] (Instr.loadAt 2 (Value.pointer (some ad38))) w37 (Value.int IntKind.i64 x39) ∧
 ((x39 == x26) = true →
 ∃ (ad40 : Addr),
 Gives Proofs.Try.prog (Instr.indexAt 22 (Value.slice timesa timesn timesc) (Value.int IntKind.i64 x36)) (Value.pointer (some ad40)) ∧
 ∃ (x41 : Int),
 Reads Proofs.Try.prog [] (Instr.loadAt 2 (Value.pointer (some ad40))) w37 (Value.int IntKind.i64 x41) ∧
 J33 (x41 == x27, IntKind.i64.wrap (x36 + 1), ()) w37 ∧ J34 (x41 == x27, IntKind.i64.wrap (x36 + 1), ()) w37 < J34 (b35, x36, ()) w37) ∧
 ((x39 == x26) = false → J33 (b35, IntKind.i64.wrap (x36 + 1), ()) w37 ∧ J34 (b35, IntKind.i64.wrap (x36 + 1), ()) w37 < J34 (b35, x36, ()) w37)) ∧
 (decide (x36 < (↑keysn : Int)) = false →
 ∃ (J42 : Bool × Unit → World → Prop),
 (((!b35) = true → J42 (true, ()) w37) ∧ ((!b35) = false → J42 (decide (x25 > (↑keysn : Int)), ()) w37)) ∧
 ∀ (b43 : Bool) (w44 : World),
 J42 (b43, ()) w44 →
 (b43 = true → R (Ending.returned (Value.bool false)) w44) ∧
 (b43 = false →
 Calls Proofs.Try.prog 11 #[Value.pointer a3] w44 fun (e45 : Ending) (w46 : World) =>
 ∃ (x47 : Int),
 ∃ (x48 : Int),
 ∃ (b49 : Bool),
 e45 = Ending.returned (Value.tuple #[Value.int IntKind.i64 x47, Value.int IntKind.i64 x48, Value.bool b49]) ∧
 J21 (x26, x27, IntKind.i64.wrap (x25 + 1), x47, x48, b49, ()) w46 ∧
 J22 (x26, x27, IntKind.i64.wrap (x25 + 1), x47, x48, b49, ()) w46 < J22 (x23, x24, x25, x26, x27, b28, ()) w29)))) ∧
 (b28 = false →
 ∃ (J50 : Int × Int × Unit → World → Prop),
 ∃ (J51 : Int × Int × Unit → World → Nat),
 J50 (0, 0, ()) w29 ∧
 ∀ (x52 x53 : Int) (w54 : World),
 J50 (x52, x53, ()) w54 →
 (decide (x53 < (↑keysn : Int)) = true →
 ∃ (J55 : Bool × Int × Unit → World → Prop),
 ∃ (J56 : Bool × Int × Unit → World → Nat),
 J55 (true, 0, ()) w54 ∧
 ∀ (b57 : Bool) (x58 : Int) (w59 : World),
 J55 (b57, x58, ()) w59 →
 (decide (x58 < x53) = true →
 (b57 = true →
 ∃ (ad60 : Addr),
 Gives Proofs.Try.prog (Instr.indexAt 22 (Value.slice keysa keysn keysc) (Value.int IntKind.i64 x58)) (Value.pointer (some ad60)) ∧
 ∃ (x61 : Int),
 Reads Proofs.Try.prog [] (Instr.loadAt 2 (Value.pointer (some ad60))) w59 (Value.int IntKind.i64 x61) ∧
 ∃ (ad62 : Addr),
 Gives Proofs.Try.prog (Instr.indexAt 22 (Value.slice keysa keysn keysc) (Value.int IntKind.i64 x53)) (Value.pointer (some ad62)) ∧
 ∃ (x63 : Int),
 Reads Proofs.Try.prog [] (Instr.loadAt 2 (Value.pointer (some ad62))) w59 (Value.int IntKind.i64 x63) ∧
 ∀ (w64 : World),
 Bel w59 w64 →
 J55 (x61 != x63, IntKind.i64.wrap (x58 + 1), ()) w64 ∧ J56 (x61 != x63, IntKind.i64.wrap (x58 + 1), ()) w64 < J56 (b57, x58, ()) w59) ∧
 (b57 = false →
 ∀ (w65 : World),
 Bel w59 w65 → J55 (false, IntKind.i64.wrap (x58 + 1), ()) w65 ∧ J56 (false, IntKind.i64.wrap (x58 + 1), ()) w65 < J56 (b57, x58, ()) w59)) ∧
 (decide (x58 < x53) = false →
 (b57 = true →
 J50 (IntKind.i64.wrap (x52 + 1), IntKind.i64.wrap (x53 + 1), ()) w59 ∧
 J51 (IntKind.i64.wrap (x52 + 1), IntKind.i64.wrap (x53 + 1), ()) w59 < J51 (x52, x53, ()) w54) ∧
 (b57 = false → J50 (x52, IntKind.i64.wrap (x53 + 1), ()) w59 ∧ J51 (x52, IntKind.i64.wrap (x53 + 1), ()) w59 < J51 (x52, x53, ()) w54))) ∧
 (decide (x53 < (↑keysn : Int)) = false →
 ((x25 == x52) = true →
 Calls Proofs.Try.prog 12 #[] w54 fun (e66 : Ending) (w67 : World) => ∃ (b68 : Bool), e66 = Ending.returned (Value.bool b68) ∧ R (Ending.returned (Value.bool b68)) w67) ∧
 ((x25 == x52) = false → R (Ending.returned (Value.bool false)) w54))))))
theorem f3_eq (keysa : Option Addr) (keysn : Nat) (keysc : Nat) (timesa : Option Addr) (timesn : Nat) (timesc : Nat) (w : World) (R : Ending → World → Prop) : (fnF Go.Proofs.Try.prog h3 Go.Proofs.Try.f3 [Value.slice keysa keysn keysc, Value.slice timesa timesn timesc] w R).den = f3_vc keysa keysn keysc timesa timesn timesc w R := by kernel_rfl
theorem f3_calls (keysa : Option Addr) (keysn : Nat) (keysc : Nat) (timesa : Option Addr) (timesn : Nat) (timesc : Nat) (w : World) (R : Ending → World → Prop) (h : f3_vc keysa keysn keysc timesa timesn timesc w R) : Calls Go.Proofs.Try.prog 3 (List.toArray [Value.slice keysa keysn keysc, Value.slice timesa timesn timesc]) w R :=
 fn_sound (H := h3) (fn := Go.Proofs.Try.f3) (by kernel_rfl) (by kernel_rfl) (by kernel_rfl) ((f3_eq keysa keysn keysc timesa timesn timesc w R).mpr h)


/-! manciple/manciplelaw11.HeapSteps -/
def h4 : Hints := ⟨[], [29, 47, 52, 63, 36], [17, 22, 42, 58, 69, 83, 99, 95, 109, 113, 119, 123, 127], [(12, [0, 1, 2, 3, 4, 5, 6, 7, 8, 9, 10, 11])], [], [(6, ⟨[(4, .int .i64), (5, .int .i64), (6, .int .i64)], []⟩), (23, ⟨[(8, .int .i64), (9, .int .i64)], []⟩)], [(20, ⟨[(4, .int .i64)], []⟩), (27, ⟨[(99, .bool)], []⟩)], [], []⟩
def f4_vc (actsa : Option Addr) (actsn : Nat) (actsc : Nat) (w : World) (R : Ending → World → Prop) : Prop :=
 (decide ((↑actsn : Int) > 300) = true → R (Ending.returned (Value.bool true)) w) ∧
 (decide ((↑actsn : Int) > 300) = false →
 Calls Proofs.Try.prog 9 #[] w fun (e1 : Ending) (w2 : World) =>
 ∃ (a3 : Option Addr),
 e1 = Ending.returned (Value.pointer a3) ∧
 ∃ (J4 : Int × Int × Int × Unit → World → Prop),
 ∃ (J5 : Int × Int × Int × Unit → World → Nat),
 J4 (0, 0, 0, ()) w2 ∧
 ∀ (x6 x7 x8 : Int) (w9 : World),
 J4 (x6, x7, x8, ()) w9 →
 (decide (x8 < (↑actsn : Int)) = true →
 Calls Proofs.Try.prog 13 #[Value.pointer a3] w9 fun (e10 : Ending) (w11 : World) =>
 ∃ (x12 : Int),
 e10 = Ending.returned (Value.int IntKind.i64 x12) ∧
 ∃ (J13 : Int × Unit → World → Prop),
 (∃ (ad14 : Addr),
 Gives Proofs.Try.prog (Instr.indexAt 30 (Value.slice actsa actsn actsc) (Value.int IntKind.i64 x8)) (Value.pointer (some ad14)) ∧
 ∃ (x15 : Int),
 Reads Proofs.Try.prog [] (Instr.loadAt 3 (Value.pointer (some ad14))) w11 (Value.int IntKind.i64 x15) ∧
 ((x15 == 0) = true →
 ∃ (ad16 : Addr),
 Gives Proofs.Try.prog (Instr.indexAt 30 (Value.slice actsa actsn actsc) (Value.int IntKind.i64 x8)) (Value.pointer (some ad16)) ∧
 ∃ (x17 : Int),
 Reads Proofs.Try.prog [] (Instr.loadAt 2 (Value.pointer (some (Addr.mk ad16.block (ad16.off + 1) none)))) w11 (Value.int IntKind.i64 x17) ∧
 ∃ (ad18 : Addr),
 Gives Proofs.Try.prog (Instr.indexAt 30 (Value.slice actsa actsn actsc) (Value.int IntKind.i64 x8)) (Value.pointer (some ad18)) ∧
 ∃ (x19 : Int),
 Reads Proofs.Try.prog [] (Instr.loadAt 2 (Value.pointer (some (Addr.mk ad18.block (ad18.off + 2) none)))) w11 (Value.int IntKind.i64 x19) ∧
 ∀ (w20 : World),
 Bel w11 w20 →
 Calls Proofs.Try.prog 10 #[Value.pointer a3, Value.int IntKind.i64 x17, Value.int IntKind.i64 x19] w20 fun (e21 : Ending) (w22 : World) =>
 ∃ (b23 : Bool), e21 = Ending.returned (Value.bool b23) ∧ J13 (IntKind.i64.wrap (x6 + 1), ()) w22) ∧
 ((x15 == 0) = false →
 ((x15 == 1) = true →
 ∃ (ad24 : Addr),
 Gives Proofs.Try.prog (Instr.indexAt 30 (Value.slice actsa actsn actsc) (Value.int IntKind.i64 x8)) (Value.pointer (some ad24)) ∧
 ∃ (x25 : Int),
 Reads Proofs.Try.prog [] (Instr.loadAt 2 (Value.pointer (some (Addr.mk ad24.block (ad24.off + 1) none)))) w11 (Value.int IntKind.i64 x25) ∧
 Calls Proofs.Try.prog 14 #[Value.pointer a3, Value.int IntKind.i64 x25] w11 fun (e26 : Ending) (w27 : World) =>
 ∃ (b28 : Bool), e26 = Ending.returned (Value.bool b28) ∧ J13 (IntKind.i64.wrap (x6 + 1), ()) w27) ∧
 ((x15 == 1) = false →
 ((x15 == 2) = true →
 Calls Proofs.Try.prog 11 #[Value.pointer a3] w11 fun (e29 : Ending) (w30 : World) =>
 ∃ (x31 : Int),
 ∃ (x32 : Int),
 ∃ (b33 : Bool), e29 = Ending.returned (Value.tuple #[Value.int IntKind.i64 x31, Value.int IntKind.i64 x32, Value.bool b33]) ∧ J13 (IntKind.i64.wrap (x6 + 1), ()) w30) ∧
 ((x15 == 2) = false →
 ∃ (ad34 : Addr),
 Gives Proofs.Try.prog (Instr.indexAt 30 (Value.slice actsa actsn actsc) (Value.int IntKind.i64 x8)) (Value.pointer (some ad34)) ∧
 ∃ (x35 : Int),
 Reads Proofs.Try.prog [] (Instr.loadAt 2 (Value.pointer (some (Addr.mk ad34.block (ad34.off + 2) none)))) w11 (Value.int IntKind.i64 x35) ∧
 Calls Proofs.Try.prog 15 #[Value.pointer a3, Value.int IntKind.i64 x35] w11 fun (e36 : Ending) (w37 : World) =>
 ∃ (a38 : Option Addr), ∃ (n39 : Nat), ∃ (n40 : Nat), e36 = Ending.returned (Value.slice a38 n39 n40) ∧ J13 (IntKind.i64.wrap (x6 + (↑n39 : Int)), ()) w37)))) ∧
 ∀ (x41 : Int) (w42 : World),
 J13 (x41, ()) w42 →
 Calls Proofs.Try.prog 13 #[Value.pointer a3] w42 fun (e43 : Ending) (w44 : World) =>
 ∃ (x45 : Int),
 e43 = Ending.returned (Value.int IntKind.i64 x45) ∧
 ∃ (J46 : Int × Int × Unit → World → Prop),
 ∃ (J47 : Int × Int × Unit → World → Nat),
 J46 (0, IntKind.i64.wrap ((if x45 > if x12 > x7 then x12 else x7 then x45 else if x12 > x7 then x12 else x7) + 1), ()) w44 ∧
 ∀ (x48 x49 : Int) (w50 : World),
 J46 (x48, x49, ()) w50 →
 (decide (x49 > 0) = true →
 J46 (IntKind.i64.wrap (x48 + 1), IntKind.i64.wrap (x49.tdiv 2), ()) w50 ∧ J47 (IntKind.i64.wrap (x48 + 1), IntKind.i64.wrap (x49.tdiv 2), ()) w50 < J47 (x48, x49, ()) w50) ∧
 (decide (x49 > 0) = false →
 ∃ (J51 : Bool × Unit → World → Prop),
 (Calls Proofs.Try.prog 16 #[Value.pointer a3] w50 fun (e52 : Ending) (w53 : World) =>
 ∃ (x54 : Int),
 e52 = Ending.returned (Value.int IntKind.i64 x54) ∧
 (decide (x54 > IntKind.i64.wrap (IntKind.i64.wrap (2 * x48) * x41)) = true → J51 (true, ()) w53) ∧
 (decide (x54 > IntKind.i64.wrap (IntKind.i64.wrap (2 * x48) * x41)) = false →
 Calls Proofs.Try.prog 16 #[Value.pointer a3] w53 fun (e55 : Ending) (w56 : World) =>
 ∃ (x57 : Int), e55 = Ending.returned (Value.int IntKind.i64 x57) ∧ J51 (decide (x57 < 0), ()) w56)) ∧
 ∀ (b58 : Bool) (w59 : World),
 J51 (b58, ()) w59 →
 (b58 = true → R (Ending.returned (Value.bool false)) w59) ∧
 (b58 = false →
 J4 (x41, if x45 > if x12 > x7 then x12 else x7 then x45 else if x12 > x7 then x12 else x7, IntKind.i64.wrap (x8 + 1), ()) w59 ∧
 J5 (x41, if x45 > if x12 > x7 then x12 else x7 then x45 else if x12 > x7 then x12 else x7, IntKind.i64.wrap (x8 + 1), ()) w59 < J5 (x6, x7, x8, ()) w9))) ∧
 (decide (x8 < (↑actsn : Int)) = false →
 OpW Proofs.Try.prog (valueS (Instr.alloc 39 true (Value.tuple #[]))) w9 fun (v60 : Value) (w61 : World) =>
 ∃ (ad62 : Addr),
 v60 = Value.pointer (some ad62) ∧
 Calls Proofs.Try.prog 11 #[Value.pointer none] w61 fun (e63 : Ending) (w64 : World) =>
 ∃ (x65 : Int),
 ∃ (x66 : Int),
 ∃ (b67 : Bool),
 e63 = Ending.returned (Value.tuple #[Value.int IntKind.i64 x65, Value.int IntKind.i64 x66, Value.bool b67]) ∧
 Calls Proofs.Try.prog 10 #[Value.pointer none, Value.int IntKind.i64 1, Value.int IntKind.i64 1] w64 fun (e68 : Ending) (w69 : World) =>
 ∃ (b70 : Bool),
 e68 = Ending.returned (Value.bool b70) ∧
 ((!b70) = true →
 ((!b67) = true →
 Calls Proofs.Try.prog 15 #[Value.pointer none, Value.int IntKind.i64 9] w69 fun (e71 : Ending) (w72 : World) =>
 ∃ (a73 : Option Addr),
 ∃ (n74 : Nat),
 ∃ (n75 : Nat),
 e71 = Ending.returned (Value.slice a73 n74 n75) ∧
 (((↑n74 : Int) == 0) = true →
 Calls Proofs.Try.prog 10 #[Value.pointer (some ad62), Value.int IntKind.i64 1, Value.int IntKind.i64 1] w72 fun (e76 : Ending) (w77 : World) =>
 ∃ (b78 : Bool),
 e76 = Ending.returned (Value.bool b78) ∧
 ((!b78) = true →
 Calls Proofs.Try.prog 13 #[Value.pointer (some ad62)] w77 fun (e79 : Ending) (w80 : World) =>
 ∃ (x81 : Int),
 e79 = Ending.returned (Value.int IntKind.i64 x81) ∧
 ((x81 == 0) = true →
 Calls Proofs.Try.prog 12 #[] w80 fun (e82 : Ending) (w83 : World) =>
 ∃ (b84 : Bool), e82 = Ending.returned (Value.bool b84) ∧ R (Ending.returned (Value.bool b84)) w83) ∧
 ((x81 == 0) = false → R (Ending.returned (Value.bool false)) w80)) ∧
 ((!b78) = false → R (Ending.returned (Value.bool false)) w77)) ∧
 (((↑n74 : Int) == 0) = false → R (Ending.returned (Value.bool false)) w72)) ∧
 ((!b67) = false → R (Ending.returned (Value.bool false)) w69)) ∧
 ((!b70) = false → R (Ending.returned (Value.bool false)) w69)))
theorem f4_eq (actsa : Option Addr) (actsn : Nat) (actsc : Nat) (w : World) (R : Ending → World → Prop) : (fnF Go.Proofs.Try.prog h4 Go.Proofs.Try.f4 [Value.slice actsa actsn actsc] w R).den = f4_vc actsa actsn actsc w R := by kernel_rfl
theorem f4_calls (actsa : Option Addr) (actsn : Nat) (actsc : Nat) (w : World) (R : Ending → World → Prop) (h : f4_vc actsa actsn actsc w R) : Calls Go.Proofs.Try.prog 4 (List.toArray [Value.slice actsa actsn actsc]) w R :=
 fn_sound (H := h4) (fn := Go.Proofs.Try.f4) (by kernel_rfl) (by kernel_rfl) (by kernel_rfl) ((f4_eq actsa actsn actsc w R).mpr h)

end Vcc
