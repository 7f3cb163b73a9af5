/- The formulas of functions, printed by a program (VcTool.lean): each is what the generator's formula comes to, by the kernel's reckoning; whoever proves one has the function's contract. -/
import Derived.Test.YtkbjdkkpjjlbeaaVcFn
import Derived.Test.YtkbjdkkpjjlbeaaProg
set_option maxRecDepth 100000
set_option maxHeartbeats 1000000
set_option linter.unusedVariables false
namespace Vcc
open Go Go.Vc Go.RowKit
/-! manciple/manciplelaw11.HeapPlays -/
def h5 : Hints := ⟨[], [29, 47, 56, 77, 84, 103], [16, 21, 35, 116, 65, 72, 74, 81, 91, 97, 99, 109, 112], [], [], [(6, ⟨[(4, .sl), (5, .int .i64)], []⟩)], [], [], []⟩
def f5_vc (actsa : Option Addr) (actsn : Nat) (actsc : Nat) (w : World) (R : Ending → World → Prop) : Prop :=
 (decide ((↑actsn : Int) > 150) = true → R (Ending.returned (Value.bool true)) w) ∧
 (decide ((↑actsn : Int) > 150) = false →
 Calls Proofs.Try.prog 9 #[] w fun (e1 : Ending) (w2 : World) =>
 ∃ (a3 : Option Addr),
 e1 = Ending.returned (Value.pointer a3) ∧
 ∃ (J4 : (Option Addr × Nat × Nat) × Int × Unit → World → Prop),
 ∃ (J5 : (Option Addr × Nat × Nat) × Int × Unit → World → Nat),
 J4 ((none, 0, 0), 0, ()) w2 ∧
 ∀ (a6 : Option Addr) (n7 n8 : Nat) (x9 : Int) (w10 : World),
 J4 ((a6, n7, n8), x9, ()) w10 →
 (decide (x9 < (↑actsn : Int)) = true →
 ∃ (ad11 : Addr),
 Gives Proofs.Try.prog (Instr.indexAt 30 (Value.slice actsa actsn actsc) (Value.int IntKind.i64 x9)) (Value.pointer (some ad11)) ∧
 ∃ (x12 : Int),
 ∃ (x13 : Int),
 ∃ (x14 : Int),
 Reads Proofs.Try.prog [] (Instr.loadAt 33 (Value.pointer (some ad11))) w10 (Value.agg #[Value.int IntKind.i64 x12, Value.int IntKind.i64 x13, Value.int IntKind.i64 x14]) ∧
 Calls Proofs.Try.prog 17 #[Value.pointer a3, Value.slice a6 n7 n8, Value.agg #[Value.int IntKind.i64 x12, Value.int IntKind.i64 x13, Value.int IntKind.i64 x14]] w10 fun (e15 : Ending) (w16 : World) =>
 ∃ (a17 : Option Addr),
 ∃ (n18 : Nat),
 ∃ (n19 : Nat),
 ∃ (b20 : Bool),
 e15 = Ending.returned (Value.tuple #[Value.slice a17 n18 n19, Value.bool b20]) ∧
 ((!b20) = true → R (Ending.returned (Value.bool false)) w16) ∧
 ((!b20) = false →
 Calls Proofs.Try.prog 18 #[Value.pointer a3] w16 fun (e21 : Ending) (w22 : World) =>
 ∃ (x23 : Int),
 ∃ (x24 : Int),
 ∃ (b25 : Bool),
 e21 = Ending.returned (Value.tuple #[Value.int IntKind.i64 x23, Value.int IntKind.i64 x24, Value.bool b25]) ∧
 ∃ (ad26 : Addr),
 Gives Proofs.Try.prog (Instr.indexAt 30 (Value.slice actsa actsn actsc) (Value.int IntKind.i64 x9)) (Value.pointer (some ad26)) ∧
 ∃ (x27 : Int),
 Reads Proofs.Try.prog [] (Instr.loadAt 2 (Value.pointer (some (Addr.mk ad26.block (ad26.off + 1) none)))) w22 (Value.int IntKind.i64 x27) ∧
 Calls Proofs.Try.prog 19 #[Value.pointer a3, Value.int IntKind.i64 x27] w22 fun (e28 : Ending) (w29 : World) =>
 ∃ (x30 : Int),
 ∃ (b31 : Bool),
 e28 = Ending.returned (Value.tuple #[Value.int IntKind.i64 x30, Value.bool b31]) ∧
 ∃ (ad32 : Addr),
 Gives Proofs.Try.prog (Instr.indexAt 30 (Value.slice actsa actsn actsc) (Value.int IntKind.i64 x9)) (Value.pointer (some ad32)) ∧
 ∃ (x33 : Int),
 Reads Proofs.Try.prog [] (Instr.loadAt 2 (Value.pointer (some (Addr.mk ad32.block (ad32.off + 1) none)))) w29 (Value.int IntKind.i64 x33) ∧
 Calls Proofs.Try.prog 20 #[Value.slice a17 n18 n19, Value.int IntKind.i64 x33] w29 fun (e34 : Ending) (w35 : World) =>
 ∃ (x36 : Int),
 e34 = Ending.returned (Value.int IntKind.i64 x36) ∧
 Calls Proofs.Try.prog 13 #[Value.pointer a3] w35 fun (e37 : Ending) (w38 : World) =>
 ∃ (x39 : Int),
 e37 = Ending.returned (Value.int IntKind.i64 x39) ∧
 ((x39 != (↑n18 : Int)) = true → R (Ending.returned (Value.bool false)) w38) ∧
 ((x39 != (↑n18 : Int)) = false →
 ((!b25 == decide ((↑n18 : Int) > 0)) = true → R (Ending.returned (Value.bool false)) w38) ∧
 ((!b25 == decide ((↑n18 : Int) > 0)) = false →
 (b25 = true →
 ∃ (ad40 : Addr),
 Gives Proofs.Try.prog (Instr.indexAt 41 (Value.slice a17 n18 n19) (Value.int IntKind.i64 0)) (Value.pointer (some ad40)) ∧
 ∃ (x41 : Int),
 Reads Proofs.Try.prog [] (Instr.loadAt 2 (Value.pointer (some ad40))) w38 (Value.int IntKind.i64 x41) ∧
 ((x23 != x41) = true → R (Ending.returned (Value.bool false)) w38) ∧
 ((x23 != x41) = false →
 ∃ (ad42 : Addr),
 Gives Proofs.Try.prog (Instr.indexAt 41 (Value.slice a17 n18 n19) (Value.int IntKind.i64 0))
 (Value.pointer (some ad42)) ∧
 ∃ (x43 : Int),
 Reads Proofs.Try.prog [] (Instr.loadAt 2 (Value.pointer (some (Addr.mk ad42.block (ad42.off + 1) none)))) w38
 (Value.int IntKind.i64 x43) ∧
 ((x24 != x43) = true → R (Ending.returned (Value.bool false)) w38) ∧
 ((x24 != x43) = false →
 ((!b31 == decide (x36 ≥ 0)) = true → R (Ending.returned (Value.bool false)) w38) ∧
 ((!b31 == decide (x36 ≥ 0)) = false →
 (b31 = true →
 ∃ (ad44 : Addr),
 Gives Proofs.Try.prog (Instr.indexAt 41 (Value.slice a17 n18 n19) (Value.int IntKind.i64 x36))
 (Value.pointer (some ad44)) ∧
 ∃ (x45 : Int),
 Reads Proofs.Try.prog []
 (Instr.loadAt 2 (Value.pointer (some (Addr.mk ad44.block (ad44.off + 1) none)))) w38
 (Value.int IntKind.i64 x45) ∧
 ((x30 != x45) = true → R (Ending.returned (Value.bool false)) w38) ∧
 ((x30 != x45) = false →
 ((!b31) = true →
 ((x30 != 0) = true → R (Ending.returned (Value.bool false)) w38) ∧
 ((x30 != 0) = false →
 J4 ((a17, n18, n19), IntKind.i64.wrap (x9 + 1), ()) w38 ∧
 J5 ((a17, n18, n19), IntKind.i64.wrap (x9 + 1), ()) w38 <
 J5 ((a6, n7, n8), x9, ()) w10)) ∧
 ((!b31) = false →
 J4 ((a17, n18, n19), IntKind.i64.wrap (x9 + 1), ()) w38 ∧
 J5 ((a17, n18, n19), IntKind.i64.wrap (x9 + 1), ()) w38 <
 J5 ((a6, n7, n8), x9, ()) w10))) ∧
 (b31 = false →
 ((!b31) = true →
 ((x30 != 0) = true → R (Ending.returned (Value.bool false)) w38) ∧
 ((x30 != 0) = false →
 J4 ((a17, n18, n19), IntKind.i64.wrap (x9 + 1), ()) w38 ∧
 J5 ((a17, n18, n19), IntKind.i64.wrap (x9 + 1), ()) w38 <
 J5 ((a6, n7, n8), x9, ()) w10)) ∧
 ((!b31) = false →
 J4 ((a17, n18, n19), IntKind.i64.wrap (x9 + 1), ()) w38 ∧
 J5 ((a17, n18, n19), IntKind.i64.wrap (x9 + 1), ()) w38 <
 J5 ((a6, n7, n8), x9, ()) w10)))))) ∧
 (b25 = false →
 ((!b31 == decide (x36 ≥ 0)) = true → R (Ending.returned (Value.bool false)) w38) ∧
 ((!b31 == decide (x36 ≥ 0)) = false →
 (b31 = true →
 ∃ (ad46 : Addr),
 Gives Proofs.Try.prog (Instr.indexAt 41 (Value.slice a17 n18 n19) (Value.int IntKind.i64 x36))
 (Value.pointer (some ad46)) ∧
 ∃ (x47 : Int),
 Reads Proofs.Try.prog [] (Instr.loadAt 2 (Value.pointer (some (Addr.mk ad46.block (ad46.off + 1) none)))) w38
 (Value.int IntKind.i64 x47) ∧
 ((x30 != x47) = true → R (Ending.returned (Value.bool false)) w38) ∧
 ((x30 != x47) = false →
 ((!b31) = true →
 ((x30 != 0) = true → R (Ending.returned (Value.bool false)) w38) ∧
 ((x30 != 0) = false →
 J4 ((a17, n18, n19), IntKind.i64.wrap (x9 + 1), ()) w38 ∧
 J5 ((a17, n18, n19), IntKind.i64.wrap (x9 + 1), ()) w38 < J5 ((a6, n7, n8), x9, ()) w10)) ∧
 ((!b31) = false →
 J4 ((a17, n18, n19), IntKind.i64.wrap (x9 + 1), ()) w38 ∧
 J5 ((a17, n18, n19), IntKind.i64.wrap (x9 + 1), ()) w38 < J5 ((a6, n7, n8), x9, ()) w10))) ∧
 (b31 = false →
 ((!b31) = true →
 ((x30 != 0) = true → R (Ending.returned (Value.bool false)) w38) ∧
 ((x30 != 0) = false →
 J4 ((a17, n18, n19), IntKind.i64.wrap (x9 + 1), ()) w38 ∧
 J5 ((a17, n18, n19), IntKind.i64.wrap (x9 + 1), ()) w38 < J5 ((a6, n7, n8), x9, ()) w10)) ∧
 ((!b31) = false →
 J4 ((a17, n18, n19), IntKind.i64.wrap (x9 + 1), ()) w38 ∧
 J5 ((a17, n18, n19), IntKind.i64.wrap (x9 + 1), ()) w38 < J5 ((a6, n7, n8), x9, ()) w10)))))))) ∧
 (decide (x9 < (↑actsn : Int)) = false → Calls Proofs.Try.prog 12 #[] w10 fun (e48 : Ending) (w49 : World) => ∃ (b50 : Bool), e48 = Ending.returned (Value.bool b50) ∧ R (Ending.returned (Value.bool b50)) w49))
theorem f5_eq (actsa : Option Addr) (actsn : Nat) (actsc : Nat) (w : World) (R : Ending → World → Prop) : (fnF Go.Proofs.Try.prog h5 Go.Proofs.Try.f5 [Value.slice actsa actsn actsc] w R).den = f5_vc actsa actsn actsc w R := by kernel_rfl
theorem f5_calls (actsa : Option Addr) (actsn : Nat) (actsc : Nat) (w : World) (R : Ending → World → Prop) (h : f5_vc actsa actsn actsc w R) : Calls Go.Proofs.Try.prog 5 (List.toArray [Value.slice actsa actsn actsc]) w R :=
 fn_sound (H := h5) (fn := Go.Proofs.Try.f5) (by kernel_rfl) (by kernel_rfl) (by kernel_rfl) ((f5_eq actsa actsn actsc w R).mpr h)


/-! manciple/heap.New -/
def h9 : Hints := ⟨[], [], [], [], [], [], [], [], []⟩
def f9_vc  (w : World) (R : Ending → World → Prop) : Prop :=
 OpW Proofs.Try.prog (valueS (Instr.makeMap 37 none)) w fun (v1 : Value) (w2 : World) =>
 ∃ (r3 : Option Nat),
 v1 = Value.map r3 ∧
 OpW Proofs.Try.prog (valueS (Instr.box 39 (Value.agg #[Value.slice none 0 0, Value.map r3, Value.int IntKind.i64 0]))) w2 fun (v4 : Value) (w5 : World) =>
 ∃ (ad6 : Addr), v4 = Value.pointer (some ad6) ∧ R (Ending.returned (Value.pointer (some ad6))) w5
theorem f9_eq  (w : World) (R : Ending → World → Prop) : (fnF Go.Proofs.Try.prog h9 Go.Proofs.Try.f9 [] w R).den = f9_vc  w R := by kernel_rfl
theorem f9_calls  (w : World) (R : Ending → World → Prop) (h : f9_vc  w R) : Calls Go.Proofs.Try.prog 9 (List.toArray []) w R :=
 fn_sound (H := h9) (fn := Go.Proofs.Try.f9) (by kernel_rfl) (by kernel_rfl) (by kernel_rfl) ((f9_eq  w R).mpr h)


/-! (*manciple/heap.Heap).Put -/
def h10 : Hints := ⟨[], [14, 24, 30, 36, 49], [11, 22], [], [], [], [], [], []⟩
def f10_vc (h' : Option Addr) (key : Int) (at' : Int) (w : World) (R : Ending → World → Prop) : Prop :=
 Calls Proofs.Try.prog 32 #[Value.pointer h'] w fun (e1 : Ending) (w2 : World) =>
 ∃ (b3 : Bool),
 e1 = Ending.returned (Value.bool b3) ∧
 ((!b3) = true → R (Ending.returned (Value.bool false)) w2) ∧
 ((!b3) = false →
 ∃ (ad4 : Addr),
 h' = some ad4 ∧
 ∃ (r5 : Option Nat),
 Reads Proofs.Try.prog [] (Instr.loadAt 37 (Value.pointer (some (Addr.mk ad4.block (ad4.off + 1) none)))) w2 (Value.map r5) ∧
 ∃ (x6 : Int),
 ∃ (b7 : Bool),
 Reads Proofs.Try.prog [] (Instr.lookup 37 (Value.map r5) (Value.int IntKind.i64 key) true) w2 (Value.tuple #[Value.int IntKind.i64 x6, Value.bool b7]) ∧
 ((!b7) = true →
 ∃ (ad8 : Addr),
 h' = some ad8 ∧
 ∃ (a9 : Option Addr),
 ∃ (n10 : Nat),
 ∃ (n11 : Nat),
 Reads Proofs.Try.prog [] (Instr.loadAt 36 (Value.pointer (some ad8))) w2 (Value.slice a9 n10 n11) ∧
 ∃ (ad12 : Addr),
 h' = some ad12 ∧
 ∃ (a13 : Option Addr),
 ∃ (n14 : Nat),
 ∃ (n15 : Nat),
 Reads Proofs.Try.prog [] (Instr.loadAt 36 (Value.pointer (some ad12))) w2 (Value.slice a13 n14 n15) ∧
 OpW Proofs.Try.prog (valueS (Instr.buildSlice 36 1 #[(0, Value.agg #[Value.int IntKind.i64 0, Value.int IntKind.i64 0])])) w2 fun (v16 : Value) (w17 : World) =>
 ∃ (a18 : Option Addr),
 ∃ (n19 : Nat),
 ∃ (n20 : Nat),
 v16 = Value.slice a18 n19 n20 ∧
 OpW Proofs.Try.prog (builtin Builtin.append #[36, 36] 36 #[false, false] #[Value.slice a13 n14 n15, Value.slice a18 n19 n20]) w17 fun (v21 : Value) (w22 : World) =>
 ∃ (a23 : Option Addr),
 ∃ (n24 : Nat),
 ∃ (n25 : Nat),
 v21 = Value.slice a23 n24 n25 ∧
 ∃ (ad26 : Addr),
 h' = some ad26 ∧
 OpW Proofs.Try.prog (skipS (Instr.storeAt 36 (Value.pointer (some ad26)) (Value.slice a23 n24 n25))) w22 fun (v27 : Value) (w28 : World) =>
 Calls Proofs.Try.prog 33 #[Value.pointer h', Value.int IntKind.i64 (↑n10 : Int), Value.agg #[Value.int IntKind.i64 key, Value.int IntKind.i64 at']] w28
 fun (e29 : Ending) (w30 : World) =>
 e29 = Ending.returned (Value.tuple #[]) ∧
 Calls Proofs.Try.prog 34 #[Value.pointer h', Value.int IntKind.i64 (↑n10 : Int)] w30 fun (e31 : Ending) (w32 : World) =>
 e31 = Ending.returned (Value.tuple #[]) ∧
 ∃ (ad33 : Addr),
 h' = some ad33 ∧
 ∃ (r34 : Option Nat),
 Reads Proofs.Try.prog [] (Instr.loadAt 37 (Value.pointer (some (Addr.mk ad33.block (ad33.off + 1) none)))) w32 (Value.map r34) ∧
 ∃ (x35 : Int),
 Reads Proofs.Try.prog [] (Instr.lookup 37 (Value.map r34) (Value.int IntKind.i64 key) false) w32 (Value.int IntKind.i64 x35) ∧
 Calls Proofs.Try.prog 35 #[Value.pointer h', Value.int IntKind.i64 x35] w32 fun (e36 : Ending) (w37 : World) =>
 e36 = Ending.returned (Value.tuple #[]) ∧ R (Ending.returned (Value.bool !b7)) w37) ∧
 ((!b7) = false →
 Calls Proofs.Try.prog 33 #[Value.pointer h', Value.int IntKind.i64 x6, Value.agg #[Value.int IntKind.i64 key, Value.int IntKind.i64 at']] w2 fun (e38 : Ending) (w39 : World) =>
 e38 = Ending.returned (Value.tuple #[]) ∧
 Calls Proofs.Try.prog 34 #[Value.pointer h', Value.int IntKind.i64 x6] w39 fun (e40 : Ending) (w41 : World) =>
 e40 = Ending.returned (Value.tuple #[]) ∧
 ∃ (ad42 : Addr),
 h' = some ad42 ∧
 ∃ (r43 : Option Nat),
 Reads Proofs.Try.prog [] (Instr.loadAt 37 (Value.pointer (some (Addr.mk ad42.block (ad42.off + 1) none)))) w41 (Value.map r43) ∧
 ∃ (x44 : Int),
 Reads Proofs.Try.prog [] (Instr.lookup 37 (Value.map r43) (Value.int IntKind.i64 key) false) w41 (Value.int IntKind.i64 x44) ∧
 Calls Proofs.Try.prog 35 #[Value.pointer h', Value.int IntKind.i64 x44] w41 fun (e45 : Ending) (w46 : World) =>
 e45 = Ending.returned (Value.tuple #[]) ∧ R (Ending.returned (Value.bool !b7)) w46))
theorem f10_eq (h' : Option Addr) (key : Int) (at' : Int) (w : World) (R : Ending → World → Prop) : (fnF Go.Proofs.Try.prog h10 Go.Proofs.Try.f10 [Value.pointer h', Value.int IntKind.i64 key, Value.int IntKind.i64 at'] w R).den = f10_vc h' key at' w R := by kernel_rfl
theorem f10_calls (h' : Option Addr) (key : Int) (at' : Int) (w : World) (R : Ending → World → Prop) (h : f10_vc h' key at' w R) : Calls Go.Proofs.Try.prog 10 (List.toArray [Value.pointer h', Value.int IntKind.i64 key, Value.int IntKind.i64 at']) w R :=
 fn_sound (H := h10) (fn := Go.Proofs.Try.f10) (by kernel_rfl) (by kernel_rfl) (by kernel_rfl) ((f10_eq h' key at' w R).mpr h)


/-! (*manciple/heap.Heap).Pop -/
def h11 : Hints := ⟨[], [], [14], [], [], [], [], [], []⟩
def f11_vc (h' : Option Addr) (w : World) (R : Ending → World → Prop) : Prop :=
 Calls Proofs.Try.prog 18 #[Value.pointer h'] w fun (e1 : Ending) (w2 : World) =>
 ∃ (x3 : Int),
 ∃ (x4 : Int),
 ∃ (b5 : Bool),
 e1 = Ending.returned (Value.tuple #[Value.int IntKind.i64 x3, Value.int IntKind.i64 x4, Value.bool b5]) ∧
 (b5 = true →
 Calls Proofs.Try.prog 14 #[Value.pointer h', Value.int IntKind.i64 x3] w2 fun (e6 : Ending) (w7 : World) =>
 ∃ (b8 : Bool), e6 = Ending.returned (Value.bool b8) ∧ R (Ending.returned (Value.tuple #[Value.int IntKind.i64 x3, Value.int IntKind.i64 x4, Value.bool b5])) w7) ∧
 (b5 = false → R (Ending.returned (Value.tuple #[Value.int IntKind.i64 x3, Value.int IntKind.i64 x4, Value.bool b5])) w2)
theorem f11_eq (h' : Option Addr) (w : World) (R : Ending → World → Prop) : (fnF Go.Proofs.Try.prog h11 Go.Proofs.Try.f11 [Value.pointer h'] w R).den = f11_vc h' w R := by kernel_rfl
theorem f11_calls (h' : Option Addr) (w : World) (R : Ending → World → Prop) (h : f11_vc h' w R) : Calls Go.Proofs.Try.prog 11 (List.toArray [Value.pointer h']) w R :=
 fn_sound (H := h11) (fn := Go.Proofs.Try.f11) (by kernel_rfl) (by kernel_rfl) (by kernel_rfl) ((f11_eq h' w R).mpr h)


/-! manciple/manciplelaw11.works -/
def h12 : Hints := ⟨[], [], [22, 25, 29, 33, 37, 40], [], [], [], [], [], []⟩
def f12_vc  (w : World) (R : Ending → World → Prop) : Prop :=
 Calls Proofs.Try.prog 9 #[] w fun (e1 : Ending) (w2 : World) =>
 ∃ (a3 : Option Addr),
 e1 = Ending.returned (Value.pointer a3) ∧
 Calls Proofs.Try.prog 10 #[Value.pointer a3, Value.int IntKind.i64 7, Value.int IntKind.i64 30] w2 fun (e4 : Ending) (w5 : World) =>
 ∃ (b6 : Bool),
 e4 = Ending.returned (Value.bool b6) ∧
 Calls Proofs.Try.prog 10 #[Value.pointer a3, Value.int IntKind.i64 8, Value.int IntKind.i64 20] w5 fun (e7 : Ending) (w8 : World) =>
 ∃ (b9 : Bool),
 e7 = Ending.returned (Value.bool b9) ∧
 Calls Proofs.Try.prog 10 #[Value.pointer a3, Value.int IntKind.i64 7, Value.int IntKind.i64 10] w8 fun (e10 : Ending) (w11 : World) =>
 ∃ (b12 : Bool),
 e10 = Ending.returned (Value.bool b12) ∧
 Calls Proofs.Try.prog 11 #[Value.pointer a3] w11 fun (e13 : Ending) (w14 : World) =>
 ∃ (x15 : Int),
 ∃ (x16 : Int),
 ∃ (b17 : Bool),
 e13 = Ending.returned (Value.tuple #[Value.int IntKind.i64 x15, Value.int IntKind.i64 x16, Value.bool b17]) ∧
 (b6 = true →
 (b9 = true →
 ((!b12) = true →
 ((x15 == 7) = true →
 ((x16 == 10) = true →
 (b17 = true →
 Calls Proofs.Try.prog 13 #[Value.pointer a3] w14 fun (e18 : Ending) (w19 : World) =>
 ∃ (x20 : Int), e18 = Ending.returned (Value.int IntKind.i64 x20) ∧ R (Ending.returned (Value.bool (x20 == 1))) w19) ∧
 (b17 = false → R (Ending.returned (Value.bool false)) w14)) ∧
 ((x16 == 10) = false → R (Ending.returned (Value.bool false)) w14)) ∧
 ((x15 == 7) = false → R (Ending.returned (Value.bool false)) w14)) ∧
 ((!b12) = false → R (Ending.returned (Value.bool false)) w14)) ∧
 (b9 = false → R (Ending.returned (Value.bool false)) w14)) ∧
 (b6 = false → R (Ending.returned (Value.bool false)) w14)
theorem f12_eq  (w : World) (R : Ending → World → Prop) : (fnF Go.Proofs.Try.prog h12 Go.Proofs.Try.f12 [] w R).den = f12_vc  w R := by kernel_rfl
theorem f12_calls  (w : World) (R : Ending → World → Prop) (h : f12_vc  w R) : Calls Go.Proofs.Try.prog 12 (List.toArray []) w R :=
 fn_sound (H := h12) (fn := Go.Proofs.Try.f12) (by kernel_rfl) (by kernel_rfl) (by kernel_rfl) ((f12_eq  w R).mpr h)


/-! (*manciple/heap.Heap).Long -/
def h13 : Hints := ⟨[], [7], [5], [], [], [], [], [], []⟩
def f13_vc (h' : Option Addr) (w : World) (R : Ending → World → Prop) : Prop :=
 Calls Proofs.Try.prog 32 #[Value.pointer h'] w fun (e1 : Ending) (w2 : World) =>
 ∃ (b3 : Bool),
 e1 = Ending.returned (Value.bool b3) ∧
 ((!b3) = true → R (Ending.returned (Value.int IntKind.i64 0)) w2) ∧
 ((!b3) = false →
 ∃ (ad4 : Addr),
 h' = some ad4 ∧ ∃ (a5 : Option Addr), ∃ (n6 : Nat), ∃ (n7 : Nat), Reads Proofs.Try.prog [] (Instr.loadAt 36 (Value.pointer (some ad4))) w2 (Value.slice a5 n6 n7) ∧ R (Ending.returned (Value.int IntKind.i64 (↑n6 : Int))) w2)
theorem f13_eq (h' : Option Addr) (w : World) (R : Ending → World → Prop) : (fnF Go.Proofs.Try.prog h13 Go.Proofs.Try.f13 [Value.pointer h'] w R).den = f13_vc h' w R := by kernel_rfl
theorem f13_calls (h' : Option Addr) (w : World) (R : Ending → World → Prop) (h : f13_vc h' w R) : Calls Go.Proofs.Try.prog 13 (List.toArray [Value.pointer h']) w R :=
 fn_sound (H := h13) (fn := Go.Proofs.Try.f13) (by kernel_rfl) (by kernel_rfl) (by kernel_rfl) ((f13_eq h' w R).mpr h)


/-! (*manciple/heap.Heap).Drop -/
def h14 : Hints := ⟨[7], [13, 23, 27, 32, 36, 40, 45, 46, 49, 66], [10, 21, 56], [(6, [0, 1, 2, 3, 4, 5, 6, 7, 8, 9, 10, 11, 12, 13]), (7, [0, 1, 2, 3, 4, 5, 6, 7, 8, 9, 10, 11, 12, 13, 14]), (12, [0, 1, 2, 3, 4, 5, 6, 7, 8])], [], [], [], [], []⟩
def f14_vc (h' : Option Addr) (key : Int) (w : World) (R : Ending → World → Prop) : Prop :=
 Calls Proofs.Try.prog 32 #[Value.pointer h'] w fun (e1 : Ending) (w2 : World) =>
 ∃ (b3 : Bool),
 e1 = Ending.returned (Value.bool b3) ∧
 ((!b3) = true → R (Ending.returned (Value.bool false)) w2) ∧
 ((!b3) = false →
 ∃ (ad4 : Addr),
 h' = some ad4 ∧
 ∃ (r5 : Option Nat),
 Reads Proofs.Try.prog [] (Instr.loadAt 37 (Value.pointer (some (Addr.mk ad4.block (ad4.off + 1) none)))) w2 (Value.map r5) ∧
 ∃ (x6 : Int),
 ∃ (b7 : Bool),
 Reads Proofs.Try.prog [] (Instr.lookup 37 (Value.map r5) (Value.int IntKind.i64 key) true) w2 (Value.tuple #[Value.int IntKind.i64 x6, Value.bool b7]) ∧
 ((!b7) = true → R (Ending.returned (Value.bool false)) w2) ∧
 ((!b7) = false →
 ∃ (ad8 : Addr),
 h' = some ad8 ∧
 ∃ (a9 : Option Addr),
 ∃ (n10 : Nat),
 ∃ (n11 : Nat),
 Reads Proofs.Try.prog [] (Instr.loadAt 36 (Value.pointer (some ad8))) w2 (Value.slice a9 n10 n11) ∧
 ∃ (ad12 : Addr),
 h' = some ad12 ∧
 ∃ (a13 : Option Addr),
 ∃ (n14 : Nat),
 ∃ (n15 : Nat),
 Reads Proofs.Try.prog [] (Instr.loadAt 36 (Value.pointer (some ad12))) w2 (Value.slice a13 n14 n15) ∧
 ∃ (ad16 : Addr),
 Gives Proofs.Try.prog (Instr.indexAt 36 (Value.slice a9 n10 n11) (Value.int IntKind.i64 (IntKind.i64.wrap ((↑n14 : Int) - 1)))) (Value.pointer (some ad16)) ∧
 ∃ (x17 : Int),
 ∃ (x18 : Int),
 Reads Proofs.Try.prog [] (Instr.loadAt 80 (Value.pointer (some ad16))) w2 (Value.agg #[Value.int IntKind.i64 x17, Value.int IntKind.i64 x18]) ∧
 ∀ (n19 : Nat),
 w2.heap.size ≤ n19 →
 Reads Proofs.Try.prog [] (Instr.loadAt 80 (Value.pointer (some ad16))) w2 (Value.agg #[Value.int IntKind.i64 x17, Value.int IntKind.i64 x18]) ∧
 Reads Proofs.Try.prog [] (Instr.loadAt 36 (Value.pointer (some ad12))) w2 (Value.slice a13 n14 n15) ∧
 Reads Proofs.Try.prog [] (Instr.loadAt 36 (Value.pointer (some ad8))) w2 (Value.slice a9 n10 n11) ∧
 ∃ (ad20 : Addr),
 h' = some ad20 ∧
 ∃ (a21 : Option Addr),
 ∃ (n22 : Nat),
 ∃ (n23 : Nat),
 Reads Proofs.Try.prog [n19] (Instr.loadAt 36 (Value.pointer (some ad20))) w2 (Value.slice a21 n22 n23) ∧
 ∃ (ad24 : Addr),
 h' = some ad24 ∧
 ∃ (a25 : Option Addr),
 ∃ (n26 : Nat),
 ∃ (n27 : Nat),
 Reads Proofs.Try.prog [n19] (Instr.loadAt 36 (Value.pointer (some ad24))) w2 (Value.slice a25 n26 n27) ∧
 ∃ (a28 : Option Addr),
 ∃ (n29 : Nat),
 ∃ (n30 : Nat),
 Gives Proofs.Try.prog
 (Instr.sliceAt 36 (Value.slice a21 n22 n23) none (some (Value.int IntKind.i64 (IntKind.i64.wrap ((↑n26 : Int) - 1)))) none)
 (Value.slice a28 n29 n30) ∧
 ∃ (ad31 : Addr),
 h' = some ad31 ∧
 ∀ (w32 : World),
 Evo [n19] w2 w32 →
 Under [n19] w32 →
 OpW Proofs.Try.prog (skipS (Instr.storeAt 36 (Value.pointer (some ad31)) (Value.slice a28 n29 n30))) w32
 fun (v33 : Value) (w34 : World) =>
 Keeps [n19] w32 w34 ∧
 ∃ (ad35 : Addr),
 h' = some ad35 ∧
 ∃ (r36 : Option Nat),
 Reads Proofs.Try.prog [] (Instr.loadAt 37 (Value.pointer (some (Addr.mk ad35.block (ad35.off + 1) none)))) w34
 (Value.map r36) ∧
 OpW Proofs.Try.prog
 (builtin Builtin.delete #[37, 2] 0 #[false, false] #[Value.map r36, Value.int IntKind.i64 key]) w34
 fun (v37 : Value) (w38 : World) =>
 v37 = Value.tuple #[] ∧
 Keeps [n19] w34 w38 ∧
 ((x17 != key) = true →
 Calls Proofs.Try.prog 33
 #[Value.pointer h', Value.int IntKind.i64 x6,
 Value.agg #[Value.int IntKind.i64 x17, Value.int IntKind.i64 x18]]
 w38 fun (e39 : Ending) (w40 : World) =>
 e39 = Ending.returned (Value.tuple #[]) ∧
 Keeps [n19] w38 w40 ∧
 Calls Proofs.Try.prog 34 #[Value.pointer h', Value.int IntKind.i64 x6] w40
 fun (e41 : Ending) (w42 : World) =>
 e41 = Ending.returned (Value.tuple #[]) ∧
 Keeps [n19] w40 w42 ∧
 ∃ (ad43 : Addr),
 h' = some ad43 ∧
 ∃ (r44 : Option Nat),
 Reads Proofs.Try.prog []
 (Instr.loadAt 37 (Value.pointer (some (Addr.mk ad43.block (ad43.off + 1) none))))
 w42 (Value.map r44) ∧
 ∃ (x45 : Int),
 Reads Proofs.Try.prog []
 (Instr.lookup 37 (Value.map r44) (Value.int IntKind.i64 x17) false) w42
 (Value.int IntKind.i64 x45) ∧
 ∀ (w46 : World),
 Bel w42 w46 →
 Under [n19] w46 →
 Calls Proofs.Try.prog 35 #[Value.pointer h', Value.int IntKind.i64 x45]
 w46 fun (e47 : Ending) (w48 : World) =>
 e47 = Ending.returned (Value.tuple #[]) ∧
 Keeps [n19] w46 w48 ∧
 Reads Proofs.Try.prog []
 (Instr.loadAt 37
 (Value.pointer
 (some (Addr.mk ad43.block (ad43.off + 1) none))))
 w48 (Value.map r44) ∧
 R (Ending.returned (Value.bool true)) w48) ∧
 ((x17 != key) = false → R (Ending.returned (Value.bool true)) w38)))
theorem f14_eq (h' : Option Addr) (key : Int) (w : World) (R : Ending → World → Prop) : (fnF Go.Proofs.Try.prog h14 Go.Proofs.Try.f14 [Value.pointer h', Value.int IntKind.i64 key] w R).den = f14_vc h' key w R := by kernel_rfl
theorem f14_calls (h' : Option Addr) (key : Int) (w : World) (R : Ending → World → Prop) (h : f14_vc h' key w R) : Calls Go.Proofs.Try.prog 14 (List.toArray [Value.pointer h', Value.int IntKind.i64 key]) w R :=
 fn_sound (H := h14) (fn := Go.Proofs.Try.f14) (by kernel_rfl) (by kernel_rfl) (by kernel_rfl) ((f14_eq h' key w R).mpr h)


/-! (*manciple/heap.Heap).Due -/
def h15 : Hints := ⟨[], [], [20, 16], [], [], [(3, ⟨[(5, .sl), (6, .int .i64), (7, .int .i64), (8, .bool)], []⟩)], [], [], []⟩
def f15_vc (h' : Option Addr) (now : Int) (w : World) (R : Ending → World → Prop) : Prop :=
 Calls Proofs.Try.prog 18 #[Value.pointer h'] w fun (e1 : Ending) (w2 : World) =>
 ∃ (x3 : Int),
 ∃ (x4 : Int),
 ∃ (b5 : Bool),
 e1 = Ending.returned (Value.tuple #[Value.int IntKind.i64 x3, Value.int IntKind.i64 x4, Value.bool b5]) ∧
 ∃ (J6 : (Option Addr × Nat × Nat) × Int × Int × Bool × Unit → World → Prop),
 ∃ (J7 : (Option Addr × Nat × Nat) × Int × Int × Bool × Unit → World → Nat),
 J6 ((none, 0, 0), x3, x4, b5, ()) w2 ∧
 ∀ (a8 : Option Addr) (n9 n10 : Nat) (x11 x12 : Int) (b13 : Bool) (w14 : World),
 J6 ((a8, n9, n10), x11, x12, b13, ()) w14 →
 (b13 = true →
 (decide (x12 ≤ now) = true →
 OpW Proofs.Try.prog (valueS (Instr.buildSlice 22 1 #[(0, Value.int IntKind.i64 x11)])) w14 fun (v15 : Value) (w16 : World) =>
 ∃ (a17 : Option Addr),
 ∃ (n18 : Nat),
 ∃ (n19 : Nat),
 v15 = Value.slice a17 n18 n19 ∧
 OpW Proofs.Try.prog (builtin Builtin.append #[22, 22] 22 #[false, false] #[Value.slice a8 n9 n10, Value.slice a17 n18 n19]) w16 fun (v20 : Value) (w21 : World) =>
 ∃ (a22 : Option Addr),
 ∃ (n23 : Nat),
 ∃ (n24 : Nat),
 v20 = Value.slice a22 n23 n24 ∧
 Calls Proofs.Try.prog 14 #[Value.pointer h', Value.int IntKind.i64 x11] w21 fun (e25 : Ending) (w26 : World) =>
 ∃ (b27 : Bool),
 e25 = Ending.returned (Value.bool b27) ∧
 Calls Proofs.Try.prog 18 #[Value.pointer h'] w26 fun (e28 : Ending) (w29 : World) =>
 ∃ (x30 : Int),
 ∃ (x31 : Int),
 ∃ (b32 : Bool),
 e28 = Ending.returned (Value.tuple #[Value.int IntKind.i64 x30, Value.int IntKind.i64 x31, Value.bool b32]) ∧
 J6 ((a22, n23, n24), x30, x31, b32, ()) w29 ∧ J7 ((a22, n23, n24), x30, x31, b32, ()) w29 < J7 ((a8, n9, n10), x11, x12, b13, ()) w14) ∧
 (decide (x12 ≤ now) = false → R (Ending.returned (Value.slice a8 n9 n10)) w14)) ∧
 (b13 = false → R (Ending.returned (Value.slice a8 n9 n10)) w14)
theorem f15_eq (h' : Option Addr) (now : Int) (w : World) (R : Ending → World → Prop) : (fnF Go.Proofs.Try.prog h15 Go.Proofs.Try.f15 [Value.pointer h', Value.int IntKind.i64 now] w R).den = f15_vc h' now w R := by kernel_rfl
theorem f15_calls (h' : Option Addr) (now : Int) (w : World) (R : Ending → World → Prop) (h : f15_vc h' now w R) : Calls Go.Proofs.Try.prog 15 (List.toArray [Value.pointer h', Value.int IntKind.i64 now]) w R :=
 fn_sound (H := h15) (fn := Go.Proofs.Try.f15) (by kernel_rfl) (by kernel_rfl) (by kernel_rfl) ((f15_eq h' now w R).mpr h)


/-! (*manciple/heap.Heap).Steps -/
def h16 : Hints := ⟨[], [7], [5], [], [], [], [], [], []⟩
def f16_vc (h' : Option Addr) (w : World) (R : Ending → World → Prop) : Prop :=
 Calls Proofs.Try.prog 32 #[Value.pointer h'] w fun (e1 : Ending) (w2 : World) =>
 ∃ (b3 : Bool),
 e1 = Ending.returned (Value.bool b3) ∧
 ((!b3) = true → R (Ending.returned (Value.int IntKind.i64 0)) w2) ∧
 ((!b3) = false →
 ∃ (ad4 : Addr),
 h' = some ad4 ∧ ∃ (x5 : Int), Reads Proofs.Try.prog [] (Instr.loadAt 3 (Value.pointer (some (Addr.mk ad4.block (ad4.off + 2) none)))) w2 (Value.int IntKind.i64 x5) ∧ R (Ending.returned (Value.int IntKind.i64 x5)) w2)
theorem f16_eq (h' : Option Addr) (w : World) (R : Ending → World → Prop) : (fnF Go.Proofs.Try.prog h16 Go.Proofs.Try.f16 [Value.pointer h'] w R).den = f16_vc h' w R := by kernel_rfl
theorem f16_calls (h' : Option Addr) (w : World) (R : Ending → World → Prop) (h : f16_vc h' w R) : Calls Go.Proofs.Try.prog 16 (List.toArray [Value.pointer h']) w R :=
 fn_sound (H := h16) (fn := Go.Proofs.Try.f16) (by kernel_rfl) (by kernel_rfl) (by kernel_rfl) ((f16_eq h' w R).mpr h)


/-! manciple/manciplelaw11.does -/
def h17 : Hints := ⟨[5], [78, 83, 91], [16, 39, 55, 65, 69, 73, 80, 88], [(4, [0, 1, 2, 3, 4, 5, 7, 8, 9, 10, 11, 13, 14, 6, 12, 15, 16, 17]), (6, [0, 1, 2, 4, 5, 6, 8, 9, 10, 3, 7, 11, 12, 13, 14, 15]), (11, [0, 1, 2, 3, 4, 5, 6, 7, 8, 9, 10, 11, 12, 13, 14, 15, 16, 17, 18, 19, 20])], [], [], [], [], []⟩
def f17_vc (h' : Option Addr) (la : Option Addr) (ln : Nat) (lc : Nat) (a_0 : Int) (a_1 : Int) (a_2 : Int) (w : World) (R : Ending → World → Prop) : Prop :=
 ∀ (n1 : Nat),
 w.heap.size ≤ n1 →
 ((a_0 == 0) = true →
 ∀ (w2 : World),
 Bel w w2 →
 Under [n1] w2 →
 Calls Proofs.Try.prog 20 #[Value.slice la ln lc, Value.int IntKind.i64 a_1] w2 fun (e3 : Ending) (w4 : World) =>
 ∃ (x5 : Int),
 e3 = Ending.returned (Value.int IntKind.i64 x5) ∧
 Keeps [n1] w2 w4 ∧
 ∀ (w6 : World),
 Bel w4 w6 →
 Under [n1] w6 →
 Calls Proofs.Try.prog 36 #[Value.slice la ln lc, Value.agg #[Value.int IntKind.i64 a_1, Value.int IntKind.i64 a_2]] w6 fun (e7 : Ending) (w8 : World) =>
 ∃ (a9 : Option Addr),
 ∃ (n10 : Nat),
 ∃ (n11 : Nat),
 e7 = Ending.returned (Value.slice a9 n10 n11) ∧
 Keeps [n1] w6 w8 ∧
 Calls Proofs.Try.prog 10 #[Value.pointer h', Value.int IntKind.i64 a_1, Value.int IntKind.i64 a_2] w8 fun (e12 : Ending) (w13 : World) =>
 ∃ (b14 : Bool), e12 = Ending.returned (Value.bool b14) ∧ Keeps [n1] w8 w13 ∧ R (Ending.returned (Value.tuple #[Value.slice a9 n10 n11, Value.bool (b14 == !decide (x5 ≥ 0))])) w13) ∧
 ((a_0 == 0) = false →
 ((a_0 == 1) = true →
 ∀ (w15 : World),
 Bel w w15 →
 Under [n1] w15 →
 Calls Proofs.Try.prog 37 #[Value.slice la ln lc, Value.int IntKind.i64 a_1] w15 fun (e16 : Ending) (w17 : World) =>
 ∃ (a18 : Option Addr),
 ∃ (n19 : Nat),
 ∃ (n20 : Nat),
 e16 = Ending.returned (Value.slice a18 n19 n20) ∧
 Keeps [n1] w15 w17 ∧
 Calls Proofs.Try.prog 14 #[Value.pointer h', Value.int IntKind.i64 a_1] w17 fun (e21 : Ending) (w22 : World) =>
 ∃ (b23 : Bool),
 e21 = Ending.returned (Value.bool b23) ∧
 Keeps [n1] w17 w22 ∧
 Calls Proofs.Try.prog 20 #[Value.slice la ln lc, Value.int IntKind.i64 a_1] w22 fun (e24 : Ending) (w25 : World) =>
 ∃ (x26 : Int), e24 = Ending.returned (Value.int IntKind.i64 x26) ∧ Keeps [n1] w22 w25 ∧ R (Ending.returned (Value.tuple #[Value.slice a18 n19 n20, Value.bool (b23 == decide (x26 ≥ 0))])) w25) ∧
 ((a_0 == 1) = false →
 ((a_0 == 2) = true →
 ∀ (w27 : World),
 Bel w w27 →
 Under [n1] w27 →
 Calls Proofs.Try.prog 11 #[Value.pointer h'] w27 fun (e28 : Ending) (w29 : World) =>
 ∃ (x30 : Int),
 ∃ (x31 : Int),
 ∃ (b32 : Bool),
 e28 = Ending.returned (Value.tuple #[Value.int IntKind.i64 x30, Value.int IntKind.i64 x31, Value.bool b32]) ∧
 Keeps [n1] w27 w29 ∧
 (((↑ln : Int) == 0) = true →
 ((!b32) = true →
 ((x30 == 0) = true → R (Ending.returned (Value.tuple #[Value.slice la ln lc, Value.bool (x31 == 0)])) w29) ∧
 ((x30 == 0) = false → R (Ending.returned (Value.tuple #[Value.slice la ln lc, Value.bool false])) w29)) ∧
 ((!b32) = false → R (Ending.returned (Value.tuple #[Value.slice la ln lc, Value.bool false])) w29)) ∧
 (((↑ln : Int) == 0) = false →
 ∃ (a33 : Option Addr),
 ∃ (n34 : Nat),
 ∃ (n35 : Nat),
 Gives Proofs.Try.prog (Instr.sliceAt 41 (Value.slice la ln lc) (some (Value.int IntKind.i64 1)) none none) (Value.slice a33 n34 n35) ∧
 (b32 = true →
 ∃ (ad36 : Addr),
 Gives Proofs.Try.prog (Instr.indexAt 41 (Value.slice la ln lc) (Value.int IntKind.i64 0)) (Value.pointer (some ad36)) ∧
 ∃ (x37 : Int),
 Reads Proofs.Try.prog [] (Instr.loadAt 2 (Value.pointer (some ad36))) w29 (Value.int IntKind.i64 x37) ∧
 ((x30 == x37) = true →
 ∃ (ad38 : Addr),
 Gives Proofs.Try.prog (Instr.indexAt 41 (Value.slice la ln lc) (Value.int IntKind.i64 0)) (Value.pointer (some ad38)) ∧
 ∃ (x39 : Int),
 Reads Proofs.Try.prog [] (Instr.loadAt 2 (Value.pointer (some (Addr.mk ad38.block (ad38.off + 1) none)))) w29 (Value.int IntKind.i64 x39) ∧
 ∀ (w40 : World), Bel w29 w40 → Under [n1] w40 → R (Ending.returned (Value.tuple #[Value.slice a33 n34 n35, Value.bool (x31 == x39)])) w40) ∧
 ((x30 == x37) = false → ∀ (w41 : World), Bel w29 w41 → Under [n1] w41 → R (Ending.returned (Value.tuple #[Value.slice a33 n34 n35, Value.bool false])) w41)) ∧
 (b32 = false → ∀ (w42 : World), Bel w29 w42 → Under [n1] w42 → R (Ending.returned (Value.tuple #[Value.slice a33 n34 n35, Value.bool false])) w42))) ∧
 ((a_0 == 2) = false →
 ∀ (w43 : World),
 Bel w w43 →
 Under [n1] w43 →
 Calls Proofs.Try.prog 38 #[Value.slice la ln lc, Value.int IntKind.i64 a_2] w43 fun (e44 : Ending) (w45 : World) =>
 ∃ (a46 : Option Addr),
 ∃ (n47 : Nat),
 ∃ (n48 : Nat),
 ∃ (a49 : Option Addr),
 ∃ (n50 : Nat),
 ∃ (n51 : Nat),
 e44 = Ending.returned (Value.tuple #[Value.slice a46 n47 n48, Value.slice a49 n50 n51]) ∧
 Keeps [n1] w43 w45 ∧
 Calls Proofs.Try.prog 15 #[Value.pointer h', Value.int IntKind.i64 a_2] w45 fun (e52 : Ending) (w53 : World) =>
 ∃ (a54 : Option Addr),
 ∃ (n55 : Nat),
 ∃ (n56 : Nat),
 e52 = Ending.returned (Value.slice a54 n55 n56) ∧
 Keeps [n1] w45 w53 ∧
 Calls Proofs.Try.prog 39 #[Value.slice a54 n55 n56, Value.slice a46 n47 n48] w53 fun (e57 : Ending) (w58 : World) =>
 ∃ (b59 : Bool), e57 = Ending.returned (Value.bool b59) ∧ Keeps [n1] w53 w58 ∧ R (Ending.returned (Value.tuple #[Value.slice a49 n50 n51, Value.bool b59])) w58)))
theorem f17_eq (h' : Option Addr) (la : Option Addr) (ln : Nat) (lc : Nat) (a_0 : Int) (a_1 : Int) (a_2 : Int) (w : World) (R : Ending → World → Prop) : (fnF Go.Proofs.Try.prog h17 Go.Proofs.Try.f17 [Value.pointer h', Value.slice la ln lc, Value.agg #[Value.int IntKind.i64 a_0, Value.int IntKind.i64 a_1, Value.int IntKind.i64 a_2]] w R).den = f17_vc h' la ln lc a_0 a_1 a_2 w R := by kernel_rfl
theorem f17_calls (h' : Option Addr) (la : Option Addr) (ln : Nat) (lc : Nat) (a_0 : Int) (a_1 : Int) (a_2 : Int) (w : World) (R : Ending → World → Prop) (h : f17_vc h' la ln lc a_0 a_1 a_2 w R) : Calls Go.Proofs.Try.prog 17 (List.toArray [Value.pointer h', Value.slice la ln lc, Value.agg #[Value.int IntKind.i64 a_0, Value.int IntKind.i64 a_1, Value.int IntKind.i64 a_2]]) w R :=
 fn_sound (H := h17) (fn := Go.Proofs.Try.f17) (by kernel_rfl) (by kernel_rfl) (by kernel_rfl) ((f17_eq h' la ln lc a_0 a_1 a_2 w R).mpr h)


/-! (*manciple/heap.Heap).Peek -/
def h18 : Hints := ⟨[], [10, 17, 20, 24, 27], [15, 8], [(3, [0, 1, 2, 3, 4, 5, 6, 7, 8, 9, 10, 11, 12, 13, 14, 15, 16])], [], [], [], [], []⟩
def f18_vc (h' : Option Addr) (w : World) (R : Ending → World → Prop) : Prop :=
 Calls Proofs.Try.prog 32 #[Value.pointer h'] w fun (e1 : Ending) (w2 : World) =>
 ∃ (b3 : Bool),
 e1 = Ending.returned (Value.bool b3) ∧
 ((!b3) = true → R (Ending.returned (Value.tuple #[Value.int IntKind.i64 0, Value.int IntKind.i64 0, Value.bool false])) w2) ∧
 ((!b3) = false →
 ∃ (ad4 : Addr),
 h' = some ad4 ∧
 ∃ (a5 : Option Addr),
 ∃ (n6 : Nat),
 ∃ (n7 : Nat),
 Reads Proofs.Try.prog [] (Instr.loadAt 36 (Value.pointer (some ad4))) w2 (Value.slice a5 n6 n7) ∧
 (((↑n6 : Int) == 0) = true → R (Ending.returned (Value.tuple #[Value.int IntKind.i64 0, Value.int IntKind.i64 0, Value.bool false])) w2) ∧
 (((↑n6 : Int) == 0) = false →
 ∃ (ad8 : Addr),
 h' = some ad8 ∧
 ∃ (a9 : Option Addr),
 ∃ (n10 : Nat),
 ∃ (n11 : Nat),
 Reads Proofs.Try.prog [] (Instr.loadAt 36 (Value.pointer (some ad8))) w2 (Value.slice a9 n10 n11) ∧
 ∃ (ad12 : Addr),
 Gives Proofs.Try.prog (Instr.indexAt 36 (Value.slice a9 n10 n11) (Value.int IntKind.i64 0)) (Value.pointer (some ad12)) ∧
 ∃ (x13 : Int),
 Reads Proofs.Try.prog [] (Instr.loadAt 2 (Value.pointer (some ad12))) w2 (Value.int IntKind.i64 x13) ∧
 ∃ (ad14 : Addr),
 h' = some ad14 ∧
 ∃ (a15 : Option Addr),
 ∃ (n16 : Nat),
 ∃ (n17 : Nat),
 Reads Proofs.Try.prog [] (Instr.loadAt 36 (Value.pointer (some ad14))) w2 (Value.slice a15 n16 n17) ∧
 ∃ (ad18 : Addr),
 Gives Proofs.Try.prog (Instr.indexAt 36 (Value.slice a15 n16 n17) (Value.int IntKind.i64 0)) (Value.pointer (some ad18)) ∧
 ∃ (x19 : Int),
 Reads Proofs.Try.prog [] (Instr.loadAt 2 (Value.pointer (some (Addr.mk ad18.block (ad18.off + 1) none)))) w2 (Value.int IntKind.i64 x19) ∧
 ∀ (w20 : World), Bel w2 w20 → R (Ending.returned (Value.tuple #[Value.int IntKind.i64 x13, Value.int IntKind.i64 x19, Value.bool true])) w20))
theorem f18_eq (h' : Option Addr) (w : World) (R : Ending → World → Prop) : (fnF Go.Proofs.Try.prog h18 Go.Proofs.Try.f18 [Value.pointer h'] w R).den = f18_vc h' w R := by kernel_rfl
theorem f18_calls (h' : Option Addr) (w : World) (R : Ending → World → Prop) (h : f18_vc h' w R) : Calls Go.Proofs.Try.prog 18 (List.toArray [Value.pointer h']) w R :=
 fn_sound (H := h18) (fn := Go.Proofs.Try.f18) (by kernel_rfl) (by kernel_rfl) (by kernel_rfl) ((f18_eq h' w R).mpr h)


/-! (*manciple/heap.Heap).At -/
def h19 : Hints := ⟨[], [13, 23, 27], [10, 21], [], [], [], [], [], []⟩
def f19_vc (h' : Option Addr) (key : Int) (w : World) (R : Ending → World → Prop) : Prop :=
 Calls Proofs.Try.prog 32 #[Value.pointer h'] w fun (e1 : Ending) (w2 : World) =>
 ∃ (b3 : Bool),
 e1 = Ending.returned (Value.bool b3) ∧
 ((!b3) = true → R (Ending.returned (Value.tuple #[Value.int IntKind.i64 0, Value.bool false])) w2) ∧
 ((!b3) = false →
 ∃ (ad4 : Addr),
 h' = some ad4 ∧
 ∃ (r5 : Option Nat),
 Reads Proofs.Try.prog [] (Instr.loadAt 37 (Value.pointer (some (Addr.mk ad4.block (ad4.off + 1) none)))) w2 (Value.map r5) ∧
 ∃ (x6 : Int),
 ∃ (b7 : Bool),
 Reads Proofs.Try.prog [] (Instr.lookup 37 (Value.map r5) (Value.int IntKind.i64 key) true) w2 (Value.tuple #[Value.int IntKind.i64 x6, Value.bool b7]) ∧
 ((!b7) = true → R (Ending.returned (Value.tuple #[Value.int IntKind.i64 0, Value.bool false])) w2) ∧
 ((!b7) = false →
 ∃ (ad8 : Addr),
 h' = some ad8 ∧
 ∃ (a9 : Option Addr),
 ∃ (n10 : Nat),
 ∃ (n11 : Nat),
 Reads Proofs.Try.prog [] (Instr.loadAt 36 (Value.pointer (some ad8))) w2 (Value.slice a9 n10 n11) ∧
 ∃ (ad12 : Addr),
 Gives Proofs.Try.prog (Instr.indexAt 36 (Value.slice a9 n10 n11) (Value.int IntKind.i64 x6)) (Value.pointer (some ad12)) ∧
 ∃ (x13 : Int),
 Reads Proofs.Try.prog [] (Instr.loadAt 2 (Value.pointer (some (Addr.mk ad12.block (ad12.off + 1) none)))) w2 (Value.int IntKind.i64 x13) ∧
 R (Ending.returned (Value.tuple #[Value.int IntKind.i64 x13, Value.bool true])) w2))
theorem f19_eq (h' : Option Addr) (key : Int) (w : World) (R : Ending → World → Prop) : (fnF Go.Proofs.Try.prog h19 Go.Proofs.Try.f19 [Value.pointer h', Value.int IntKind.i64 key] w R).den = f19_vc h' key w R := by kernel_rfl
theorem f19_calls (h' : Option Addr) (key : Int) (w : World) (R : Ending → World → Prop) (h : f19_vc h' key w R) : Calls Go.Proofs.Try.prog 19 (List.toArray [Value.pointer h', Value.int IntKind.i64 key]) w R :=
 fn_sound (H := h19) (fn := Go.Proofs.Try.f19) (by kernel_rfl) (by kernel_rfl) (by kernel_rfl) ((f19_eq h' key w R).mpr h)


/-! manciple/mancipleref11.Place -/
def h20 : Hints := ⟨[], [14], [9, 18], [], [], [(2, ⟨[(5, .int .i64)], []⟩)], [], [], []⟩
def f20_vc (la : Option Addr) (ln : Nat) (lc : Nat) (key : Int) (w : World) (R : Ending → World → Prop) : Prop :=
 ∃ (J1 : Int × Unit → World → Prop),
 ∃ (J2 : Int × Unit → World → Nat),
 J1 (0, ()) w ∧
 ∀ (x3 : Int) (w4 : World),
 J1 (x3, ()) w4 →
 (decide (x3 < (↑ln : Int)) = true →
 ∃ (ad5 : Addr),
 Gives Proofs.Try.prog (Instr.indexAt 41 (Value.slice la ln lc) (Value.int IntKind.i64 x3)) (Value.pointer (some ad5)) ∧
 ∃ (x6 : Int),
 Reads Proofs.Try.prog [] (Instr.loadAt 2 (Value.pointer (some ad5))) w4 (Value.int IntKind.i64 x6) ∧
 ((x6 == key) = true → R (Ending.returned (Value.int IntKind.i64 x3)) w4) ∧ ((x6 == key) = false → J1 (IntKind.i64.wrap (x3 + 1), ()) w4 ∧ J2 (IntKind.i64.wrap (x3 + 1), ()) w4 < J2 (x3, ()) w4)) ∧
 (decide (x3 < (↑ln : Int)) = false → R (Ending.returned (Value.int IntKind.i64 (-1))) w4)
theorem f20_eq (la : Option Addr) (ln : Nat) (lc : Nat) (key : Int) (w : World) (R : Ending → World → Prop) : (fnF Go.Proofs.Try.prog h20 Go.Proofs.Try.f20 [Value.slice la ln lc, Value.int IntKind.i64 key] w R).den = f20_vc la ln lc key w R := by kernel_rfl
theorem f20_calls (la : Option Addr) (ln : Nat) (lc : Nat) (key : Int) (w : World) (R : Ending → World → Prop) (h : f20_vc la ln lc key w R) : Calls Go.Proofs.Try.prog 20 (List.toArray [Value.slice la ln lc, Value.int IntKind.i64 key]) w R :=
 fn_sound (H := h20) (fn := Go.Proofs.Try.f20) (by kernel_rfl) (by kernel_rfl) (by kernel_rfl) ((f20_eq la ln lc key w R).mpr h)


/-! (*manciple/heap.Heap).made -/
def h32 : Hints := ⟨[], [4, 7, 10], [5], [], [], [], [], [], []⟩
def f32_vc (h' : Option Addr) (w : World) (R : Ending → World → Prop) : Prop :=
 ∃ (b1 : Bool),
 Gives Proofs.Try.prog (binOpS BinOp.neq 23 (Operand.tmp 3) (Operand.const (Value.pointer none)) (Value.pointer h') (Value.pointer none)) (Value.bool b1) ∧
 (b1 = true →
 ∃ (ad2 : Addr),
 h' = some ad2 ∧
 ∃ (r3 : Option Nat),
 Reads Proofs.Try.prog [] (Instr.loadAt 37 (Value.pointer (some (Addr.mk ad2.block (ad2.off + 1) none)))) w (Value.map r3) ∧
 ∃ (b4 : Bool), Gives Proofs.Try.prog (binOpS BinOp.neq 37 (Operand.tmp 9) (Operand.const (Value.map none)) (Value.map r3) (Value.map none)) (Value.bool b4) ∧ R (Ending.returned (Value.bool b4)) w) ∧
 (b1 = false → R (Ending.returned (Value.bool false)) w)
theorem f32_eq (h' : Option Addr) (w : World) (R : Ending → World → Prop) : (fnF Go.Proofs.Try.prog h32 Go.Proofs.Try.f32 [Value.pointer h'] w R).den = f32_vc h' w R := by kernel_rfl
theorem f32_calls (h' : Option Addr) (w : World) (R : Ending → World → Prop) (h : f32_vc h' w R) : Calls Go.Proofs.Try.prog 32 (List.toArray [Value.pointer h']) w R :=
 fn_sound (H := h32) (fn := Go.Proofs.Try.f32) (by kernel_rfl) (by kernel_rfl) (by kernel_rfl) ((f32_eq h' w R).mpr h)


/-! (*manciple/heap.Heap).lay -/
def h33 : Hints := ⟨[5], [7, 12, 14], [], [(1, [0, 1, 2, 3, 4, 5, 6, 7]), (2, [0, 1, 2, 3, 4, 5, 6, 7])], [], [], [], [], []⟩
def f33_vc (h' : Option Addr) (i : Int) (x_0 : Int) (x_1 : Int) (w : World) (R : Ending → World → Prop) : Prop :=
 ∀ (n1 : Nat),
 w.heap.size ≤ n1 →
 ∃ (ad2 : Addr),
 h' = some ad2 ∧
 ∃ (a3 : Option Addr),
 ∃ (n4 : Nat),
 ∃ (n5 : Nat),
 Reads Proofs.Try.prog [] (Instr.loadAt 36 (Value.pointer (some ad2))) w (Value.slice a3 n4 n5) ∧
 ∃ (ad6 : Addr),
 Gives Proofs.Try.prog (Instr.indexAt 36 (Value.slice a3 n4 n5) (Value.int IntKind.i64 i)) (Value.pointer (some ad6)) ∧
 ∀ (w7 : World),
 Bel w w7 →
 Under [n1] w7 →
 OpW Proofs.Try.prog (skipS (Instr.storeAt 80 (Value.pointer (some ad6)) (Value.agg #[Value.int IntKind.i64 x_0, Value.int IntKind.i64 x_1]))) w7 fun (v8 : Value) (w9 : World) =>
 Keeps [n1] w7 w9 ∧
 ∃ (ad10 : Addr),
 h' = some ad10 ∧
 ∃ (r11 : Option Nat),
 Reads Proofs.Try.prog [] (Instr.loadAt 37 (Value.pointer (some (Addr.mk ad10.block (ad10.off + 1) none)))) w9 (Value.map r11) ∧
 ∀ (w12 : World),
 Bel w9 w12 →
 Under [n1] w12 →
 OpW Proofs.Try.prog (skipS (Instr.mapUpdate 37 (Value.map r11) (Value.int IntKind.i64 x_0) (Value.int IntKind.i64 i))) w12 fun (v13 : Value) (w14 : World) =>
 Keeps [n1] w12 w14 ∧ R (Ending.returned (Value.tuple #[])) w14
theorem f33_eq (h' : Option Addr) (i : Int) (x_0 : Int) (x_1 : Int) (w : World) (R : Ending → World → Prop) : (fnF Go.Proofs.Try.prog h33 Go.Proofs.Try.f33 [Value.pointer h', Value.int IntKind.i64 i, Value.agg #[Value.int IntKind.i64 x_0, Value.int IntKind.i64 x_1]] w R).den = f33_vc h' i x_0 x_1 w R := by kernel_rfl
theorem f33_calls (h' : Option Addr) (i : Int) (x_0 : Int) (x_1 : Int) (w : World) (R : Ending → World → Prop) (h : f33_vc h' i x_0 x_1 w R) : Calls Go.Proofs.Try.prog 33 (List.toArray [Value.pointer h', Value.int IntKind.i64 i, Value.agg #[Value.int IntKind.i64 x_0, Value.int IntKind.i64 x_1]]) w R :=
 fn_sound (H := h33) (fn := Go.Proofs.Try.f33) (by kernel_rfl) (by kernel_rfl) (by kernel_rfl) ((f33_eq h' i x_0 x_1 w R).mpr h)


/-! (*manciple/heap.Heap).rise -/
def h34 : Hints := ⟨[], [8, 12, 15, 21], [24, 6], [(0, [0, 1, 2, 3, 4, 5, 6, 7, 8, 9, 10, 11, 12, 13, 14, 15, 16, 17, 18, 19, 20])], [], [(0, ⟨[(1, .int .i64)], []⟩)], [], [], []⟩
def f34_vc (h' : Option Addr) (i : Int) (w : World) (R : Ending → World → Prop) : Prop :=
 ∃ (J1 : Int × Unit → World → Prop),
 ∃ (J2 : Int × Unit → World → Nat),
 J1 (i, ()) w ∧
 ∀ (x3 : Int) (w4 : World),
 J1 (x3, ()) w4 →
 (decide (x3 > 0) = true →
 ∃ (ad5 : Addr),
 h' = some ad5 ∧
 ∃ (a6 : Option Addr),
 ∃ (n7 : Nat),
 ∃ (n8 : Nat),
 Reads Proofs.Try.prog [] (Instr.loadAt 36 (Value.pointer (some ad5))) w4 (Value.slice a6 n7 n8) ∧
 ∃ (ad9 : Addr),
 Gives Proofs.Try.prog (Instr.indexAt 36 (Value.slice a6 n7 n8) (Value.int IntKind.i64 x3)) (Value.pointer (some ad9)) ∧
 ∃ (x10 : Int),
 ∃ (x11 : Int),
 Reads Proofs.Try.prog [] (Instr.loadAt 80 (Value.pointer (some ad9))) w4 (Value.agg #[Value.int IntKind.i64 x10, Value.int IntKind.i64 x11]) ∧
 ∃ (ad12 : Addr),
 h' = some ad12 ∧
 ∃ (a13 : Option Addr),
 ∃ (n14 : Nat),
 ∃ (n15 : Nat),
 Reads Proofs.Try.prog [] (Instr.loadAt 36 (Value.pointer (some ad12))) w4 (Value.slice a13 n14 n15) ∧
 ∃ (ad16 : Addr),
 Gives Proofs.Try.prog (Instr.indexAt 36 (Value.slice a13 n14 n15) (Value.int IntKind.i64 (IntKind.i64.wrap ((IntKind.i64.wrap (x3 - 1)).tdiv 2)))) (Value.pointer (some ad16)) ∧
 ∃ (x17 : Int),
 ∃ (x18 : Int),
 Reads Proofs.Try.prog [] (Instr.loadAt 80 (Value.pointer (some ad16))) w4 (Value.agg #[Value.int IntKind.i64 x17, Value.int IntKind.i64 x18]) ∧
 ∀ (w19 : World),
 Bel w4 w19 →
 Calls Proofs.Try.prog 48 #[Value.agg #[Value.int IntKind.i64 x10, Value.int IntKind.i64 x11], Value.agg #[Value.int IntKind.i64 x17, Value.int IntKind.i64 x18]] w19
 fun (e20 : Ending) (w21 : World) =>
 ∃ (b22 : Bool),
 e20 = Ending.returned (Value.bool b22) ∧
 Reads Proofs.Try.prog [] (Instr.loadAt 36 (Value.pointer (some ad12))) w21 (Value.slice a13 n14 n15) ∧
 Reads Proofs.Try.prog [] (Instr.loadAt 36 (Value.pointer (some ad5))) w21 (Value.slice a6 n7 n8) ∧
 (b22 = true →
 Calls Proofs.Try.prog 49 #[Value.pointer h', Value.int IntKind.i64 x3, Value.int IntKind.i64 (IntKind.i64.wrap ((IntKind.i64.wrap (x3 - 1)).tdiv 2))] w21
 fun (e23 : Ending) (w24 : World) =>
 e23 = Ending.returned (Value.tuple #[]) ∧
 J1 (IntKind.i64.wrap ((IntKind.i64.wrap (x3 - 1)).tdiv 2), ()) w24 ∧ J2 (IntKind.i64.wrap ((IntKind.i64.wrap (x3 - 1)).tdiv 2), ()) w24 < J2 (x3, ()) w4) ∧
 (b22 = false → R (Ending.returned (Value.tuple #[])) w21)) ∧
 (decide (x3 > 0) = false → ∀ (w25 : World), Bel w4 w25 → R (Ending.returned (Value.tuple #[])) w25)
theorem f34_eq (h' : Option Addr) (i : Int) (w : World) (R : Ending → World → Prop) : (fnF Go.Proofs.Try.prog h34 Go.Proofs.Try.f34 [Value.pointer h', Value.int IntKind.i64 i] w R).den = f34_vc h' i w R := by kernel_rfl
theorem f34_calls (h' : Option Addr) (i : Int) (w : World) (R : Ending → World → Prop) (h : f34_vc h' i w R) : Calls Go.Proofs.Try.prog 34 (List.toArray [Value.pointer h', Value.int IntKind.i64 i]) w R :=
 fn_sound (H := h34) (fn := Go.Proofs.Try.f34) (by kernel_rfl) (by kernel_rfl) (by kernel_rfl) ((f34_eq h' i w R).mpr h)


/-! (*manciple/heap.Heap).sink -/
def h35 : Hints := ⟨[], [18, 22, 29, 33, 36, 40], [17, 43, 48, 27], [(4, [0, 1, 2, 3, 4, 5, 6, 7, 8, 9, 10, 11, 12, 13, 14, 15, 16, 17, 18, 19, 20, 21, 22, 23])], [], [(0, ⟨[(1, .int .i64)], []⟩), (2, ⟨[(4, .int .i64), (16, .int .i64)], []⟩)], [(6, ⟨[(4, .int .i64)], []⟩), (5, ⟨[(43, .bool)], []⟩)], [], []⟩
def f35_vc (h' : Option Addr) (i : Int) (w : World) (R : Ending → World → Prop) : Prop :=
 ∃ (J1 : Int × Unit → World → Prop),
 ∃ (J2 : Int × Unit → World → Nat),
 J1 (i, ()) w ∧
 ∀ (x3 : Int) (w4 : World),
 J1 (x3, ()) w4 →
 OpW Proofs.Try.prog (valueS (Instr.buildSlice 95 2 #[(0, Value.int IntKind.i64 (IntKind.i64.wrap (IntKind.i64.wrap (2 * x3) + 1))), (1, Value.int IntKind.i64 (IntKind.i64.wrap (IntKind.i64.wrap (2 * x3) + 2)))])) w4
 fun (v5 : Value) (w6 : World) =>
 ∃ (a7 : Option Addr),
 ∃ (n8 : Nat),
 ∃ (n9 : Nat),
 v5 = Value.slice a7 n8 n9 ∧
 ∃ (J10 : Int × Int × Unit → World → Prop),
 ∃ (J11 : Int × Int × Unit → World → Nat),
 J10 (x3, 0, ()) w6 ∧
 ∀ (x12 x13 : Int) (w14 : World),
 J10 (x12, x13, ()) w14 →
 (decide (x13 < (↑n8 : Int)) = true →
 ∃ (J15 : Int × Unit → World → Prop),
 (∃ (ad16 : Addr),
 Gives Proofs.Try.prog (Instr.indexAt 95 (Value.slice a7 n8 n9) (Value.int IntKind.i64 x13)) (Value.pointer (some ad16)) ∧
 ∃ (x17 : Int),
 Reads Proofs.Try.prog [] (Instr.loadAt 3 (Value.pointer (some ad16))) w14 (Value.int IntKind.i64 x17) ∧
 ∃ (J18 : Bool × Unit → World → Prop),
 (∃ (ad19 : Addr),
 h' = some ad19 ∧
 ∃ (a20 : Option Addr),
 ∃ (n21 : Nat),
 ∃ (n22 : Nat),
 Reads Proofs.Try.prog [] (Instr.loadAt 36 (Value.pointer (some ad19))) w14 (Value.slice a20 n21 n22) ∧
 (decide (x17 < (↑n21 : Int)) = true →
 ∃ (ad23 : Addr),
 h' = some ad23 ∧
 ∃ (a24 : Option Addr),
 ∃ (n25 : Nat),
 ∃ (n26 : Nat),
 Reads Proofs.Try.prog [] (Instr.loadAt 36 (Value.pointer (some ad23))) w14 (Value.slice a24 n25 n26) ∧
 ∃ (ad27 : Addr),
 Gives Proofs.Try.prog (Instr.indexAt 36 (Value.slice a24 n25 n26) (Value.int IntKind.i64 x17)) (Value.pointer (some ad27)) ∧
 ∃ (x28 : Int),
 ∃ (x29 : Int),
 Reads Proofs.Try.prog [] (Instr.loadAt 80 (Value.pointer (some ad27))) w14 (Value.agg #[Value.int IntKind.i64 x28, Value.int IntKind.i64 x29]) ∧
 ∃ (ad30 : Addr),
 h' = some ad30 ∧
 ∃ (a31 : Option Addr),
 ∃ (n32 : Nat),
 ∃ (n33 : Nat),
 Reads Proofs.Try.prog [] (Instr.loadAt 36 (Value.pointer (some ad30))) w14 (Value.slice a31 n32 n33) ∧
 ∃ (ad34 : Addr),
 Gives Proofs.Try.prog (Instr.indexAt 36 (Value.slice a31 n32 n33) (Value.int IntKind.i64 x12)) (Value.pointer (some ad34)) ∧
 ∃ (x35 : Int),
 ∃ (x36 : Int),
 Reads Proofs.Try.prog [] (Instr.loadAt 80 (Value.pointer (some ad34))) w14
 (Value.agg #[Value.int IntKind.i64 x35, Value.int IntKind.i64 x36]) ∧
 ∀ (w37 : World),
 Bel w14 w37 →
 Calls Proofs.Try.prog 48
 #[Value.agg #[Value.int IntKind.i64 x28, Value.int IntKind.i64 x29],
 Value.agg #[Value.int IntKind.i64 x35, Value.int IntKind.i64 x36]]
 w37 fun (e38 : Ending) (w39 : World) =>
 ∃ (b40 : Bool),
 e38 = Ending.returned (Value.bool b40) ∧
 Reads Proofs.Try.prog [] (Instr.loadAt 36 (Value.pointer (some ad30))) w39 (Value.slice a31 n32 n33) ∧
 Reads Proofs.Try.prog [] (Instr.loadAt 36 (Value.pointer (some ad23))) w39 (Value.slice a24 n25 n26) ∧
 Reads Proofs.Try.prog [] (Instr.loadAt 36 (Value.pointer (some ad19))) w39 (Value.slice a20 n21 n22) ∧
 J18 (b40, ()) w39) ∧
 (decide (x17 < (↑n21 : Int)) = false → ∀ (w41 : World), Bel w14 w41 → J18 (false, ()) w41)) ∧
 ∀ (b42 : Bool) (w43 : World), J18 (b42, ()) w43 → (b42 = true → J15 (x17, ()) w43) ∧ (b42 = false → J15 (x12, ()) w43)) ∧
 ∀ (x44 : Int) (w45 : World), J15 (x44, ()) w45 → J10 (x44, IntKind.i64.wrap (x13 + 1), ()) w45 ∧ J11 (x44, IntKind.i64.wrap (x13 + 1), ()) w45 < J11 (x12, x13, ()) w14) ∧
 (decide (x13 < (↑n8 : Int)) = false →
 ((x12 == x3) = true → R (Ending.returned (Value.tuple #[])) w14) ∧
 ((x12 == x3) = false →
 Calls Proofs.Try.prog 49 #[Value.pointer h', Value.int IntKind.i64 x3, Value.int IntKind.i64 x12] w14 fun (e46 : Ending) (w47 : World) =>
 e46 = Ending.returned (Value.tuple #[]) ∧ J1 (x12, ()) w47 ∧ J2 (x12, ()) w47 < J2 (x3, ()) w4))
theorem f35_eq (h' : Option Addr) (i : Int) (w : World) (R : Ending → World → Prop) : (fnF Go.Proofs.Try.prog h35 Go.Proofs.Try.f35 [Value.pointer h', Value.int IntKind.i64 i] w R).den = f35_vc h' i w R := by kernel_rfl
theorem f35_calls (h' : Option Addr) (i : Int) (w : World) (R : Ending → World → Prop) (h : f35_vc h' i w R) : Calls Go.Proofs.Try.prog 35 (List.toArray [Value.pointer h', Value.int IntKind.i64 i]) w R :=
 fn_sound (H := h35) (fn := Go.Proofs.Try.f35) (by kernel_rfl) (by kernel_rfl) (by kernel_rfl) ((f35_eq h' i w R).mpr h)


/-! manciple/mancipleref11.Put -/
def h36 : Hints := ⟨[3], [25, 36], [16, 28, 41, 21], [(7, [0, 1, 2, 3, 4, 5, 6, 7, 8, 9])], [], [(5, ⟨[(6, .sl), (7, .bool), (8, .int .i64)], []⟩)], [], [], []⟩
def f36_vc (la : Option Addr) (ln : Nat) (lc : Nat) (x_0 : Int) (x_1 : Int) (w : World) (R : Ending → World → Prop) : Prop :=
 ∀ (n1 : Nat),
 w.heap.size ≤ n1 →
 ∀ (w2 : World),
 Bel w w2 →
 Under [n1] w2 →
 Calls Proofs.Try.prog 37 #[Value.slice la ln lc, Value.int IntKind.i64 x_0] w2 fun (e3 : Ending) (w4 : World) =>
 ∃ (a5 : Option Addr),
 ∃ (n6 : Nat),
 ∃ (n7 : Nat),
 e3 = Ending.returned (Value.slice a5 n6 n7) ∧
 Keeps [n1] w2 w4 ∧
 ∃ (J8 : (Option Addr × Nat × Nat) × Bool × Int × Unit → World → Prop),
 ∃ (J9 : (Option Addr × Nat × Nat) × Bool × Int × Unit → World → Nat),
 J8 ((none, 0, 0), false, 0, ()) w4 ∧
 ∀ (a10 : Option Addr) (n11 n12 : Nat) (b13 : Bool) (x14 : Int) (w15 : World),
 J8 ((a10, n11, n12), b13, x14, ()) w15 →
 (decide (x14 < (↑n6 : Int)) = true →
 ((!b13) = true →
 ∃ (ad16 : Addr),
 Gives Proofs.Try.prog (Instr.indexAt 41 (Value.slice a5 n6 n7) (Value.int IntKind.i64 x14)) (Value.pointer (some ad16)) ∧
 ∃ (x17 : Int),
 ∃ (x18 : Int),
 Reads Proofs.Try.prog [] (Instr.loadAt 48 (Value.pointer (some ad16))) w15 (Value.agg #[Value.int IntKind.i64 x17, Value.int IntKind.i64 x18]) ∧
 ∀ (w19 : World),
 Bel w15 w19 →
 Under [n1] w19 →
 Calls Proofs.Try.prog 50 #[Value.agg #[Value.int IntKind.i64 x_0, Value.int IntKind.i64 x_1], Value.agg #[Value.int IntKind.i64 x17, Value.int IntKind.i64 x18]] w19
 fun (e20 : Ending) (w21 : World) =>
 ∃ (b22 : Bool),
 e20 = Ending.returned (Value.bool b22) ∧
 Keeps [n1] w19 w21 ∧
 (b22 = true →
 OpW Proofs.Try.prog (valueS (Instr.buildSlice 41 1 #[(0, Value.agg #[Value.int IntKind.i64 x_0, Value.int IntKind.i64 x_1])])) w21 fun (v23 : Value) (w24 : World) =>
 ∃ (a25 : Option Addr),
 ∃ (n26 : Nat),
 ∃ (n27 : Nat),
 v23 = Value.slice a25 n26 n27 ∧
 Keeps [n1] w21 w24 ∧
 OpW Proofs.Try.prog (builtin Builtin.append #[41, 41] 41 #[false, false] #[Value.slice a10 n11 n12, Value.slice a25 n26 n27]) w24
 fun (v28 : Value) (w29 : World) =>
 ∃ (a30 : Option Addr),
 ∃ (n31 : Nat),
 ∃ (n32 : Nat),
 v28 = Value.slice a30 n31 n32 ∧
 Keeps [n1] w24 w29 ∧
 ∃ (ad33 : Addr),
 Gives Proofs.Try.prog (Instr.indexAt 41 (Value.slice a5 n6 n7) (Value.int IntKind.i64 x14)) (Value.pointer (some ad33)) ∧
 ∃ (x34 : Int),
 ∃ (x35 : Int),
 Reads Proofs.Try.prog [] (Instr.loadAt 48 (Value.pointer (some ad33))) w29
 (Value.agg #[Value.int IntKind.i64 x34, Value.int IntKind.i64 x35]) ∧
 OpW Proofs.Try.prog (valueS (Instr.buildSlice 41 1 #[(0, Value.agg #[Value.int IntKind.i64 x34, Value.int IntKind.i64 x35])])) w29
 fun (v36 : Value) (w37 : World) =>
 ∃ (a38 : Option Addr),
 ∃ (n39 : Nat),
 ∃ (n40 : Nat),
 v36 = Value.slice a38 n39 n40 ∧
 Keeps [n1] w29 w37 ∧
 OpW Proofs.Try.prog (builtin Builtin.append #[41, 41] 41 #[false, false] #[Value.slice a30 n31 n32, Value.slice a38 n39 n40])
 w37 fun (v41 : Value) (w42 : World) =>
 ∃ (a43 : Option Addr),
 ∃ (n44 : Nat),
 ∃ (n45 : Nat),
 v41 = Value.slice a43 n44 n45 ∧
 Keeps [n1] w37 w42 ∧
 J8 ((a43, n44, n45), true, IntKind.i64.wrap (x14 + 1), ()) w42 ∧
 J9 ((a43, n44, n45), true, IntKind.i64.wrap (x14 + 1), ()) w42 < J9 ((a10, n11, n12), b13, x14, ()) w15) ∧
 (b22 = false →
 ∃ (ad46 : Addr),
 Gives Proofs.Try.prog (Instr.indexAt 41 (Value.slice a5 n6 n7) (Value.int IntKind.i64 x14)) (Value.pointer (some ad46)) ∧
 ∃ (x47 : Int),
 ∃ (x48 : Int),
 Reads Proofs.Try.prog [] (Instr.loadAt 48 (Value.pointer (some ad46))) w21 (Value.agg #[Value.int IntKind.i64 x47, Value.int IntKind.i64 x48]) ∧
 OpW Proofs.Try.prog (valueS (Instr.buildSlice 41 1 #[(0, Value.agg #[Value.int IntKind.i64 x47, Value.int IntKind.i64 x48])])) w21
 fun (v49 : Value) (w50 : World) =>
 ∃ (a51 : Option Addr),
 ∃ (n52 : Nat),
 ∃ (n53 : Nat),
 v49 = Value.slice a51 n52 n53 ∧
 Keeps [n1] w21 w50 ∧
 OpW Proofs.Try.prog (builtin Builtin.append #[41, 41] 41 #[false, false] #[Value.slice a10 n11 n12, Value.slice a51 n52 n53]) w50
 fun (v54 : Value) (w55 : World) =>
 ∃ (a56 : Option Addr),
 ∃ (n57 : Nat),
 ∃ (n58 : Nat),
 v54 = Value.slice a56 n57 n58 ∧
 Keeps [n1] w50 w55 ∧
 J8 ((a56, n57, n58), b13, IntKind.i64.wrap (x14 + 1), ()) w55 ∧
 J9 ((a56, n57, n58), b13, IntKind.i64.wrap (x14 + 1), ()) w55 < J9 ((a10, n11, n12), b13, x14, ()) w15)) ∧
 ((!b13) = false →
 ∃ (ad59 : Addr),
 Gives Proofs.Try.prog (Instr.indexAt 41 (Value.slice a5 n6 n7) (Value.int IntKind.i64 x14)) (Value.pointer (some ad59)) ∧
 ∃ (x60 : Int),
 ∃ (x61 : Int),
 Reads Proofs.Try.prog [] (Instr.loadAt 48 (Value.pointer (some ad59))) w15 (Value.agg #[Value.int IntKind.i64 x60, Value.int IntKind.i64 x61]) ∧
 ∀ (w62 : World),
 Bel w15 w62 →
 Under [n1] w62 →
 OpW Proofs.Try.prog (valueS (Instr.buildSlice 41 1 #[(0, Value.agg #[Value.int IntKind.i64 x60, Value.int IntKind.i64 x61])])) w62 fun (v63 : Value) (w64 : World) =>
 ∃ (a65 : Option Addr),
 ∃ (n66 : Nat),
 ∃ (n67 : Nat),
 v63 = Value.slice a65 n66 n67 ∧
 Keeps [n1] w62 w64 ∧
 OpW Proofs.Try.prog (builtin Builtin.append #[41, 41] 41 #[false, false] #[Value.slice a10 n11 n12, Value.slice a65 n66 n67]) w64 fun (v68 : Value) (w69 : World) =>
 ∃ (a70 : Option Addr),
 ∃ (n71 : Nat),
 ∃ (n72 : Nat),
 v68 = Value.slice a70 n71 n72 ∧
 Keeps [n1] w64 w69 ∧
 J8 ((a70, n71, n72), b13, IntKind.i64.wrap (x14 + 1), ()) w69 ∧
 J9 ((a70, n71, n72), b13, IntKind.i64.wrap (x14 + 1), ()) w69 < J9 ((a10, n11, n12), b13, x14, ()) w15)) ∧
 (decide (x14 < (↑n6 : Int)) = false →
 ((!b13) = true →
 OpW Proofs.Try.prog (valueS (Instr.buildSlice 41 1 #[(0, Value.agg #[Value.int IntKind.i64 x_0, Value.int IntKind.i64 x_1])])) w15 fun (v73 : Value) (w74 : World) =>
 ∃ (a75 : Option Addr),
 ∃ (n76 : Nat),
 ∃ (n77 : Nat),
 v73 = Value.slice a75 n76 n77 ∧
 Keeps [n1] w15 w74 ∧
 OpW Proofs.Try.prog (builtin Builtin.append #[41, 41] 41 #[false, false] #[Value.slice a10 n11 n12, Value.slice a75 n76 n77]) w74 fun (v78 : Value) (w79 : World) =>
 ∃ (a80 : Option Addr), ∃ (n81 : Nat), ∃ (n82 : Nat), v78 = Value.slice a80 n81 n82 ∧ Keeps [n1] w74 w79 ∧ R (Ending.returned (Value.slice a80 n81 n82)) w79) ∧
 ((!b13) = false → R (Ending.returned (Value.slice a10 n11 n12)) w15))
theorem f36_eq (la : Option Addr) (ln : Nat) (lc : Nat) (x_0 : Int) (x_1 : Int) (w : World) (R : Ending → World → Prop) : (fnF Go.Proofs.Try.prog h36 Go.Proofs.Try.f36 [Value.slice la ln lc, Value.agg #[Value.int IntKind.i64 x_0, Value.int IntKind.i64 x_1]] w R).den = f36_vc la ln lc x_0 x_1 w R := by kernel_rfl
theorem f36_calls (la : Option Addr) (ln : Nat) (lc : Nat) (x_0 : Int) (x_1 : Int) (w : World) (R : Ending → World → Prop) (h : f36_vc la ln lc x_0 x_1 w R) : Calls Go.Proofs.Try.prog 36 (List.toArray [Value.slice la ln lc, Value.agg #[Value.int IntKind.i64 x_0, Value.int IntKind.i64 x_1]]) w R :=
 fn_sound (H := h36) (fn := Go.Proofs.Try.f36) (by kernel_rfl) (by kernel_rfl) (by kernel_rfl) ((f36_eq la ln lc x_0 x_1 w R).mpr h)


/-! manciple/mancipleref11.Drop -/
def h37 : Hints := ⟨[], [15, 23], [10, 19], [], [], [(3, ⟨[(5, .sl), (6, .int .i64)], []⟩)], [], [], []⟩
def f37_vc (la : Option Addr) (ln : Nat) (lc : Nat) (key : Int) (w : World) (R : Ending → World → Prop) : Prop :=
 ∃ (J1 : (Option Addr × Nat × Nat) × Int × Unit → World → Prop),
 ∃ (J2 : (Option Addr × Nat × Nat) × Int × Unit → World → Nat),
 J1 ((none, 0, 0), 0, ()) w ∧
 ∀ (a3 : Option Addr) (n4 n5 : Nat) (x6 : Int) (w7 : World),
 J1 ((a3, n4, n5), x6, ()) w7 →
 (decide (x6 < (↑ln : Int)) = true →
 ∃ (ad8 : Addr),
 Gives Proofs.Try.prog (Instr.indexAt 41 (Value.slice la ln lc) (Value.int IntKind.i64 x6)) (Value.pointer (some ad8)) ∧
 ∃ (x9 : Int),
 Reads Proofs.Try.prog [] (Instr.loadAt 2 (Value.pointer (some ad8))) w7 (Value.int IntKind.i64 x9) ∧
 ((x9 != key) = true →
 ∃ (ad10 : Addr),
 Gives Proofs.Try.prog (Instr.indexAt 41 (Value.slice la ln lc) (Value.int IntKind.i64 x6)) (Value.pointer (some ad10)) ∧
 ∃ (x11 : Int),
 ∃ (x12 : Int),
 Reads Proofs.Try.prog [] (Instr.loadAt 48 (Value.pointer (some ad10))) w7 (Value.agg #[Value.int IntKind.i64 x11, Value.int IntKind.i64 x12]) ∧
 OpW Proofs.Try.prog (valueS (Instr.buildSlice 41 1 #[(0, Value.agg #[Value.int IntKind.i64 x11, Value.int IntKind.i64 x12])])) w7 fun (v13 : Value) (w14 : World) =>
 ∃ (a15 : Option Addr),
 ∃ (n16 : Nat),
 ∃ (n17 : Nat),
 v13 = Value.slice a15 n16 n17 ∧
 OpW Proofs.Try.prog (builtin Builtin.append #[41, 41] 41 #[false, false] #[Value.slice a3 n4 n5, Value.slice a15 n16 n17]) w14 fun (v18 : Value) (w19 : World) =>
 ∃ (a20 : Option Addr),
 ∃ (n21 : Nat),
 ∃ (n22 : Nat),
 v18 = Value.slice a20 n21 n22 ∧ J1 ((a20, n21, n22), IntKind.i64.wrap (x6 + 1), ()) w19 ∧ J2 ((a20, n21, n22), IntKind.i64.wrap (x6 + 1), ()) w19 < J2 ((a3, n4, n5), x6, ()) w7) ∧
 ((x9 != key) = false → J1 ((a3, n4, n5), IntKind.i64.wrap (x6 + 1), ()) w7 ∧ J2 ((a3, n4, n5), IntKind.i64.wrap (x6 + 1), ()) w7 < J2 ((a3, n4, n5), x6, ()) w7)) ∧
 (decide (x6 < (↑ln : Int)) = false → R (Ending.returned (Value.slice a3 n4 n5)) w7)
theorem f37_eq (la : Option Addr) (ln : Nat) (lc : Nat) (key : Int) (w : World) (R : Ending → World → Prop) : (fnF Go.Proofs.Try.prog h37 Go.Proofs.Try.f37 [Value.slice la ln lc, Value.int IntKind.i64 key] w R).den = f37_vc la ln lc key w R := by kernel_rfl
theorem f37_calls (la : Option Addr) (ln : Nat) (lc : Nat) (key : Int) (w : World) (R : Ending → World → Prop) (h : f37_vc la ln lc key w R) : Calls Go.Proofs.Try.prog 37 (List.toArray [Value.slice la ln lc, Value.int IntKind.i64 key]) w R :=
 fn_sound (H := h37) (fn := Go.Proofs.Try.f37) (by kernel_rfl) (by kernel_rfl) (by kernel_rfl) ((f37_eq la ln lc key w R).mpr h)


/-! manciple/mancipleref11.Due -/
def h38 : Hints := ⟨[], [17, 25, 33], [12, 21], [], [], [(4, ⟨[(6, .sl), (7, .sl), (8, .int .i64)], []⟩)], [], [], []⟩
def f38_vc (la : Option Addr) (ln : Nat) (lc : Nat) (now : Int) (w : World) (R : Ending → World → Prop) : Prop :=
 ∃ (J1 : (Option Addr × Nat × Nat) × (Option Addr × Nat × Nat) × Int × Unit → World → Prop),
 ∃ (J2 : (Option Addr × Nat × Nat) × (Option Addr × Nat × Nat) × Int × Unit → World → Nat),
 J1 ((none, 0, 0), (none, 0, 0), 0, ()) w ∧
 ∀ (a3 : Option Addr) (n4 n5 : Nat) (a6 : Option Addr) (n7 n8 : Nat) (x9 : Int) (w10 : World),
 J1 ((a3, n4, n5), (a6, n7, n8), x9, ()) w10 →
 (decide (x9 < (↑ln : Int)) = true →
 ∃ (ad11 : Addr),
 Gives Proofs.Try.prog (Instr.indexAt 41 (Value.slice la ln lc) (Value.int IntKind.i64 x9)) (Value.pointer (some ad11)) ∧
 ∃ (x12 : Int),
 Reads Proofs.Try.prog [] (Instr.loadAt 2 (Value.pointer (some (Addr.mk ad11.block (ad11.off + 1) none)))) w10 (Value.int IntKind.i64 x12) ∧
 (decide (x12 ≤ now) = true →
 ∃ (ad13 : Addr),
 Gives Proofs.Try.prog (Instr.indexAt 41 (Value.slice la ln lc) (Value.int IntKind.i64 x9)) (Value.pointer (some ad13)) ∧
 ∃ (x14 : Int),
 Reads Proofs.Try.prog [] (Instr.loadAt 2 (Value.pointer (some ad13))) w10 (Value.int IntKind.i64 x14) ∧
 OpW Proofs.Try.prog (valueS (Instr.buildSlice 22 1 #[(0, Value.int IntKind.i64 x14)])) w10 fun (v15 : Value) (w16 : World) =>
 ∃ (a17 : Option Addr),
 ∃ (n18 : Nat),
 ∃ (n19 : Nat),
 v15 = Value.slice a17 n18 n19 ∧
 OpW Proofs.Try.prog (builtin Builtin.append #[22, 22] 22 #[false, false] #[Value.slice a3 n4 n5, Value.slice a17 n18 n19]) w16 fun (v20 : Value) (w21 : World) =>
 ∃ (a22 : Option Addr),
 ∃ (n23 : Nat),
 ∃ (n24 : Nat),
 v20 = Value.slice a22 n23 n24 ∧
 J1 ((a22, n23, n24), (a6, n7, n8), IntKind.i64.wrap (x9 + 1), ()) w21 ∧
 J2 ((a22, n23, n24), (a6, n7, n8), IntKind.i64.wrap (x9 + 1), ()) w21 < J2 ((a3, n4, n5), (a6, n7, n8), x9, ()) w10) ∧
 (decide (x12 ≤ now) = false →
 ∃ (ad25 : Addr),
 Gives Proofs.Try.prog (Instr.indexAt 41 (Value.slice la ln lc) (Value.int IntKind.i64 x9)) (Value.pointer (some ad25)) ∧
 ∃ (x26 : Int),
 ∃ (x27 : Int),
 Reads Proofs.Try.prog [] (Instr.loadAt 48 (Value.pointer (some ad25))) w10 (Value.agg #[Value.int IntKind.i64 x26, Value.int IntKind.i64 x27]) ∧
 OpW Proofs.Try.prog (valueS (Instr.buildSlice 41 1 #[(0, Value.agg #[Value.int IntKind.i64 x26, Value.int IntKind.i64 x27])])) w10 fun (v28 : Value) (w29 : World) =>
 ∃ (a30 : Option Addr),
 ∃ (n31 : Nat),
 ∃ (n32 : Nat),
 v28 = Value.slice a30 n31 n32 ∧
 OpW Proofs.Try.prog (builtin Builtin.append #[41, 41] 41 #[false, false] #[Value.slice a6 n7 n8, Value.slice a30 n31 n32]) w29 fun (v33 : Value) (w34 : World) =>
 ∃ (a35 : Option Addr),
 ∃ (n36 : Nat),
 ∃ (n37 : Nat),
 v33 = Value.slice a35 n36 n37 ∧
 J1 ((a3, n4, n5), (a35, n36, n37), IntKind.i64.wrap (x9 + 1), ()) w34 ∧
 J2 ((a3, n4, n5), (a35, n36, n37), IntKind.i64.wrap (x9 + 1), ()) w34 < J2 ((a3, n4, n5), (a6, n7, n8), x9, ()) w10)) ∧
 (decide (x9 < (↑ln : Int)) = false → R (Ending.returned (Value.tuple #[Value.slice a3 n4 n5, Value.slice a6 n7 n8])) w10)
theorem f38_eq (la : Option Addr) (ln : Nat) (lc : Nat) (now : Int) (w : World) (R : Ending → World → Prop) : (fnF Go.Proofs.Try.prog h38 Go.Proofs.Try.f38 [Value.slice la ln lc, Value.int IntKind.i64 now] w R).den = f38_vc la ln lc now w R := by kernel_rfl
theorem f38_calls (la : Option Addr) (ln : Nat) (lc : Nat) (now : Int) (w : World) (R : Ending → World → Prop) (h : f38_vc la ln lc now w R) : Calls Go.Proofs.Try.prog 38 (List.toArray [Value.slice la ln lc, Value.int IntKind.i64 now]) w R :=
 fn_sound (H := h38) (fn := Go.Proofs.Try.f38) (by kernel_rfl) (by kernel_rfl) (by kernel_rfl) ((f38_eq la ln lc now w R).mpr h)


/-! manciple/manciplelaw11.same -/
def h39 : Hints := ⟨[], [19, 23], [10, 14, 25], [(6, [0, 1, 2, 3, 4, 5, 6, 7, 8])], [], [(4, ⟨[(5, .int .i64)], []⟩)], [], [], []⟩
def f39_vc (aa : Option Addr) (an : Nat) (ac : Nat) (ba : Option Addr) (bn : Nat) (bc : Nat) (w : World) (R : Ending → World → Prop) : Prop :=
 (((↑an : Int) != (↑bn : Int)) = true → R (Ending.returned (Value.bool false)) w) ∧
 (((↑an : Int) != (↑bn : Int)) = false →
 ∃ (J1 : Int × Unit → World → Prop),
 ∃ (J2 : Int × Unit → World → Nat),
 J1 (0, ()) w ∧
 ∀ (x3 : Int) (w4 : World),
 J1 (x3, ()) w4 →
 (decide (x3 < (↑an : Int)) = true →
 ∃ (ad5 : Addr),
 Gives Proofs.Try.prog (Instr.indexAt 22 (Value.slice aa an ac) (Value.int IntKind.i64 x3)) (Value.pointer (some ad5)) ∧
 ∃ (x6 : Int),
 Reads Proofs.Try.prog [] (Instr.loadAt 2 (Value.pointer (some ad5))) w4 (Value.int IntKind.i64 x6) ∧
 ∃ (ad7 : Addr),
 Gives Proofs.Try.prog (Instr.indexAt 22 (Value.slice ba bn bc) (Value.int IntKind.i64 x3)) (Value.pointer (some ad7)) ∧
 ∃ (x8 : Int),
 Reads Proofs.Try.prog [] (Instr.loadAt 2 (Value.pointer (some ad7))) w4 (Value.int IntKind.i64 x8) ∧
 ((x6 != x8) = true → ∀ (w9 : World), Bel w4 w9 → R (Ending.returned (Value.bool false)) w9) ∧
 ((x6 != x8) = false → ∀ (w10 : World), Bel w4 w10 → J1 (IntKind.i64.wrap (x3 + 1), ()) w10 ∧ J2 (IntKind.i64.wrap (x3 + 1), ()) w10 < J2 (x3, ()) w4)) ∧
 (decide (x3 < (↑an : Int)) = false → R (Ending.returned (Value.bool true)) w4))
theorem f39_eq (aa : Option Addr) (an : Nat) (ac : Nat) (ba : Option Addr) (bn : Nat) (bc : Nat) (w : World) (R : Ending → World → Prop) : (fnF Go.Proofs.Try.prog h39 Go.Proofs.Try.f39 [Value.slice aa an ac, Value.slice ba bn bc] w R).den = f39_vc aa an ac ba bn bc w R := by kernel_rfl
theorem f39_calls (aa : Option Addr) (an : Nat) (ac : Nat) (ba : Option Addr) (bn : Nat) (bc : Nat) (w : World) (R : Ending → World → Prop) (h : f39_vc aa an ac ba bn bc w R) : Calls Go.Proofs.Try.prog 39 (List.toArray [Value.slice aa an ac, Value.slice ba bn bc]) w R :=
 fn_sound (H := h39) (fn := Go.Proofs.Try.f39) (by kernel_rfl) (by kernel_rfl) (by kernel_rfl) ((f39_eq aa an ac ba bn bc w R).mpr h)


/-! (manciple/heap.item).ahead -/
def h48 : Hints := ⟨[2, 3], [], [10, 16], [], [], [], [], [], []⟩
def f48_vc (a_0 : Int) (a_1 : Int) (b_0 : Int) (b_1 : Int) (w : World) (R : Ending → World → Prop) : Prop :=
 ∀ (n1 : Nat),
 w.heap.size ≤ n1 →
 ∀ (n2 : Nat),
 w.heap.size ≤ n2 →
 (decide (a_1 < b_1) = true → ∀ (w3 : World), Bel w w3 → Under [n1, n2] w3 → R (Ending.returned (Value.bool true)) w3) ∧
 (decide (a_1 < b_1) = false →
 ((a_1 == b_1) = true → ∀ (w4 : World), Bel w w4 → Under [n1, n2] w4 → R (Ending.returned (Value.bool (decide (a_0 < b_0)))) w4) ∧
 ((a_1 == b_1) = false → ∀ (w5 : World), Bel w w5 → Under [n1, n2] w5 → R (Ending.returned (Value.bool false)) w5))
theorem f48_eq (a_0 : Int) (a_1 : Int) (b_0 : Int) (b_1 : Int) (w : World) (R : Ending → World → Prop) : (fnF Go.Proofs.Try.prog h48 Go.Proofs.Try.f48 [Value.agg #[Value.int IntKind.i64 a_0, Value.int IntKind.i64 a_1], Value.agg #[Value.int IntKind.i64 b_0, Value.int IntKind.i64 b_1]] w R).den = f48_vc a_0 a_1 b_0 b_1 w R := by kernel_rfl
theorem f48_calls (a_0 : Int) (a_1 : Int) (b_0 : Int) (b_1 : Int) (w : World) (R : Ending → World → Prop) (h : f48_vc a_0 a_1 b_0 b_1 w R) : Calls Go.Proofs.Try.prog 48 (List.toArray [Value.agg #[Value.int IntKind.i64 a_0, Value.int IntKind.i64 a_1], Value.agg #[Value.int IntKind.i64 b_0, Value.int IntKind.i64 b_1]]) w R :=
 fn_sound (H := h48) (fn := Go.Proofs.Try.f48) (by kernel_rfl) (by kernel_rfl) (by kernel_rfl) ((f48_eq a_0 a_1 b_0 b_1 w R).mpr h)


/-! (*manciple/heap.Heap).swap -/
def h49 : Hints := ⟨[6, 7], [9, 13, 16, 20, 31, 35], [], [], [], [], [], [], [(0, (.op 0 (.op 1 (.op 2 (.op 3 (.op 4 (.op 5 (.op 6 (.op 7 (.op 8 (.op 9 (.op 10 (.op 11 (.op 12 (.op 13 (.alt (.op 14 (.op 15 (.op 16 (.op 17 .nil)))) (.op 15 (.op 14 (.op 16 (.op 17 .nil))))))))))))))))))))]⟩
def f49_vc (h' : Option Addr) (i : Int) (k : Int) (w : World) (R : Ending → World → Prop) : Prop :=
 ∃ (ad1 : Addr),
 h' = some ad1 ∧
 ∃ (a2 : Option Addr),
 ∃ (n3 : Nat),
 ∃ (n4 : Nat),
 Reads Proofs.Try.prog [] (Instr.loadAt 36 (Value.pointer (some ad1))) w (Value.slice a2 n3 n4) ∧
 ∃ (ad5 : Addr),
 Gives Proofs.Try.prog (Instr.indexAt 36 (Value.slice a2 n3 n4) (Value.int IntKind.i64 i)) (Value.pointer (some ad5)) ∧
 ∃ (x6 : Int),
 ∃ (x7 : Int),
 Reads Proofs.Try.prog [] (Instr.loadAt 80 (Value.pointer (some ad5))) w (Value.agg #[Value.int IntKind.i64 x6, Value.int IntKind.i64 x7]) ∧
 ∃ (ad8 : Addr),
 h' = some ad8 ∧
 ∃ (a9 : Option Addr),
 ∃ (n10 : Nat),
 ∃ (n11 : Nat),
 Reads Proofs.Try.prog [] (Instr.loadAt 36 (Value.pointer (some ad8))) w (Value.slice a9 n10 n11) ∧
 ∃ (ad12 : Addr),
 Gives Proofs.Try.prog (Instr.indexAt 36 (Value.slice a9 n10 n11) (Value.int IntKind.i64 k)) (Value.pointer (some ad12)) ∧
 ∃ (x13 : Int),
 ∃ (x14 : Int),
 Reads Proofs.Try.prog [] (Instr.loadAt 80 (Value.pointer (some ad12))) w (Value.agg #[Value.int IntKind.i64 x13, Value.int IntKind.i64 x14]) ∧
 (∀ (n15 : Nat),
 w.heap.size ≤ n15 →
 Reads Proofs.Try.prog [] (Instr.loadAt 80 (Value.pointer (some ad12))) w (Value.agg #[Value.int IntKind.i64 x13, Value.int IntKind.i64 x14]) ∧
 Reads Proofs.Try.prog [] (Instr.loadAt 36 (Value.pointer (some ad8))) w (Value.slice a9 n10 n11) ∧
 Reads Proofs.Try.prog [] (Instr.loadAt 80 (Value.pointer (some ad5))) w (Value.agg #[Value.int IntKind.i64 x6, Value.int IntKind.i64 x7]) ∧
 Reads Proofs.Try.prog [] (Instr.loadAt 36 (Value.pointer (some ad1))) w (Value.slice a2 n3 n4) ∧
 ∀ (n16 : Nat),
 w.heap.size ≤ n16 →
 Reads Proofs.Try.prog [] (Instr.loadAt 80 (Value.pointer (some ad12))) w (Value.agg #[Value.int IntKind.i64 x13, Value.int IntKind.i64 x14]) ∧
 Reads Proofs.Try.prog [] (Instr.loadAt 36 (Value.pointer (some ad8))) w (Value.slice a9 n10 n11) ∧
 Reads Proofs.Try.prog [] (Instr.loadAt 80 (Value.pointer (some ad5))) w (Value.agg #[Value.int IntKind.i64 x6, Value.int IntKind.i64 x7]) ∧
 Reads Proofs.Try.prog [] (Instr.loadAt 36 (Value.pointer (some ad1))) w (Value.slice a2 n3 n4) ∧
 Reads Proofs.Try.prog [n15] (Instr.loadAt 80 (Value.pointer (some ad12))) w (Value.agg #[Value.int IntKind.i64 x13, Value.int IntKind.i64 x14]) ∧
 Reads Proofs.Try.prog [n15] (Instr.loadAt 36 (Value.pointer (some ad8))) w (Value.slice a9 n10 n11) ∧
 ∀ (w17 : World),
 Evo [n16, n15] w w17 →
 Under [n15, n16] w17 →
 Calls Proofs.Try.prog 33 #[Value.pointer h', Value.int IntKind.i64 i, Value.agg #[Value.int IntKind.i64 x13, Value.int IntKind.i64 x14]] w17
 fun (e18 : Ending) (w19 : World) =>
 e18 = Ending.returned (Value.tuple #[]) ∧
 Keeps [n15, n16] w17 w19 ∧
 Calls Proofs.Try.prog 33 #[Value.pointer h', Value.int IntKind.i64 k, Value.agg #[Value.int IntKind.i64 x6, Value.int IntKind.i64 x7]] w19
 fun (e20 : Ending) (w21 : World) =>
 e20 = Ending.returned (Value.tuple #[]) ∧
 Keeps [n15, n16] w19 w21 ∧
 ∃ (ad22 : Addr),
 h' = some ad22 ∧
 ∃ (x23 : Int),
 Reads Proofs.Try.prog [] (Instr.loadAt 3 (Value.pointer (some (Addr.mk ad22.block (ad22.off + 2) none)))) w21 (Value.int IntKind.i64 x23) ∧
 ∃ (ad24 : Addr),
 h' = some ad24 ∧
 OpW Proofs.Try.prog
 (skipS
 (Instr.storeAt 3 (Value.pointer (some (Addr.mk ad24.block (ad24.off + 2) none)))
 (Value.int IntKind.i64 (IntKind.i64.wrap (x23 + 1)))))
 w21 fun (v25 : Value) (w26 : World) => Keeps [n15, n16] w21 w26 ∧ R (Ending.returned (Value.tuple #[])) w26) ∧
 ∀ (n27 : Nat),
 w.heap.size ≤ n27 →
 Reads Proofs.Try.prog [] (Instr.loadAt 80 (Value.pointer (some ad12))) w (Value.agg #[Value.int IntKind.i64 x13, Value.int IntKind.i64 x14]) ∧
 Reads Proofs.Try.prog [] (Instr.loadAt 36 (Value.pointer (some ad8))) w (Value.slice a9 n10 n11) ∧
 Reads Proofs.Try.prog [] (Instr.loadAt 80 (Value.pointer (some ad5))) w (Value.agg #[Value.int IntKind.i64 x6, Value.int IntKind.i64 x7]) ∧
 Reads Proofs.Try.prog [] (Instr.loadAt 36 (Value.pointer (some ad1))) w (Value.slice a2 n3 n4) ∧
 ∀ (n28 : Nat),
 w.heap.size ≤ n28 →
 Reads Proofs.Try.prog [] (Instr.loadAt 80 (Value.pointer (some ad12))) w (Value.agg #[Value.int IntKind.i64 x13, Value.int IntKind.i64 x14]) ∧
 Reads Proofs.Try.prog [] (Instr.loadAt 36 (Value.pointer (some ad8))) w (Value.slice a9 n10 n11) ∧
 Reads Proofs.Try.prog [] (Instr.loadAt 80 (Value.pointer (some ad5))) w (Value.agg #[Value.int IntKind.i64 x6, Value.int IntKind.i64 x7]) ∧
 Reads Proofs.Try.prog [] (Instr.loadAt 36 (Value.pointer (some ad1))) w (Value.slice a2 n3 n4) ∧
 Reads Proofs.Try.prog [n28] (Instr.loadAt 80 (Value.pointer (some ad12))) w (Value.agg #[Value.int IntKind.i64 x13, Value.int IntKind.i64 x14]) ∧
 Reads Proofs.Try.prog [n28] (Instr.loadAt 36 (Value.pointer (some ad8))) w (Value.slice a9 n10 n11) ∧
 ∀ (w29 : World),
 Evo [n27, n28] w w29 →
 Under [n27, n28] w29 →
 Calls Proofs.Try.prog 33 #[Value.pointer h', Value.int IntKind.i64 i, Value.agg #[Value.int IntKind.i64 x13, Value.int IntKind.i64 x14]] w29
 fun (e30 : Ending) (w31 : World) =>
 e30 = Ending.returned (Value.tuple #[]) ∧
 Keeps [n27, n28] w29 w31 ∧
 Calls Proofs.Try.prog 33 #[Value.pointer h', Value.int IntKind.i64 k, Value.agg #[Value.int IntKind.i64 x6, Value.int IntKind.i64 x7]] w31
 fun (e32 : Ending) (w33 : World) =>
 e32 = Ending.returned (Value.tuple #[]) ∧
 Keeps [n27, n28] w31 w33 ∧
 ∃ (ad34 : Addr),
 h' = some ad34 ∧
 ∃ (x35 : Int),
 Reads Proofs.Try.prog [] (Instr.loadAt 3 (Value.pointer (some (Addr.mk ad34.block (ad34.off + 2) none)))) w33 (Value.int IntKind.i64 x35) ∧
 ∃ (ad36 : Addr),
 h' = some ad36 ∧
 OpW Proofs.Try.prog
 (skipS
 (Instr.storeAt 3 (Value.pointer (some (Addr.mk ad36.block (ad36.off + 2) none)))
 (Value.int IntKind.i64 (IntKind.i64.wrap (x35 + 1)))))
 w33 fun (v37 : Value) (w38 : World) => Keeps [n27, n28] w33 w38 ∧ R (Ending.returned (Value.tuple #[])) w38
theorem f49_eq (h' : Option Addr) (i : Int) (k : Int) (w : World) (R : Ending → World → Prop) : (fnF Go.Proofs.Try.prog h49 Go.Proofs.Try.f49 [Value.pointer h', Value.int IntKind.i64 i, Value.int IntKind.i64 k] w R).den = f49_vc h' i k w R := by kernel_rfl
theorem f49_calls (h' : Option Addr) (i : Int) (k : Int) (w : World) (R : Ending → World → Prop) (h : f49_vc h' i k w R) : Calls Go.Proofs.Try.prog 49 (List.toArray [Value.pointer h', Value.int IntKind.i64 i, Value.int IntKind.i64 k]) w R :=
 fn_sound (H := h49) (fn := Go.Proofs.Try.f49) (by kernel_rfl) (by kernel_rfl) (by kernel_rfl) ((f49_eq h' i k w R).mpr h)


/-! manciple/mancipleref11.ahead -/
def h50 : Hints := ⟨[2, 3], [], [10, 16], [], [], [], [], [], []⟩
def f50_vc (a_0 : Int) (a_1 : Int) (b_0 : Int) (b_1 : Int) (w : World) (R : Ending → World → Prop) : Prop :=
 ∀ (n1 : Nat),
 w.heap.size ≤ n1 →
 ∀ (n2 : Nat),
 w.heap.size ≤ n2 →
 (decide (a_1 < b_1) = true → ∀ (w3 : World), Bel w w3 → Under [n1, n2] w3 → R (Ending.returned (Value.bool true)) w3) ∧
 (decide (a_1 < b_1) = false →
 ((a_1 == b_1) = true → ∀ (w4 : World), Bel w w4 → Under [n1, n2] w4 → R (Ending.returned (Value.bool (decide (a_0 < b_0)))) w4) ∧
 ((a_1 == b_1) = false → ∀ (w5 : World), Bel w w5 → Under [n1, n2] w5 → R (Ending.returned (Value.bool false)) w5))
theorem f50_eq (a_0 : Int) (a_1 : Int) (b_0 : Int) (b_1 : Int) (w : World) (R : Ending → World → Prop) : (fnF Go.Proofs.Try.prog h50 Go.Proofs.Try.f50 [Value.agg #[Value.int IntKind.i64 a_0, Value.int IntKind.i64 a_1], Value.agg #[Value.int IntKind.i64 b_0, Value.int IntKind.i64 b_1]] w R).den = f50_vc a_0 a_1 b_0 b_1 w R := by kernel_rfl
theorem f50_calls (a_0 : Int) (a_1 : Int) (b_0 : Int) (b_1 : Int) (w : World) (R : Ending → World → Prop) (h : f50_vc a_0 a_1 b_0 b_1 w R) : Calls Go.Proofs.Try.prog 50 (List.toArray [Value.agg #[Value.int IntKind.i64 a_0, Value.int IntKind.i64 a_1], Value.agg #[Value.int IntKind.i64 b_0, Value.int IntKind.i64 b_1]]) w R :=
 fn_sound (H := h50) (fn := Go.Proofs.Try.f50) (by kernel_rfl) (by kernel_rfl) (by kernel_rfl) ((f50_eq a_0 a_1 b_0 b_1 w R).mpr h)

end Vcc
