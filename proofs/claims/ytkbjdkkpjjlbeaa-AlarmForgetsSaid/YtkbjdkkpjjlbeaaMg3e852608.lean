/- Own texts of this claim, laid together: Fc1, VcKeys, VcStore, Hp1, Hp2, Hp3, Hp4, Hp5, Hp6, Hp7, Hp8, HpS, Hp9, HpW, HpT, VcMap2, VcRange, Al2. -/
import Derived.Test.YtkbjdkkpjjlbeaaMg1b62ec94
import Derived.Test.YtkbjdkkpjjlbeaaProg
import Derived.MapKept
import Derived.Maps.RangeRun

/- The formulas of functions, printed by a program (VcTool.lean): each is what the generator's formula comes to, by the kernel's reckoning; whoever proves one has the function's contract. -/
set_option maxRecDepth 100000
set_option maxHeartbeats 1000000
set_option linter.unusedVariables false
namespace Vcc
open Go Go.Vc Go.RowKit
/-! manciple/manciplelaw11.HeapPlays -/
def h5 : Hints := ⟨[], [29, 47, 56, 77, 84, 103], [16, 21, 35, 116, 65, 72, 74, 81, 91, 97, 99, 109, 112], [], [], [(6, ⟨[(4, .sl), (5, .int .i64)], []⟩)], [], [], []⟩
def f5_vc (actsa : Option Addr) (actsn : Nat) (actsc : Nat) (w : World) (R : Ending → World → Prop) : Prop :=
 (decide ((↑actsn : Int) > 150) = true → R (Ending.returned (Value.bool true)) w) ∧
 (decide ((↑actsn : Int) > 150) = false →
 Calls Proofs.Try.prog 9 #[] w fun (e1 : Ending) (w2 : World) =>
 ∃ (a3 : Option Addr),
 e1 = Ending.returned (Value.pointer a3) ∧
 ∃ (J4 : (Option Addr × Nat × Nat) × Int × Unit → World → Prop),
 ∃ (J5 : (Option Addr × Nat × Nat) × Int × Unit → World → Nat),
 J4 ((none, 0, 0), 0, ()) w2 ∧
 ∀ (a6 : Option Addr) (n7 n8 : Nat) (x9 : Int) (w10 : World),
 J4 ((a6, n7, n8), x9, ()) w10 →
 (decide (x9 < (↑actsn : Int)) = true →
 ∃ (ad11 : Addr),
 Gives Proofs.Try.prog (Instr.indexAt 30 (Value.slice actsa actsn actsc) (Value.int IntKind.i64 x9)) (Value.pointer (some ad11)) ∧
 ∃ (x12 : Int),
 ∃ (x13 : Int),
 ∃ (x14 : Int),
 Reads Proofs.Try.prog [] (Instr.loadAt 33 (Value.pointer (some ad11))) w10 (Value.agg #[Value.int IntKind.i64 x12, Value.int IntKind.i64 x13, Value.int IntKind.i64 x14]) ∧
 Calls Proofs.Try.prog 17 #[Value.pointer a3, Value.slice a6 n7 n8, Value.agg #[Value.int IntKind.i64 x12, Value.int IntKind.i64 x13, Value.int IntKind.i64 x14]] w10 fun (e15 : Ending) (w16 : World) =>
 ∃ (a17 : Option Addr),
 ∃ (n18 : Nat),
 ∃ (n19 : Nat),
 ∃ (b20 : Bool),
 e15 = Ending.returned (Value.tuple #[Value.slice a17 n18 n19, Value.bool b20]) ∧
 ((!b20) = true → R (Ending.returned (Value.bool false)) w16) ∧
 ((!b20) = false →
 Calls Proofs.Try.prog 18 #[Value.pointer a3] w16 fun (e21 : Ending) (w22 : World) =>
 ∃ (x23 : Int),
 ∃ (x24 : Int),
 ∃ (b25 : Bool),
 e21 = Ending.returned (Value.tuple #[Value.int IntKind.i64 x23, Value.int IntKind.i64 x24, Value.bool b25]) ∧
 ∃ (ad26 : Addr),
 Gives Proofs.Try.prog (Instr.indexAt 30 (Value.slice actsa actsn actsc) (Value.int IntKind.i64 x9)) (Value.pointer (some ad26)) ∧
 ∃ (x27 : Int),
 Reads Proofs.Try.prog [] (Instr.loadAt 2 (Value.pointer (some (Addr.mk ad26.block (ad26.off + 1) none)))) w22 (Value.int IntKind.i64 x27) ∧
 Calls Proofs.Try.prog 19 #[Value.pointer a3, Value.int IntKind.i64 x27] w22 fun (e28 : Ending) (w29 : World) =>
 ∃ (x30 : Int),
 ∃ (b31 : Bool),
 e28 = Ending.returned (Value.tuple #[Value.int IntKind.i64 x30, Value.bool b31]) ∧
 ∃ (ad32 : Addr),
 Gives Proofs.Try.prog (Instr.indexAt 30 (Value.slice actsa actsn actsc) (Value.int IntKind.i64 x9)) (Value.pointer (some ad32)) ∧
 ∃ (x33 : Int),
 Reads Proofs.Try.prog [] (Instr.loadAt 2 (Value.pointer (some (Addr.mk ad32.block (ad32.off + 1) none)))) w29 (Value.int IntKind.i64 x33) ∧
 Calls Proofs.Try.prog 20 #[Value.slice a17 n18 n19, Value.int IntKind.i64 x33] w29 fun (e34 : Ending) (w35 : World) =>
 ∃ (x36 : Int),
 e34 = Ending.returned (Value.int IntKind.i64 x36) ∧
 Calls Proofs.Try.prog 13 #[Value.pointer a3] w35 fun (e37 : Ending) (w38 : World) =>
 ∃ (x39 : Int),
 e37 = Ending.returned (Value.int IntKind.i64 x39) ∧
 ((x39 != (↑n18 : Int)) = true → R (Ending.returned (Value.bool false)) w38) ∧
 ((x39 != (↑n18 : Int)) = false →
 ((!b25 == decide ((↑n18 : Int) > 0)) = true → R (Ending.returned (Value.bool false)) w38) ∧
 ((!b25 == decide ((↑n18 : Int) > 0)) = false →
 (b25 = true →
 ∃ (ad40 : Addr),
 Gives Proofs.Try.prog (Instr.indexAt 41 (Value.slice a17 n18 n19) (Value.int IntKind.i64 0)) (Value.pointer (some ad40)) ∧
 ∃ (x41 : Int),
 Reads Proofs.Try.prog [] (Instr.loadAt 2 (Value.pointer (some ad40))) w38 (Value.int IntKind.i64 x41) ∧
 ((x23 != x41) = true → R (Ending.returned (Value.bool false)) w38) ∧
 ((x23 != x41) = false →
 ∃ (ad42 : Addr),
 Gives Proofs.Try.prog (Instr.indexAt 41 (Value.slice a17 n18 n19) (Value.int IntKind.i64 0))
 (Value.pointer (some ad42)) ∧
 ∃ (x43 : Int),
 Reads Proofs.Try.prog [] (Instr.loadAt 2 (Value.pointer (some (Addr.mk ad42.block (ad42.off + 1) none)))) w38
 (Value.int IntKind.i64 x43) ∧
 ((x24 != x43) = true → R (Ending.returned (Value.bool false)) w38) ∧
 ((x24 != x43) = false →
 ((!b31 == decide (x36 ≥ 0)) = true → R (Ending.returned (Value.bool false)) w38) ∧
 ((!b31 == decide (x36 ≥ 0)) = false →
 (b31 = true →
 ∃ (ad44 : Addr),
 Gives Proofs.Try.prog (Instr.indexAt 41 (Value.slice a17 n18 n19) (Value.int IntKind.i64 x36))
 (Value.pointer (some ad44)) ∧
 ∃ (x45 : Int),
 Reads Proofs.Try.prog []
 (Instr.loadAt 2 (Value.pointer (some (Addr.mk ad44.block (ad44.off + 1) none)))) w38
 (Value.int IntKind.i64 x45) ∧
 ((x30 != x45) = true → R (Ending.returned (Value.bool false)) w38) ∧
 ((x30 != x45) = false →
 ((!b31) = true →
 ((x30 != 0) = true → R (Ending.returned (Value.bool false)) w38) ∧
 ((x30 != 0) = false →
 J4 ((a17, n18, n19), IntKind.i64.wrap (x9 + 1), ()) w38 ∧
 J5 ((a17, n18, n19), IntKind.i64.wrap (x9 + 1), ()) w38 <
 J5 ((a6, n7, n8), x9, ()) w10)) ∧
 ((!b31) = false →
 J4 ((a17, n18, n19), IntKind.i64.wrap (x9 + 1), ()) w38 ∧
 J5 ((a17, n18, n19), IntKind.i64.wrap (x9 + 1), ()) w38 <
 J5 ((a6, n7, n8), x9, ()) w10))) ∧
 (b31 = false →
 ((!b31) = true →
 ((x30 != 0) = true → R (Ending.returned (Value.bool false)) w38) ∧
 ((x30 != 0) = false →
 J4 ((a17, n18, n19), IntKind.i64.wrap (x9 + 1), ()) w38 ∧
 J5 ((a17, n18, n19), IntKind.i64.wrap (x9 + 1), ()) w38 <
 J5 ((a6, n7, n8), x9, ()) w10)) ∧
 ((!b31) = false →
 J4 ((a17, n18, n19), IntKind.i64.wrap (x9 + 1), ()) w38 ∧
 J5 ((a17, n18, n19), IntKind.i64.wrap (x9 + 1), ()) w38 <
 J5 ((a6, n7, n8), x9, ()) w10)))))) ∧
 (b25 = false →
 ((!b31 == decide (x36 ≥ 0)) = true → R (Ending.returned (Value.bool false)) w38) ∧
 ((!b31 == decide (x36 ≥ 0)) = false →
 (b31 = true →
 ∃ (ad46 : Addr),
 Gives Proofs.Try.prog (Instr.indexAt 41 (Value.slice a17 n18 n19) (Value.int IntKind.i64 x36))
 (Value.pointer (some ad46)) ∧
 ∃ (x47 : Int),
 Reads Proofs.Try.prog [] (Instr.loadAt 2 (Value.pointer (some (Addr.mk ad46.block (ad46.off + 1) none)))) w38
 (Value.int IntKind.i64 x47) ∧
 ((x30 != x47) = true → R (Ending.returned (Value.bool false)) w38) ∧
 ((x30 != x47) = false →
 ((!b31) = true →
 ((x30 != 0) = true → R (Ending.returned (Value.bool false)) w38) ∧
 ((x30 != 0) = false →
 J4 ((a17, n18, n19), IntKind.i64.wrap (x9 + 1), ()) w38 ∧
 J5 ((a17, n18, n19), IntKind.i64.wrap (x9 + 1), ()) w38 < J5 ((a6, n7, n8), x9, ()) w10)) ∧
 ((!b31) = false →
 J4 ((a17, n18, n19), IntKind.i64.wrap (x9 + 1), ()) w38 ∧
 J5 ((a17, n18, n19), IntKind.i64.wrap (x9 + 1), ()) w38 < J5 ((a6, n7, n8), x9, ()) w10))) ∧
 (b31 = false →
 ((!b31) = true →
 ((x30 != 0) = true → R (Ending.returned (Value.bool false)) w38) ∧
 ((x30 != 0) = false →
 J4 ((a17, n18, n19), IntKind.i64.wrap (x9 + 1), ()) w38 ∧
 J5 ((a17, n18, n19), IntKind.i64.wrap (x9 + 1), ()) w38 < J5 ((a6, n7, n8), x9, ()) w10)) ∧
 ((!b31) = false →
 J4 ((a17, n18, n19), IntKind.i64.wrap (x9 + 1), ()) w38 ∧
 J5 ((a17, n18, n19), IntKind.i64.wrap (x9 + 1), ()) w38 < J5 ((a6, n7, n8), x9, ()) w10)))))))) ∧
 (decide (x9 < (↑actsn : Int)) = false → Calls Proofs.Try.prog 12 #[] w10 fun (e48 : Ending) (w49 : World) => ∃ (b50 : Bool), e48 = Ending.returned (Value.bool b50) ∧ R (Ending.returned (Value.bool b50)) w49))
theorem f5_eq (actsa : Option Addr) (actsn : Nat) (actsc : Nat) (w : World) (R : Ending → World → Prop) : (fnF Go.Proofs.Try.prog h5 Go.Proofs.Try.f5 [Value.slice actsa actsn actsc] w R).den = f5_vc actsa actsn actsc w R := by kernel_rfl
theorem f5_calls (actsa : Option Addr) (actsn : Nat) (actsc : Nat) (w : World) (R : Ending → World → Prop) (h : f5_vc actsa actsn actsc w R) : Calls Go.Proofs.Try.prog 5 (List.toArray [Value.slice actsa actsn actsc]) w R :=
 fn_sound (H := h5) (fn := Go.Proofs.Try.f5) (by kernel_rfl) (by kernel_rfl) (by kernel_rfl) ((f5_eq actsa actsn actsc w R).mpr h)


/-! manciple/heap.New -/
def h9 : Hints := ⟨[], [], [], [], [], [], [], [], []⟩
def f9_vc  (w : World) (R : Ending → World → Prop) : Prop :=
 OpW Proofs.Try.prog (valueS (Instr.makeMap 37 none)) w fun (v1 : Value) (w2 : World) =>
 ∃ (r3 : Option Nat),
 v1 = Value.map r3 ∧
 OpW Proofs.Try.prog (valueS (Instr.box 39 (Value.agg #[Value.slice none 0 0, Value.map r3, Value.int IntKind.i64 0]))) w2 fun (v4 : Value) (w5 : World) =>
 ∃ (ad6 : Addr), v4 = Value.pointer (some ad6) ∧ R (Ending.returned (Value.pointer (some ad6))) w5
theorem f9_eq  (w : World) (R : Ending → World → Prop) : (fnF Go.Proofs.Try.prog h9 Go.Proofs.Try.f9 [] w R).den = f9_vc  w R := by kernel_rfl
theorem f9_calls  (w : World) (R : Ending → World → Prop) (h : f9_vc  w R) : Calls Go.Proofs.Try.prog 9 (List.toArray []) w R :=
 fn_sound (H := h9) (fn := Go.Proofs.Try.f9) (by kernel_rfl) (by kernel_rfl) (by kernel_rfl) ((f9_eq  w R).mpr h)


/-! (*manciple/heap.Heap).Put -/
def h10 : Hints := ⟨[], [14, 24, 30, 36, 49], [11, 22], [], [], [], [], [], []⟩
def f10_vc (h' : Option Addr) (key : Int) (at' : Int) (w : World) (R : Ending → World → Prop) : Prop :=
 Calls Proofs.Try.prog 32 #[Value.pointer h'] w fun (e1 : Ending) (w2 : World) =>
 ∃ (b3 : Bool),
 e1 = Ending.returned (Value.bool b3) ∧
 ((!b3) = true → R (Ending.returned (Value.bool false)) w2) ∧
 ((!b3) = false →
 ∃ (ad4 : Addr),
 h' = some ad4 ∧
 ∃ (r5 : Option Nat),
 Reads Proofs.Try.prog [] (Instr.loadAt 37 (Value.pointer (some (Addr.mk ad4.block (ad4.off + 1) none)))) w2 (Value.map r5) ∧
 ∃ (x6 : Int),
 ∃ (b7 : Bool),
 Reads Proofs.Try.prog [] (Instr.lookup 37 (Value.map r5) (Value.int IntKind.i64 key) true) w2 (Value.tuple #[Value.int IntKind.i64 x6, Value.bool b7]) ∧
 ((!b7) = true →
 ∃ (ad8 : Addr),
 h' = some ad8 ∧
 ∃ (a9 : Option Addr),
 ∃ (n10 : Nat),
 ∃ (n11 : Nat),
 Reads Proofs.Try.prog [] (Instr.loadAt 36 (Value.pointer (some ad8))) w2 (Value.slice a9 n10 n11) ∧
 ∃ (ad12 : Addr),
 h' = some ad12 ∧
 ∃ (a13 : Option Addr),
 ∃ (n14 : Nat),
 ∃ (n15 : Nat),
 Reads Proofs.Try.prog [] (Instr.loadAt 36 (Value.pointer (some ad12))) w2 (Value.slice a13 n14 n15) ∧
 OpW Proofs.Try.prog (valueS (Instr.buildSlice 36 1 #[(0, Value.agg #[Value.int IntKind.i64 0, Value.int IntKind.i64 0])])) w2 fun (v16 : Value) (w17 : World) =>
 ∃ (a18 : Option Addr),
 ∃ (n19 : Nat),
 ∃ (n20 : Nat),
 v16 = Value.slice a18 n19 n20 ∧
 OpW Proofs.Try.prog (builtin Builtin.append #[36, 36] 36 #[false, false] #[Value.slice a13 n14 n15, Value.slice a18 n19 n20]) w17 fun (v21 : Value) (w22 : World) =>
 ∃ (a23 : Option Addr),
 ∃ (n24 : Nat),
 ∃ (n25 : Nat),
 v21 = Value.slice a23 n24 n25 ∧
 ∃ (ad26 : Addr),
 h' = some ad26 ∧
 OpW Proofs.Try.prog (skipS (Instr.storeAt 36 (Value.pointer (some ad26)) (Value.slice a23 n24 n25))) w22 fun (v27 : Value) (w28 : World) =>
 Calls Proofs.Try.prog 33 #[Value.pointer h', Value.int IntKind.i64 (↑n10 : Int), Value.agg #[Value.int IntKind.i64 key, Value.int IntKind.i64 at']] w28
 fun (e29 : Ending) (w30 : World) =>
 e29 = Ending.returned (Value.tuple #[]) ∧
 Calls Proofs.Try.prog 34 #[Value.pointer h', Value.int IntKind.i64 (↑n10 : Int)] w30 fun (e31 : Ending) (w32 : World) =>
 e31 = Ending.returned (Value.tuple #[]) ∧
 ∃ (ad33 : Addr),
 h' = some ad33 ∧
 ∃ (r34 : Option Nat),
 Reads Proofs.Try.prog [] (Instr.loadAt 37 (Value.pointer (some (Addr.mk ad33.block (ad33.off + 1) none)))) w32 (Value.map r34) ∧
 ∃ (x35 : Int),
 Reads Proofs.Try.prog [] (Instr.lookup 37 (Value.map r34) (Value.int IntKind.i64 key) false) w32 (Value.int IntKind.i64 x35) ∧
 Calls Proofs.Try.prog 35 #[Value.pointer h', Value.int IntKind.i64 x35] w32 fun (e36 : Ending) (w37 : World) =>
 e36 = Ending.returned (Value.tuple #[]) ∧ R (Ending.returned (Value.bool !b7)) w37) ∧
 ((!b7) = false →
 Calls Proofs.Try.prog 33 #[Value.pointer h', Value.int IntKind.i64 x6, Value.agg #[Value.int IntKind.i64 key, Value.int IntKind.i64 at']] w2 fun (e38 : Ending) (w39 : World) =>
 e38 = Ending.returned (Value.tuple #[]) ∧
 Calls Proofs.Try.prog 34 #[Value.pointer h', Value.int IntKind.i64 x6] w39 fun (e40 : Ending) (w41 : World) =>
 e40 = Ending.returned (Value.tuple #[]) ∧
 ∃ (ad42 : Addr),
 h' = some ad42 ∧
 ∃ (r43 : Option Nat),
 Reads Proofs.Try.prog [] (Instr.loadAt 37 (Value.pointer (some (Addr.mk ad42.block (ad42.off + 1) none)))) w41 (Value.map r43) ∧
 ∃ (x44 : Int),
 Reads Proofs.Try.prog [] (Instr.lookup 37 (Value.map r43) (Value.int IntKind.i64 key) false) w41 (Value.int IntKind.i64 x44) ∧
 Calls Proofs.Try.prog 35 #[Value.pointer h', Value.int IntKind.i64 x44] w41 fun (e45 : Ending) (w46 : World) =>
 e45 = Ending.returned (Value.tuple #[]) ∧ R (Ending.returned (Value.bool !b7)) w46))
theorem f10_eq (h' : Option Addr) (key : Int) (at' : Int) (w : World) (R : Ending → World → Prop) : (fnF Go.Proofs.Try.prog h10 Go.Proofs.Try.f10 [Value.pointer h', Value.int IntKind.i64 key, Value.int IntKind.i64 at'] w R).den = f10_vc h' key at' w R := by kernel_rfl
theorem f10_calls (h' : Option Addr) (key : Int) (at' : Int) (w : World) (R : Ending → World → Prop) (h : f10_vc h' key at' w R) : Calls Go.Proofs.Try.prog 10 (List.toArray [Value.pointer h', Value.int IntKind.i64 key, Value.int IntKind.i64 at']) w R :=
 fn_sound (H := h10) (fn := Go.Proofs.Try.f10) (by kernel_rfl) (by kernel_rfl) (by kernel_rfl) ((f10_eq h' key at' w R).mpr h)


/-! (*manciple/heap.Heap).Pop -/
def h11 : Hints := ⟨[], [], [14], [], [], [], [], [], []⟩
def f11_vc (h' : Option Addr) (w : World) (R : Ending → World → Prop) : Prop :=
 Calls Proofs.Try.prog 18 #[Value.pointer h'] w fun (e1 : Ending) (w2 : World) =>
 ∃ (x3 : Int),
 ∃ (x4 : Int),
 ∃ (b5 : Bool),
 e1 = Ending.returned (Value.tuple #[Value.int IntKind.i64 x3, Value.int IntKind.i64 x4, Value.bool b5]) ∧
 (b5 = true →
 Calls Proofs.Try.prog 14 #[Value.pointer h', Value.int IntKind.i64 x3] w2 fun (e6 : Ending) (w7 : World) =>
 ∃ (b8 : Bool), e6 = Ending.returned (Value.bool b8) ∧ R (Ending.returned (Value.tuple #[Value.int IntKind.i64 x3, Value.int IntKind.i64 x4, Value.bool b5])) w7) ∧
 (b5 = false → R (Ending.returned (Value.tuple #[Value.int IntKind.i64 x3, Value.int IntKind.i64 x4, Value.bool b5])) w2)
theorem f11_eq (h' : Option Addr) (w : World) (R : Ending → World → Prop) : (fnF Go.Proofs.Try.prog h11 Go.Proofs.Try.f11 [Value.pointer h'] w R).den = f11_vc h' w R := by kernel_rfl
theorem f11_calls (h' : Option Addr) (w : World) (R : Ending → World → Prop) (h : f11_vc h' w R) : Calls Go.Proofs.Try.prog 11 (List.toArray [Value.pointer h']) w R :=
 fn_sound (H := h11) (fn := Go.Proofs.Try.f11) (by kernel_rfl) (by kernel_rfl) (by kernel_rfl) ((f11_eq h' w R).mpr h)


/-! manciple/manciplelaw11.works -/
def h12 : Hints := ⟨[], [], [22, 25, 29, 33, 37, 40], [], [], [], [], [], []⟩
def f12_vc  (w : World) (R : Ending → World → Prop) : Prop :=
 Calls Proofs.Try.prog 9 #[] w fun (e1 : Ending) (w2 : World) =>
 ∃ (a3 : Option Addr),
 e1 = Ending.returned (Value.pointer a3) ∧
 Calls Proofs.Try.prog 10 #[Value.pointer a3, Value.int IntKind.i64 7, Value.int IntKind.i64 30] w2 fun (e4 : Ending) (w5 : World) =>
 ∃ (b6 : Bool),
 e4 = Ending.returned (Value.bool b6) ∧
 Calls Proofs.Try.prog 10 #[Value.pointer a3, Value.int IntKind.i64 8, Value.int IntKind.i64 20] w5 fun (e7 : Ending) (w8 : World) =>
 ∃ (b9 : Bool),
 e7 = Ending.returned (Value.bool b9) ∧
 Calls Proofs.Try.prog 10 #[Value.pointer a3, Value.int IntKind.i64 7, Value.int IntKind.i64 10] w8 fun (e10 : Ending) (w11 : World) =>
 ∃ (b12 : Bool),
 e10 = Ending.returned (Value.bool b12) ∧
 Calls Proofs.Try.prog 11 #[Value.pointer a3] w11 fun (e13 : Ending) (w14 : World) =>
 ∃ (x15 : Int),
 ∃ (x16 : Int),
 ∃ (b17 : Bool),
 e13 = Ending.returned (Value.tuple #[Value.int IntKind.i64 x15, Value.int IntKind.i64 x16, Value.bool b17]) ∧
 (b6 = true →
 (b9 = true →
 ((!b12) = true →
 ((x15 == 7) = true →
 ((x16 == 10) = true →
 (b17 = true →
 Calls Proofs.Try.prog 13 #[Value.pointer a3] w14 fun (e18 : Ending) (w19 : World) =>
 ∃ (x20 : Int), e18 = Ending.returned (Value.int IntKind.i64 x20) ∧ R (Ending.returned (Value.bool (x20 == 1))) w19) ∧
 (b17 = false → R (Ending.returned (Value.bool false)) w14)) ∧
 ((x16 == 10) = false → R (Ending.returned (Value.bool false)) w14)) ∧
 ((x15 == 7) = false → R (Ending.returned (Value.bool false)) w14)) ∧
 ((!b12) = false → R (Ending.returned (Value.bool false)) w14)) ∧
 (b9 = false → R (Ending.returned (Value.bool false)) w14)) ∧
 (b6 = false → R (Ending.returned (Value.bool false)) w14)
theorem f12_eq  (w : World) (R : Ending → World → Prop) : (fnF Go.Proofs.Try.prog h12 Go.Proofs.Try.f12 [] w R).den = f12_vc  w R := by kernel_rfl
theorem f12_calls  (w : World) (R : Ending → World → Prop) (h : f12_vc  w R) : Calls Go.Proofs.Try.prog 12 (List.toArray []) w R :=
 fn_sound (H := h12) (fn := Go.Proofs.Try.f12) (by kernel_rfl) (by kernel_rfl) (by kernel_rfl) ((f12_eq  w R).mpr h)


/-! (*manciple/heap.Heap).Long -/
def h13 : Hints := ⟨[], [7], [5], [], [], [], [], [], []⟩
def f13_vc (h' : Option Addr) (w : World) (R : Ending → World → Prop) : Prop :=
 Calls Proofs.Try.prog 32 #[Value.pointer h'] w fun (e1 : Ending) (w2 : World) =>
 ∃ (b3 : Bool),
 e1 = Ending.returned (Value.bool b3) ∧
 ((!b3) = true → R (Ending.returned (Value.int IntKind.i64 0)) w2) ∧
 ((!b3) = false →
 ∃ (ad4 : Addr),
 h' = some ad4 ∧ ∃ (a5 : Option Addr), ∃ (n6 : Nat), ∃ (n7 : Nat), Reads Proofs.Try.prog [] (Instr.loadAt 36 (Value.pointer (some ad4))) w2 (Value.slice a5 n6 n7) ∧ R (Ending.returned (Value.int IntKind.i64 (↑n6 : Int))) w2)
theorem f13_eq (h' : Option Addr) (w : World) (R : Ending → World → Prop) : (fnF Go.Proofs.Try.prog h13 Go.Proofs.Try.f13 [Value.pointer h'] w R).den = f13_vc h' w R := by kernel_rfl
theorem f13_calls (h' : Option Addr) (w : World) (R : Ending → World → Prop) (h : f13_vc h' w R) : Calls Go.Proofs.Try.prog 13 (List.toArray [Value.pointer h']) w R :=
 fn_sound (H := h13) (fn := Go.Proofs.Try.f13) (by kernel_rfl) (by kernel_rfl) (by kernel_rfl) ((f13_eq h' w R).mpr h)


/-! (*manciple/heap.Heap).Drop -/
def h14 : Hints := ⟨[7], [13, 23, 27, 32, 36, 40, 45, 46, 49, 66], [10, 21, 56], [(6, [0, 1, 2, 3, 4, 5, 6, 7, 8, 9, 10, 11, 12, 13]), (7, [0, 1, 2, 3, 4, 5, 6, 7, 8, 9, 10, 11, 12, 13, 14]), (12, [0, 1, 2, 3, 4, 5, 6, 7, 8])], [], [], [], [], []⟩
def f14_vc (h' : Option Addr) (key : Int) (w : World) (R : Ending → World → Prop) : Prop :=
 Calls Proofs.Try.prog 32 #[Value.pointer h'] w fun (e1 : Ending) (w2 : World) =>
 ∃ (b3 : Bool),
 e1 = Ending.returned (Value.bool b3) ∧
 ((!b3) = true → R (Ending.returned (Value.bool false)) w2) ∧
 ((!b3) = false →
 ∃ (ad4 : Addr),
 h' = some ad4 ∧
 ∃ (r5 : Option Nat),
 Reads Proofs.Try.prog [] (Instr.loadAt 37 (Value.pointer (some (Addr.mk ad4.block (ad4.off + 1) none)))) w2 (Value.map r5) ∧
 ∃ (x6 : Int),
 ∃ (b7 : Bool),
 Reads Proofs.Try.prog [] (Instr.lookup 37 (Value.map r5) (Value.int IntKind.i64 key) true) w2 (Value.tuple #[Value.int IntKind.i64 x6, Value.bool b7]) ∧
 ((!b7) = true → R (Ending.returned (Value.bool false)) w2) ∧
 ((!b7) = false →
 ∃ (ad8 : Addr),
 h' = some ad8 ∧
 ∃ (a9 : Option Addr),
 ∃ (n10 : Nat),
 ∃ (n11 : Nat),
 Reads Proofs.Try.prog [] (Instr.loadAt 36 (Value.pointer (some ad8))) w2 (Value.slice a9 n10 n11) ∧
 ∃ (ad12 : Addr),
 h' = some ad12 ∧
 ∃ (a13 : Option Addr),
 ∃ (n14 : Nat),
 ∃ (n15 : Nat),
 Reads Proofs.Try.prog [] (Instr.loadAt 36 (Value.pointer (some ad12))) w2 (Value.slice a13 n14 n15) ∧
 ∃ (ad16 : Addr),
 Gives Proofs.Try.prog (Instr.indexAt 36 (Value.slice a9 n10 n11) (Value.int IntKind.i64 (IntKind.i64.wrap ((↑n14 : Int) - 1)))) (Value.pointer (some ad16)) ∧
 ∃ (x17 : Int),
 ∃ (x18 : Int),
 Reads Proofs.Try.prog [] (Instr.loadAt 80 (Value.pointer (some ad16))) w2 (Value.agg #[Value.int IntKind.i64 x17, Value.int IntKind.i64 x18]) ∧
 ∀ (n19 : Nat),
 w2.heap.size ≤ n19 →
 Reads Proofs.Try.prog [] (Instr.loadAt 80 (Value.pointer (some ad16))) w2 (Value.agg #[Value.int IntKind.i64 x17, Value.int IntKind.i64 x18]) ∧
 Reads Proofs.Try.prog [] (Instr.loadAt 36 (Value.pointer (some ad12))) w2 (Value.slice a13 n14 n15) ∧
 Reads Proofs.Try.prog [] (Instr.loadAt 36 (Value.pointer (some ad8))) w2 (Value.slice a9 n10 n11) ∧
 ∃ (ad20 : Addr),
 h' = some ad20 ∧
 ∃ (a21 : Option Addr),
 ∃ (n22 : Nat),
 ∃ (n23 : Nat),
 Reads Proofs.Try.prog [n19] (Instr.loadAt 36 (Value.pointer (some ad20))) w2 (Value.slice a21 n22 n23) ∧
 ∃ (ad24 : Addr),
 h' = some ad24 ∧
 ∃ (a25 : Option Addr),
 ∃ (n26 : Nat),
 ∃ (n27 : Nat),
 Reads Proofs.Try.prog [n19] (Instr.loadAt 36 (Value.pointer (some ad24))) w2 (Value.slice a25 n26 n27) ∧
 ∃ (a28 : Option Addr),
 ∃ (n29 : Nat),
 ∃ (n30 : Nat),
 Gives Proofs.Try.prog
 (Instr.sliceAt 36 (Value.slice a21 n22 n23) none (some (Value.int IntKind.i64 (IntKind.i64.wrap ((↑n26 : Int) - 1)))) none)
 (Value.slice a28 n29 n30) ∧
 ∃ (ad31 : Addr),
 h' = some ad31 ∧
 ∀ (w32 : World),
 Evo [n19] w2 w32 →
 Under [n19] w32 →
 OpW Proofs.Try.prog (skipS (Instr.storeAt 36 (Value.pointer (some ad31)) (Value.slice a28 n29 n30))) w32
 fun (v33 : Value) (w34 : World) =>
 Keeps [n19] w32 w34 ∧
 ∃ (ad35 : Addr),
 h' = some ad35 ∧
 ∃ (r36 : Option Nat),
 Reads Proofs.Try.prog [] (Instr.loadAt 37 (Value.pointer (some (Addr.mk ad35.block (ad35.off + 1) none)))) w34
 (Value.map r36) ∧
 OpW Proofs.Try.prog
 (builtin Builtin.delete #[37, 2] 0 #[false, false] #[Value.map r36, Value.int IntKind.i64 key]) w34
 fun (v37 : Value) (w38 : World) =>
 v37 = Value.tuple #[] ∧
 Keeps [n19] w34 w38 ∧
 ((x17 != key) = true →
 Calls Proofs.Try.prog 33
 #[Value.pointer h', Value.int IntKind.i64 x6,
 Value.agg #[Value.int IntKind.i64 x17, Value.int IntKind.i64 x18]]
 w38 fun (e39 : Ending) (w40 : World) =>
 e39 = Ending.returned (Value.tuple #[]) ∧
 Keeps [n19] w38 w40 ∧
 Calls Proofs.Try.prog 34 #[Value.pointer h', Value.int IntKind.i64 x6] w40
 fun (e41 : Ending) (w42 : World) =>
 e41 = Ending.returned (Value.tuple #[]) ∧
 Keeps [n19] w40 w42 ∧
 ∃ (ad43 : Addr),
 h' = some ad43 ∧
 ∃ (r44 : Option Nat),
 Reads Proofs.Try.prog []
 (Instr.loadAt 37 (Value.pointer (some (Addr.mk ad43.block (ad43.off + 1) none))))
 w42 (Value.map r44) ∧
 ∃ (x45 : Int),
 Reads Proofs.Try.prog []
 (Instr.lookup 37 (Value.map r44) (Value.int IntKind.i64 x17) false) w42
 (Value.int IntKind.i64 x45) ∧
 ∀ (w46 : World),
 Bel w42 w46 →
 Under [n19] w46 →
 Calls Proofs.Try.prog 35 #[Value.pointer h', Value.int IntKind.i64 x45]
 w46 fun (e47 : Ending) (w48 : World) =>
 e47 = Ending.returned (Value.tuple #[]) ∧
 Keeps [n19] w46 w48 ∧
 Reads Proofs.Try.prog []
 (Instr.loadAt 37
 (Value.pointer
 (some (Addr.mk ad43.block (ad43.off + 1) none))))
 w48 (Value.map r44) ∧
 R (Ending.returned (Value.bool true)) w48) ∧
 ((x17 != key) = false → R (Ending.returned (Value.bool true)) w38)))
theorem f14_eq (h' : Option Addr) (key : Int) (w : World) (R : Ending → World → Prop) : (fnF Go.Proofs.Try.prog h14 Go.Proofs.Try.f14 [Value.pointer h', Value.int IntKind.i64 key] w R).den = f14_vc h' key w R := by kernel_rfl
theorem f14_calls (h' : Option Addr) (key : Int) (w : World) (R : Ending → World → Prop) (h : f14_vc h' key w R) : Calls Go.Proofs.Try.prog 14 (List.toArray [Value.pointer h', Value.int IntKind.i64 key]) w R :=
 fn_sound (H := h14) (fn := Go.Proofs.Try.f14) (by kernel_rfl) (by kernel_rfl) (by kernel_rfl) ((f14_eq h' key w R).mpr h)


/-! (*manciple/heap.Heap).Due -/
def h15 : Hints := ⟨[], [], [20, 16], [], [], [(3, ⟨[(5, .sl), (6, .int .i64), (7, .int .i64), (8, .bool)], []⟩)], [], [], []⟩
def f15_vc (h' : Option Addr) (now : Int) (w : World) (R : Ending → World → Prop) : Prop :=
 Calls Proofs.Try.prog 18 #[Value.pointer h'] w fun (e1 : Ending) (w2 : World) =>
 ∃ (x3 : Int),
 ∃ (x4 : Int),
 ∃ (b5 : Bool),
 e1 = Ending.returned (Value.tuple #[Value.int IntKind.i64 x3, Value.int IntKind.i64 x4, Value.bool b5]) ∧
 ∃ (J6 : (Option Addr × Nat × Nat) × Int × Int × Bool × Unit → World → Prop),
 ∃ (J7 : (Option Addr × Nat × Nat) × Int × Int × Bool × Unit → World → Nat),
 J6 ((none, 0, 0), x3, x4, b5, ()) w2 ∧
 ∀ (a8 : Option Addr) (n9 n10 : Nat) (x11 x12 : Int) (b13 : Bool) (w14 : World),
 J6 ((a8, n9, n10), x11, x12, b13, ()) w14 →
 (b13 = true →
 (decide (x12 ≤ now) = true →
 OpW Proofs.Try.prog (valueS (Instr.buildSlice 22 1 #[(0, Value.int IntKind.i64 x11)])) w14 fun (v15 : Value) (w16 : World) =>
 ∃ (a17 : Option Addr),
 ∃ (n18 : Nat),
 ∃ (n19 : Nat),
 v15 = Value.slice a17 n18 n19 ∧
 OpW Proofs.Try.prog (builtin Builtin.append #[22, 22] 22 #[false, false] #[Value.slice a8 n9 n10, Value.slice a17 n18 n19]) w16 fun (v20 : Value) (w21 : World) =>
 ∃ (a22 : Option Addr),
 ∃ (n23 : Nat),
 ∃ (n24 : Nat),
 v20 = Value.slice a22 n23 n24 ∧
 Calls Proofs.Try.prog 14 #[Value.pointer h', Value.int IntKind.i64 x11] w21 fun (e25 : Ending) (w26 : World) =>
 ∃ (b27 : Bool),
 e25 = Ending.returned (Value.bool b27) ∧
 Calls Proofs.Try.prog 18 #[Value.pointer h'] w26 fun (e28 : Ending) (w29 : World) =>
 ∃ (x30 : Int),
 ∃ (x31 : Int),
 ∃ (b32 : Bool),
 e28 = Ending.returned (Value.tuple #[Value.int IntKind.i64 x30, Value.int IntKind.i64 x31, Value.bool b32]) ∧
 J6 ((a22, n23, n24), x30, x31, b32, ()) w29 ∧ J7 ((a22, n23, n24), x30, x31, b32, ()) w29 < J7 ((a8, n9, n10), x11, x12, b13, ()) w14) ∧
 (decide (x12 ≤ now) = false → R (Ending.returned (Value.slice a8 n9 n10)) w14)) ∧
 (b13 = false → R (Ending.returned (Value.slice a8 n9 n10)) w14)
theorem f15_eq (h' : Option Addr) (now : Int) (w : World) (R : Ending → World → Prop) : (fnF Go.Proofs.Try.prog h15 Go.Proofs.Try.f15 [Value.pointer h', Value.int IntKind.i64 now] w R).den = f15_vc h' now w R := by kernel_rfl
theorem f15_calls (h' : Option Addr) (now : Int) (w : World) (R : Ending → World → Prop) (h : f15_vc h' now w R) : Calls Go.Proofs.Try.prog 15 (List.toArray [Value.pointer h', Value.int IntKind.i64 now]) w R :=
 fn_sound (H := h15) (fn := Go.Proofs.Try.f15) (by kernel_rfl) (by kernel_rfl) (by kernel_rfl) ((f15_eq h' now w R).mpr h)


/-! (*manciple/heap.Heap).Steps -/
def h16 : Hints := ⟨[], [7], [5], [], [], [], [], [], []⟩
def f16_vc (h' : Option Addr) (w : World) (R : Ending → World → Prop) : Prop :=
 Calls Proofs.Try.prog 32 #[Value.pointer h'] w fun (e1 : Ending) (w2 : World) =>
 ∃ (b3 : Bool),
 e1 = Ending.returned (Value.bool b3) ∧
 ((!b3) = true → R (Ending.returned (Value.int IntKind.i64 0)) w2) ∧
 ((!b3) = false →
 ∃ (ad4 : Addr),
 h' = some ad4 ∧ ∃ (x5 : Int), Reads Proofs.Try.prog [] (Instr.loadAt 3 (Value.pointer (some (Addr.mk ad4.block (ad4.off + 2) none)))) w2 (Value.int IntKind.i64 x5) ∧ R (Ending.returned (Value.int IntKind.i64 x5)) w2)
theorem f16_eq (h' : Option Addr) (w : World) (R : Ending → World → Prop) : (fnF Go.Proofs.Try.prog h16 Go.Proofs.Try.f16 [Value.pointer h'] w R).den = f16_vc h' w R := by kernel_rfl
theorem f16_calls (h' : Option Addr) (w : World) (R : Ending → World → Prop) (h : f16_vc h' w R) : Calls Go.Proofs.Try.prog 16 (List.toArray [Value.pointer h']) w R :=
 fn_sound (H := h16) (fn := Go.Proofs.Try.f16) (by kernel_rfl) (by kernel_rfl) (by kernel_rfl) ((f16_eq h' w R).mpr h)


/-! manciple/manciplelaw11.does -/
def h17 : Hints := ⟨[5], [78, 83, 91], [16, 39, 55, 65, 69, 73, 80, 88], [(4, [0, 1, 2, 3, 4, 5, 7, 8, 9, 10, 11, 13, 14, 6, 12, 15, 16, 17]), (6, [0, 1, 2, 4, 5, 6, 8, 9, 10, 3, 7, 11, 12, 13, 14, 15]), (11, [0, 1, 2, 3, 4, 5, 6, 7, 8, 9, 10, 11, 12, 13, 14, 15, 16, 17, 18, 19, 20])], [], [], [], [], []⟩
def f17_vc (h' : Option Addr) (la : Option Addr) (ln : Nat) (lc : Nat) (a_0 : Int) (a_1 : Int) (a_2 : Int) (w : World) (R : Ending → World → Prop) : Prop :=
 ∀ (n1 : Nat),
 w.heap.size ≤ n1 →
 ((a_0 == 0) = true →
 ∀ (w2 : World),
 Bel w w2 →
 Under [n1] w2 →
 Calls Proofs.Try.prog 20 #[Value.slice la ln lc, Value.int IntKind.i64 a_1] w2 fun (e3 : Ending) (w4 : World) =>
 ∃ (x5 : Int),
 e3 = Ending.returned (Value.int IntKind.i64 x5) ∧
 Keeps [n1] w2 w4 ∧
 ∀ (w6 : World),
 Bel w4 w6 →
 Under [n1] w6 →
 Calls Proofs.Try.prog 36 #[Value.slice la ln lc, Value.agg #[Value.int IntKind.i64 a_1, Value.int IntKind.i64 a_2]] w6 fun (e7 : Ending) (w8 : World) =>
 ∃ (a9 : Option Addr),
 ∃ (n10 : Nat),
 ∃ (n11 : Nat),
 e7 = Ending.returned (Value.slice a9 n10 n11) ∧
 Keeps [n1] w6 w8 ∧
 Calls Proofs.Try.prog 10 #[Value.pointer h', Value.int IntKind.i64 a_1, Value.int IntKind.i64 a_2] w8 fun (e12 : Ending) (w13 : World) =>
 ∃ (b14 : Bool), e12 = Ending.returned (Value.bool b14) ∧ Keeps [n1] w8 w13 ∧ R (Ending.returned (Value.tuple #[Value.slice a9 n10 n11, Value.bool (b14 == !decide (x5 ≥ 0))])) w13) ∧
 ((a_0 == 0) = false →
 ((a_0 == 1) = true →
 ∀ (w15 : World),
 Bel w w15 →
 Under [n1] w15 →
 Calls Proofs.Try.prog 37 #[Value.slice la ln lc, Value.int IntKind.i64 a_1] w15 fun (e16 : Ending) (w17 : World) =>
 ∃ (a18 : Option Addr),
 ∃ (n19 : Nat),
 ∃ (n20 : Nat),
 e16 = Ending.returned (Value.slice a18 n19 n20) ∧
 Keeps [n1] w15 w17 ∧
 Calls Proofs.Try.prog 14 #[Value.pointer h', Value.int IntKind.i64 a_1] w17 fun (e21 : Ending) (w22 : World) =>
 ∃ (b23 : Bool),
 e21 = Ending.returned (Value.bool b23) ∧
 Keeps [n1] w17 w22 ∧
 Calls Proofs.Try.prog 20 #[Value.slice la ln lc, Value.int IntKind.i64 a_1] w22 fun (e24 : Ending) (w25 : World) =>
 ∃ (x26 : Int), e24 = Ending.returned (Value.int IntKind.i64 x26) ∧ Keeps [n1] w22 w25 ∧ R (Ending.returned (Value.tuple #[Value.slice a18 n19 n20, Value.bool (b23 == decide (x26 ≥ 0))])) w25) ∧
 ((a_0 == 1) = false →
 ((a_0 == 2) = true →
 ∀ (w27 : World),
 Bel w w27 →
 Under [n1] w27 →
 Calls Proofs.Try.prog 11 #[Value.pointer h'] w27 fun (e28 : Ending) (w29 : World) =>
 ∃ (x30 : Int),
 ∃ (x31 : Int),
 ∃ (b32 : Bool),
 e28 = Ending.returned (Value.tuple #[Value.int IntKind.i64 x30, Value.int IntKind.i64 x31, Value.bool b32]) ∧
 Keeps [n1] w27 w29 ∧
 (((↑ln : Int) == 0) = true →
 ((!b32) = true →
 ((x30 == 0) = true → R (Ending.returned (Value.tuple #[Value.slice la ln lc, Value.bool (x31 == 0)])) w29) ∧
 ((x30 == 0) = false → R (Ending.returned (Value.tuple #[Value.slice la ln lc, Value.bool false])) w29)) ∧
 ((!b32) = false → R (Ending.returned (Value.tuple #[Value.slice la ln lc, Value.bool false])) w29)) ∧
 (((↑ln : Int) == 0) = false →
 ∃ (a33 : Option Addr),
 ∃ (n34 : Nat),
 ∃ (n35 : Nat),
 Gives Proofs.Try.prog (Instr.sliceAt 41 (Value.slice la ln lc) (some (Value.int IntKind.i64 1)) none none) (Value.slice a33 n34 n35) ∧
 (b32 = true →
 ∃ (ad36 : Addr),
 Gives Proofs.Try.prog (Instr.indexAt 41 (Value.slice la ln lc) (Value.int IntKind.i64 0)) (Value.pointer (some ad36)) ∧
 ∃ (x37 : Int),
 Reads Proofs.Try.prog [] (Instr.loadAt 2 (Value.pointer (some ad36))) w29 (Value.int IntKind.i64 x37) ∧
 ((x30 == x37) = true →
 ∃ (ad38 : Addr),
 Gives Proofs.Try.prog (Instr.indexAt 41 (Value.slice la ln lc) (Value.int IntKind.i64 0)) (Value.pointer (some ad38)) ∧
 ∃ (x39 : Int),
 Reads Proofs.Try.prog [] (Instr.loadAt 2 (Value.pointer (some (Addr.mk ad38.block (ad38.off + 1) none)))) w29 (Value.int IntKind.i64 x39) ∧
 ∀ (w40 : World), Bel w29 w40 → Under [n1] w40 → R (Ending.returned (Value.tuple #[Value.slice a33 n34 n35, Value.bool (x31 == x39)])) w40) ∧
 ((x30 == x37) = false → ∀ (w41 : World), Bel w29 w41 → Under [n1] w41 → R (Ending.returned (Value.tuple #[Value.slice a33 n34 n35, Value.bool false])) w41)) ∧
 (b32 = false → ∀ (w42 : World), Bel w29 w42 → Under [n1] w42 → R (Ending.returned (Value.tuple #[Value.slice a33 n34 n35, Value.bool false])) w42))) ∧
 ((a_0 == 2) = false →
 ∀ (w43 : World),
 Bel w w43 →
 Under [n1] w43 →
 Calls Proofs.Try.prog 38 #[Value.slice la ln lc, Value.int IntKind.i64 a_2] w43 fun (e44 : Ending) (w45 : World) =>
 ∃ (a46 : Option Addr),
 ∃ (n47 : Nat),
 ∃ (n48 : Nat),
 ∃ (a49 : Option Addr),
 ∃ (n50 : Nat),
 ∃ (n51 : Nat),
 e44 = Ending.returned (Value.tuple #[Value.slice a46 n47 n48, Value.slice a49 n50 n51]) ∧
 Keeps [n1] w43 w45 ∧
 Calls Proofs.Try.prog 15 #[Value.pointer h', Value.int IntKind.i64 a_2] w45 fun (e52 : Ending) (w53 : World) =>
 ∃ (a54 : Option Addr),
 ∃ (n55 : Nat),
 ∃ (n56 : Nat),
 e52 = Ending.returned (Value.slice a54 n55 n56) ∧
 Keeps [n1] w45 w53 ∧
 Calls Proofs.Try.prog 39 #[Value.slice a54 n55 n56, Value.slice a46 n47 n48] w53 fun (e57 : Ending) (w58 : World) =>
 ∃ (b59 : Bool), e57 = Ending.returned (Value.bool b59) ∧ Keeps [n1] w53 w58 ∧ R (Ending.returned (Value.tuple #[Value.slice a49 n50 n51, Value.bool b59])) w58)))
theorem f17_eq (h' : Option Addr) (la : Option Addr) (ln : Nat) (lc : Nat) (a_0 : Int) (a_1 : Int) (a_2 : Int) (w : World) (R : Ending → World → Prop) : (fnF Go.Proofs.Try.prog h17 Go.Proofs.Try.f17 [Value.pointer h', Value.slice la ln lc, Value.agg #[Value.int IntKind.i64 a_0, Value.int IntKind.i64 a_1, Value.int IntKind.i64 a_2]] w R).den = f17_vc h' la ln lc a_0 a_1 a_2 w R := by kernel_rfl
theorem f17_calls (h' : Option Addr) (la : Option Addr) (ln : Nat) (lc : Nat) (a_0 : Int) (a_1 : Int) (a_2 : Int) (w : World) (R : Ending → World → Prop) (h : f17_vc h' la ln lc a_0 a_1 a_2 w R) : Calls Go.Proofs.Try.prog 17 (List.toArray [Value.pointer h', Value.slice la ln lc, Value.agg #[Value.int IntKind.i64 a_0, Value.int IntKind.i64 a_1, Value.int IntKind.i64 a_2]]) w R :=
 fn_sound (H := h17) (fn := Go.Proofs.Try.f17) (by kernel_rfl) (by kernel_rfl) (by kernel_rfl) ((f17_eq h' la ln lc a_0 a_1 a_2 w R).mpr h)


/-! (*manciple/heap.Heap).Peek -/
def h18 : Hints := ⟨[], [10, 17, 20, 24, 27], [15, 8], [(3, [0, 1, 2, 3, 4, 5, 6, 7, 8, 9, 10, 11, 12, 13, 14, 15, 16])], [], [], [], [], []⟩
def f18_vc (h' : Option Addr) (w : World) (R : Ending → World → Prop) : Prop :=
 Calls Proofs.Try.prog 32 #[Value.pointer h'] w fun (e1 : Ending) (w2 : World) =>
 ∃ (b3 : Bool),
 e1 = Ending.returned (Value.bool b3) ∧
 ((!b3) = true → R (Ending.returned (Value.tuple #[Value.int IntKind.i64 0, Value.int IntKind.i64 0, Value.bool false])) w2) ∧
 ((!b3) = false →
 ∃ (ad4 : Addr),
 h' = some ad4 ∧
 ∃ (a5 : Option Addr),
 ∃ (n6 : Nat),
 ∃ (n7 : Nat),
 Reads Proofs.Try.prog [] (Instr.loadAt 36 (Value.pointer (some ad4))) w2 (Value.slice a5 n6 n7) ∧
 (((↑n6 : Int) == 0) = true → R (Ending.returned (Value.tuple #[Value.int IntKind.i64 0, Value.int IntKind.i64 0, Value.bool false])) w2) ∧
 (((↑n6 : Int) == 0) = false →
 ∃ (ad8 : Addr),
 h' = some ad8 ∧
 ∃ (a9 : Option Addr),
 ∃ (n10 : Nat),
 ∃ (n11 : Nat),
 Reads Proofs.Try.prog [] (Instr.loadAt 36 (Value.pointer (some ad8))) w2 (Value.slice a9 n10 n11) ∧
 ∃ (ad12 : Addr),
 Gives Proofs.Try.prog (Instr.indexAt 36 (Value.slice a9 n10 n11) (Value.int IntKind.i64 0)) (Value.pointer (some ad12)) ∧
 ∃ (x13 : Int),
 Reads Proofs.Try.prog [] (Instr.loadAt 2 (Value.pointer (some ad12))) w2 (Value.int IntKind.i64 x13) ∧
 ∃ (ad14 : Addr),
 h' = some ad14 ∧
 ∃ (a15 : Option Addr),
 ∃ (n16 : Nat),
 ∃ (n17 : Nat),
 Reads Proofs.Try.prog [] (Instr.loadAt 36 (Value.pointer (some ad14))) w2 (Value.slice a15 n16 n17) ∧
 ∃ (ad18 : Addr),
 Gives Proofs.Try.prog (Instr.indexAt 36 (Value.slice a15 n16 n17) (Value.int IntKind.i64 0)) (Value.pointer (some ad18)) ∧
 ∃ (x19 : Int),
 Reads Proofs.Try.prog [] (Instr.loadAt 2 (Value.pointer (some (Addr.mk ad18.block (ad18.off + 1) none)))) w2 (Value.int IntKind.i64 x19) ∧
 ∀ (w20 : World), Bel w2 w20 → R (Ending.returned (Value.tuple #[Value.int IntKind.i64 x13, Value.int IntKind.i64 x19, Value.bool true])) w20))
theorem f18_eq (h' : Option Addr) (w : World) (R : Ending → World → Prop) : (fnF Go.Proofs.Try.prog h18 Go.Proofs.Try.f18 [Value.pointer h'] w R).den = f18_vc h' w R := by kernel_rfl
theorem f18_calls (h' : Option Addr) (w : World) (R : Ending → World → Prop) (h : f18_vc h' w R) : Calls Go.Proofs.Try.prog 18 (List.toArray [Value.pointer h']) w R :=
 fn_sound (H := h18) (fn := Go.Proofs.Try.f18) (by kernel_rfl) (by kernel_rfl) (by kernel_rfl) ((f18_eq h' w R).mpr h)


/-! (*manciple/heap.Heap).At -/
def h19 : Hints := ⟨[], [13, 23, 27], [10, 21], [], [], [], [], [], []⟩
def f19_vc (h' : Option Addr) (key : Int) (w : World) (R : Ending → World → Prop) : Prop :=
 Calls Proofs.Try.prog 32 #[Value.pointer h'] w fun (e1 : Ending) (w2 : World) =>
 ∃ (b3 : Bool),
 e1 = Ending.returned (Value.bool b3) ∧
 ((!b3) = true → R (Ending.returned (Value.tuple #[Value.int IntKind.i64 0, Value.bool false])) w2) ∧
 ((!b3) = false →
 ∃ (ad4 : Addr),
 h' = some ad4 ∧
 ∃ (r5 : Option Nat),
 Reads Proofs.Try.prog [] (Instr.loadAt 37 (Value.pointer (some (Addr.mk ad4.block (ad4.off + 1) none)))) w2 (Value.map r5) ∧
 ∃ (x6 : Int),
 ∃ (b7 : Bool),
 Reads Proofs.Try.prog [] (Instr.lookup 37 (Value.map r5) (Value.int IntKind.i64 key) true) w2 (Value.tuple #[Value.int IntKind.i64 x6, Value.bool b7]) ∧
 ((!b7) = true → R (Ending.returned (Value.tuple #[Value.int IntKind.i64 0, Value.bool false])) w2) ∧
 ((!b7) = false →
 ∃ (ad8 : Addr),
 h' = some ad8 ∧
 ∃ (a9 : Option Addr),
 ∃ (n10 : Nat),
 ∃ (n11 : Nat),
 Reads Proofs.Try.prog [] (Instr.loadAt 36 (Value.pointer (some ad8))) w2 (Value.slice a9 n10 n11) ∧
 ∃ (ad12 : Addr),
 Gives Proofs.Try.prog (Instr.indexAt 36 (Value.slice a9 n10 n11) (Value.int IntKind.i64 x6)) (Value.pointer (some ad12)) ∧
 ∃ (x13 : Int),
 Reads Proofs.Try.prog [] (Instr.loadAt 2 (Value.pointer (some (Addr.mk ad12.block (ad12.off + 1) none)))) w2 (Value.int IntKind.i64 x13) ∧
 R (Ending.returned (Value.tuple #[Value.int IntKind.i64 x13, Value.bool true])) w2))
theorem f19_eq (h' : Option Addr) (key : Int) (w : World) (R : Ending → World → Prop) : (fnF Go.Proofs.Try.prog h19 Go.Proofs.Try.f19 [Value.pointer h', Value.int IntKind.i64 key] w R).den = f19_vc h' key w R := by kernel_rfl
theorem f19_calls (h' : Option Addr) (key : Int) (w : World) (R : Ending → World → Prop) (h : f19_vc h' key w R) : Calls Go.Proofs.Try.prog 19 (List.toArray [Value.pointer h', Value.int IntKind.i64 key]) w R :=
 fn_sound (H := h19) (fn := Go.Proofs.Try.f19) (by kernel_rfl) (by kernel_rfl) (by kernel_rfl) ((f19_eq h' key w R).mpr h)


/-! manciple/mancipleref11.Place -/
def h20 : Hints := ⟨[], [14], [9, 18], [], [], [(2, ⟨[(5, .int .i64)], []⟩)], [], [], []⟩
def f20_vc (la : Option Addr) (ln : Nat) (lc : Nat) (key : Int) (w : World) (R : Ending → World → Prop) : Prop :=
 ∃ (J1 : Int × Unit → World → Prop),
 ∃ (J2 : Int × Unit → World → Nat),
 J1 (0, ()) w ∧
 ∀ (x3 : Int) (w4 : World),
 J1 (x3, ()) w4 →
 (decide (x3 < (↑ln : Int)) = true →
 ∃ (ad5 : Addr),
 Gives Proofs.Try.prog (Instr.indexAt 41 (Value.slice la ln lc) (Value.int IntKind.i64 x3)) (Value.pointer (some ad5)) ∧
 ∃ (x6 : Int),
 Reads Proofs.Try.prog [] (Instr.loadAt 2 (Value.pointer (some ad5))) w4 (Value.int IntKind.i64 x6) ∧
 ((x6 == key) = true → R (Ending.returned (Value.int IntKind.i64 x3)) w4) ∧ ((x6 == key) = false → J1 (IntKind.i64.wrap (x3 + 1), ()) w4 ∧ J2 (IntKind.i64.wrap (x3 + 1), ()) w4 < J2 (x3, ()) w4)) ∧
 (decide (x3 < (↑ln : Int)) = false → R (Ending.returned (Value.int IntKind.i64 (-1))) w4)
theorem f20_eq (la : Option Addr) (ln : Nat) (lc : Nat) (key : Int) (w : World) (R : Ending → World → Prop) : (fnF Go.Proofs.Try.prog h20 Go.Proofs.Try.f20 [Value.slice la ln lc, Value.int IntKind.i64 key] w R).den = f20_vc la ln lc key w R := by kernel_rfl
theorem f20_calls (la : Option Addr) (ln : Nat) (lc : Nat) (key : Int) (w : World) (R : Ending → World → Prop) (h : f20_vc la ln lc key w R) : Calls Go.Proofs.Try.prog 20 (List.toArray [Value.slice la ln lc, Value.int IntKind.i64 key]) w R :=
 fn_sound (H := h20) (fn := Go.Proofs.Try.f20) (by kernel_rfl) (by kernel_rfl) (by kernel_rfl) ((f20_eq la ln lc key w R).mpr h)


/-! (*manciple/heap.Heap).made -/
def h32 : Hints := ⟨[], [4, 7, 10], [5], [], [], [], [], [], []⟩
def f32_vc (h' : Option Addr) (w : World) (R : Ending → World → Prop) : Prop :=
 ∃ (b1 : Bool),
 Gives Proofs.Try.prog (binOpS BinOp.neq 23 (Operand.tmp 3) (Operand.const (Value.pointer none)) (Value.pointer h') (Value.pointer none)) (Value.bool b1) ∧
 (b1 = true →
 ∃ (ad2 : Addr),
 h' = some ad2 ∧
 ∃ (r3 : Option Nat),
 Reads Proofs.Try.prog [] (Instr.loadAt 37 (Value.pointer (some (Addr.mk ad2.block (ad2.off + 1) none)))) w (Value.map r3) ∧
 ∃ (b4 : Bool), Gives Proofs.Try.prog (binOpS BinOp.neq 37 (Operand.tmp 9) (Operand.const (Value.map none)) (Value.map r3) (Value.map none)) (Value.bool b4) ∧ R (Ending.returned (Value.bool b4)) w) ∧
 (b1 = false → R (Ending.returned (Value.bool false)) w)
theorem f32_eq (h' : Option Addr) (w : World) (R : Ending → World → Prop) : (fnF Go.Proofs.Try.prog h32 Go.Proofs.Try.f32 [Value.pointer h'] w R).den = f32_vc h' w R := by kernel_rfl
theorem f32_calls (h' : Option Addr) (w : World) (R : Ending → World → Prop) (h : f32_vc h' w R) : Calls Go.Proofs.Try.prog 32 (List.toArray [Value.pointer h']) w R :=
 fn_sound (H := h32) (fn := Go.Proofs.Try.f32) (by kernel_rfl) (by kernel_rfl) (by kernel_rfl) ((f32_eq h' w R).mpr h)


/-! (*manciple/heap.Heap).lay -/
def h33 : Hints := ⟨[5], [7, 12, 14], [], [(1, [0, 1, 2, 3, 4, 5, 6, 7]), (2, [0, 1, 2, 3, 4, 5, 6, 7])], [], [], [], [], []⟩
def f33_vc (h' : Option Addr) (i : Int) (x_0 : Int) (x_1 : Int) (w : World) (R : Ending → World → Prop) : Prop :=
 ∀ (n1 : Nat),
 w.heap.size ≤ n1 →
 ∃ (ad2 : Addr),
 h' = some ad2 ∧
 ∃ (a3 : Option Addr),
 ∃ (n4 : Nat),
 ∃ (n5 : Nat),
 Reads Proofs.Try.prog [] (Instr.loadAt 36 (Value.pointer (some ad2))) w (Value.slice a3 n4 n5) ∧
 ∃ (ad6 : Addr),
 Gives Proofs.Try.prog (Instr.indexAt 36 (Value.slice a3 n4 n5) (Value.int IntKind.i64 i)) (Value.pointer (some ad6)) ∧
 ∀ (w7 : World),
 Bel w w7 →
 Under [n1] w7 →
 OpW Proofs.Try.prog (skipS (Instr.storeAt 80 (Value.pointer (some ad6)) (Value.agg #[Value.int IntKind.i64 x_0, Value.int IntKind.i64 x_1]))) w7 fun (v8 : Value) (w9 : World) =>
 Keeps [n1] w7 w9 ∧
 ∃ (ad10 : Addr),
 h' = some ad10 ∧
 ∃ (r11 : Option Nat),
 Reads Proofs.Try.prog [] (Instr.loadAt 37 (Value.pointer (some (Addr.mk ad10.block (ad10.off + 1) none)))) w9 (Value.map r11) ∧
 ∀ (w12 : World),
 Bel w9 w12 →
 Under [n1] w12 →
 OpW Proofs.Try.prog (skipS (Instr.mapUpdate 37 (Value.map r11) (Value.int IntKind.i64 x_0) (Value.int IntKind.i64 i))) w12 fun (v13 : Value) (w14 : World) =>
 Keeps [n1] w12 w14 ∧ R (Ending.returned (Value.tuple #[])) w14
theorem f33_eq (h' : Option Addr) (i : Int) (x_0 : Int) (x_1 : Int) (w : World) (R : Ending → World → Prop) : (fnF Go.Proofs.Try.prog h33 Go.Proofs.Try.f33 [Value.pointer h', Value.int IntKind.i64 i, Value.agg #[Value.int IntKind.i64 x_0, Value.int IntKind.i64 x_1]] w R).den = f33_vc h' i x_0 x_1 w R := by kernel_rfl
theorem f33_calls (h' : Option Addr) (i : Int) (x_0 : Int) (x_1 : Int) (w : World) (R : Ending → World → Prop) (h : f33_vc h' i x_0 x_1 w R) : Calls Go.Proofs.Try.prog 33 (List.toArray [Value.pointer h', Value.int IntKind.i64 i, Value.agg #[Value.int IntKind.i64 x_0, Value.int IntKind.i64 x_1]]) w R :=
 fn_sound (H := h33) (fn := Go.Proofs.Try.f33) (by kernel_rfl) (by kernel_rfl) (by kernel_rfl) ((f33_eq h' i x_0 x_1 w R).mpr h)


/-! (*manciple/heap.Heap).rise -/
def h34 : Hints := ⟨[], [8, 12, 15, 21], [24, 6], [(0, [0, 1, 2, 3, 4, 5, 6, 7, 8, 9, 10, 11, 12, 13, 14, 15, 16, 17, 18, 19, 20])], [], [(0, ⟨[(1, .int .i64)], []⟩)], [], [], []⟩
def f34_vc (h' : Option Addr) (i : Int) (w : World) (R : Ending → World → Prop) : Prop :=
 ∃ (J1 : Int × Unit → World → Prop),
 ∃ (J2 : Int × Unit → World → Nat),
 J1 (i, ()) w ∧
 ∀ (x3 : Int) (w4 : World),
 J1 (x3, ()) w4 →
 (decide (x3 > 0) = true →
 ∃ (ad5 : Addr),
 h' = some ad5 ∧
 ∃ (a6 : Option Addr),
 ∃ (n7 : Nat),
 ∃ (n8 : Nat),
 Reads Proofs.Try.prog [] (Instr.loadAt 36 (Value.pointer (some ad5))) w4 (Value.slice a6 n7 n8) ∧
 ∃ (ad9 : Addr),
 Gives Proofs.Try.prog (Instr.indexAt 36 (Value.slice a6 n7 n8) (Value.int IntKind.i64 x3)) (Value.pointer (some ad9)) ∧
 ∃ (x10 : Int),
 ∃ (x11 : Int),
 Reads Proofs.Try.prog [] (Instr.loadAt 80 (Value.pointer (some ad9))) w4 (Value.agg #[Value.int IntKind.i64 x10, Value.int IntKind.i64 x11]) ∧
 ∃ (ad12 : Addr),
 h' = some ad12 ∧
 ∃ (a13 : Option Addr),
 ∃ (n14 : Nat),
 ∃ (n15 : Nat),
 Reads Proofs.Try.prog [] (Instr.loadAt 36 (Value.pointer (some ad12))) w4 (Value.slice a13 n14 n15) ∧
 ∃ (ad16 : Addr),
 Gives Proofs.Try.prog (Instr.indexAt 36 (Value.slice a13 n14 n15) (Value.int IntKind.i64 (IntKind.i64.wrap ((IntKind.i64.wrap (x3 - 1)).tdiv 2)))) (Value.pointer (some ad16)) ∧
 ∃ (x17 : Int),
 ∃ (x18 : Int),
 Reads Proofs.Try.prog [] (Instr.loadAt 80 (Value.pointer (some ad16))) w4 (Value.agg #[Value.int IntKind.i64 x17, Value.int IntKind.i64 x18]) ∧
 ∀ (w19 : World),
 Bel w4 w19 →
 Calls Proofs.Try.prog 48 #[Value.agg #[Value.int IntKind.i64 x10, Value.int IntKind.i64 x11], Value.agg #[Value.int IntKind.i64 x17, Value.int IntKind.i64 x18]] w19
 fun (e20 : Ending) (w21 : World) =>
 ∃ (b22 : Bool),
 e20 = Ending.returned (Value.bool b22) ∧
 Reads Proofs.Try.prog [] (Instr.loadAt 36 (Value.pointer (some ad12))) w21 (Value.slice a13 n14 n15) ∧
 Reads Proofs.Try.prog [] (Instr.loadAt 36 (Value.pointer (some ad5))) w21 (Value.slice a6 n7 n8) ∧
 (b22 = true →
 Calls Proofs.Try.prog 49 #[Value.pointer h', Value.int IntKind.i64 x3, Value.int IntKind.i64 (IntKind.i64.wrap ((IntKind.i64.wrap (x3 - 1)).tdiv 2))] w21
 fun (e23 : Ending) (w24 : World) =>
 e23 = Ending.returned (Value.tuple #[]) ∧
 J1 (IntKind.i64.wrap ((IntKind.i64.wrap (x3 - 1)).tdiv 2), ()) w24 ∧ J2 (IntKind.i64.wrap ((IntKind.i64.wrap (x3 - 1)).tdiv 2), ()) w24 < J2 (x3, ()) w4) ∧
 (b22 = false → R (Ending.returned (Value.tuple #[])) w21)) ∧
 (decide (x3 > 0) = false → ∀ (w25 : World), Bel w4 w25 → R (Ending.returned (Value.tuple #[])) w25)
theorem f34_eq (h' : Option Addr) (i : Int) (w : World) (R : Ending → World → Prop) : (fnF Go.Proofs.Try.prog h34 Go.Proofs.Try.f34 [Value.pointer h', Value.int IntKind.i64 i] w R).den = f34_vc h' i w R := by kernel_rfl
theorem f34_calls (h' : Option Addr) (i : Int) (w : World) (R : Ending → World → Prop) (h : f34_vc h' i w R) : Calls Go.Proofs.Try.prog 34 (List.toArray [Value.pointer h', Value.int IntKind.i64 i]) w R :=
 fn_sound (H := h34) (fn := Go.Proofs.Try.f34) (by kernel_rfl) (by kernel_rfl) (by kernel_rfl) ((f34_eq h' i w R).mpr h)


/-! (*manciple/heap.Heap).sink -/
def h35 : Hints := ⟨[], [18, 22, 29, 33, 36, 40], [17, 43, 48, 27], [(4, [0, 1, 2, 3, 4, 5, 6, 7, 8, 9, 10, 11, 12, 13, 14, 15, 16, 17, 18, 19, 20, 21, 22, 23])], [], [(0, ⟨[(1, .int .i64)], []⟩), (2, ⟨[(4, .int .i64), (16, .int .i64)], []⟩)], [(6, ⟨[(4, .int .i64)], []⟩), (5, ⟨[(43, .bool)], []⟩)], [], []⟩
def f35_vc (h' : Option Addr) (i : Int) (w : World) (R : Ending → World → Prop) : Prop :=
 ∃ (J1 : Int × Unit → World → Prop),
 ∃ (J2 : Int × Unit → World → Nat),
 J1 (i, ()) w ∧
 ∀ (x3 : Int) (w4 : World),
 J1 (x3, ()) w4 →
 OpW Proofs.Try.prog (valueS (Instr.buildSlice 95 2 #[(0, Value.int IntKind.i64 (IntKind.i64.wrap (IntKind.i64.wrap (2 * x3) + 1))), (1, Value.int IntKind.i64 (IntKind.i64.wrap (IntKind.i64.wrap (2 * x3) + 2)))])) w4
 fun (v5 : Value) (w6 : World) =>
 ∃ (a7 : Option Addr),
 ∃ (n8 : Nat),
 ∃ (n9 : Nat),
 v5 = Value.slice a7 n8 n9 ∧
 ∃ (J10 : Int × Int × Unit → World → Prop),
 ∃ (J11 : Int × Int × Unit → World → Nat),
 J10 (x3, 0, ()) w6 ∧
 ∀ (x12 x13 : Int) (w14 : World),
 J10 (x12, x13, ()) w14 →
 (decide (x13 < (↑n8 : Int)) = true →
 ∃ (J15 : Int × Unit → World → Prop),
 (∃ (ad16 : Addr),
 Gives Proofs.Try.prog (Instr.indexAt 95 (Value.slice a7 n8 n9) (Value.int IntKind.i64 x13)) (Value.pointer (some ad16)) ∧
 ∃ (x17 : Int),
 Reads Proofs.Try.prog [] (Instr.loadAt 3 (Value.pointer (some ad16))) w14 (Value.int IntKind.i64 x17) ∧
 ∃ (J18 : Bool × Unit → World → Prop),
 (∃ (ad19 : Addr),
 h' = some ad19 ∧
 ∃ (a20 : Option Addr),
 ∃ (n21 : Nat),
 ∃ (n22 : Nat),
 Reads Proofs.Try.prog [] (Instr.loadAt 36 (Value.pointer (some ad19))) w14 (Value.slice a20 n21 n22) ∧
 (decide (x17 < (↑n21 : Int)) = true →
 ∃ (ad23 : Addr),
 h' = some ad23 ∧
 ∃ (a24 : Option Addr),
 ∃ (n25 : Nat),
 ∃ (n26 : Nat),
 Reads Proofs.Try.prog [] (Instr.loadAt 36 (Value.pointer (some ad23))) w14 (Value.slice a24 n25 n26) ∧
 ∃ (ad27 : Addr),
 Gives Proofs.Try.prog (Instr.indexAt 36 (Value.slice a24 n25 n26) (Value.int IntKind.i64 x17)) (Value.pointer (some ad27)) ∧
 ∃ (x28 : Int),
 ∃ (x29 : Int),
 Reads Proofs.Try.prog [] (Instr.loadAt 80 (Value.pointer (some ad27))) w14 (Value.agg #[Value.int IntKind.i64 x28, Value.int IntKind.i64 x29]) ∧
 ∃ (ad30 : Addr),
 h' = some ad30 ∧
 ∃ (a31 : Option Addr),
 ∃ (n32 : Nat),
 ∃ (n33 : Nat),
 Reads Proofs.Try.prog [] (Instr.loadAt 36 (Value.pointer (some ad30))) w14 (Value.slice a31 n32 n33) ∧
 ∃ (ad34 : Addr),
 Gives Proofs.Try.prog (Instr.indexAt 36 (Value.slice a31 n32 n33) (Value.int IntKind.i64 x12)) (Value.pointer (some ad34)) ∧
 ∃ (x35 : Int),
 ∃ (x36 : Int),
 Reads Proofs.Try.prog [] (Instr.loadAt 80 (Value.pointer (some ad34))) w14
 (Value.agg #[Value.int IntKind.i64 x35, Value.int IntKind.i64 x36]) ∧
 ∀ (w37 : World),
 Bel w14 w37 →
 Calls Proofs.Try.prog 48
 #[Value.agg #[Value.int IntKind.i64 x28, Value.int IntKind.i64 x29],
 Value.agg #[Value.int IntKind.i64 x35, Value.int IntKind.i64 x36]]
 w37 fun (e38 : Ending) (w39 : World) =>
 ∃ (b40 : Bool),
 e38 = Ending.returned (Value.bool b40) ∧
 Reads Proofs.Try.prog [] (Instr.loadAt 36 (Value.pointer (some ad30))) w39 (Value.slice a31 n32 n33) ∧
 Reads Proofs.Try.prog [] (Instr.loadAt 36 (Value.pointer (some ad23))) w39 (Value.slice a24 n25 n26) ∧
 Reads Proofs.Try.prog [] (Instr.loadAt 36 (Value.pointer (some ad19))) w39 (Value.slice a20 n21 n22) ∧
 J18 (b40, ()) w39) ∧
 (decide (x17 < (↑n21 : Int)) = false → ∀ (w41 : World), Bel w14 w41 → J18 (false, ()) w41)) ∧
 ∀ (b42 : Bool) (w43 : World), J18 (b42, ()) w43 → (b42 = true → J15 (x17, ()) w43) ∧ (b42 = false → J15 (x12, ()) w43)) ∧
 ∀ (x44 : Int) (w45 : World), J15 (x44, ()) w45 → J10 (x44, IntKind.i64.wrap (x13 + 1), ()) w45 ∧ J11 (x44, IntKind.i64.wrap (x13 + 1), ()) w45 < J11 (x12, x13, ()) w14) ∧
 (decide (x13 < (↑n8 : Int)) = false →
 ((x12 == x3) = true → R (Ending.returned (Value.tuple #[])) w14) ∧
 ((x12 == x3) = false →
 Calls Proofs.Try.prog 49 #[Value.pointer h', Value.int IntKind.i64 x3, Value.int IntKind.i64 x12] w14 fun (e46 : Ending) (w47 : World) =>
 e46 = Ending.returned (Value.tuple #[]) ∧ J1 (x12, ()) w47 ∧ J2 (x12, ()) w47 < J2 (x3, ()) w4))
theorem f35_eq (h' : Option Addr) (i : Int) (w : World) (R : Ending → World → Prop) : (fnF Go.Proofs.Try.prog h35 Go.Proofs.Try.f35 [Value.pointer h', Value.int IntKind.i64 i] w R).den = f35_vc h' i w R := by kernel_rfl
theorem f35_calls (h' : Option Addr) (i : Int) (w : World) (R : Ending → World → Prop) (h : f35_vc h' i w R) : Calls Go.Proofs.Try.prog 35 (List.toArray [Value.pointer h', Value.int IntKind.i64 i]) w R :=
 fn_sound (H := h35) (fn := Go.Proofs.Try.f35) (by kernel_rfl) (by kernel_rfl) (by kernel_rfl) ((f35_eq h' i w R).mpr h)


/-! manciple/mancipleref11.Put -/
def h36 : Hints := ⟨[3], [25, 36], [16, 28, 41, 21], [(7, [0, 1, 2, 3, 4, 5, 6, 7, 8, 9])], [], [(5, ⟨[(6, .sl), (7, .bool), (8, .int .i64)], []⟩)], [], [], []⟩
def f36_vc (la : Option Addr) (ln : Nat) (lc : Nat) (x_0 : Int) (x_1 : Int) (w : World) (R : Ending → World → Prop) : Prop :=
 ∀ (n1 : Nat),
 w.heap.size ≤ n1 →
 ∀ (w2 : World),
 Bel w w2 →
 Under [n1] w2 →
 Calls Proofs.Try.prog 37 #[Value.slice la ln lc, Value.int IntKind.i64 x_0] w2 fun (e3 : Ending) (w4 : World) =>
 ∃ (a5 : Option Addr),
 ∃ (n6 : Nat),
 ∃ (n7 : Nat),
 e3 = Ending.returned (Value.slice a5 n6 n7) ∧
 Keeps [n1] w2 w4 ∧
 ∃ (J8 : (Option Addr × Nat × Nat) × Bool × Int × Unit → World → Prop),
 ∃ (J9 : (Option Addr × Nat × Nat) × Bool × Int × Unit → World → Nat),
 J8 ((none, 0, 0), false, 0, ()) w4 ∧
 ∀ (a10 : Option Addr) (n11 n12 : Nat) (b13 : Bool) (x14 : Int) (w15 : World),
 J8 ((a10, n11, n12), b13, x14, ()) w15 →
 (decide (x14 < (↑n6 : Int)) = true →
 ((!b13) = true →
 ∃ (ad16 : Addr),
 Gives Proofs.Try.prog (Instr.indexAt 41 (Value.slice a5 n6 n7) (Value.int IntKind.i64 x14)) (Value.pointer (some ad16)) ∧
 ∃ (x17 : Int),
 ∃ (x18 : Int),
 Reads Proofs.Try.prog [] (Instr.loadAt 48 (Value.pointer (some ad16))) w15 (Value.agg #[Value.int IntKind.i64 x17, Value.int IntKind.i64 x18]) ∧
 ∀ (w19 : World),
 Bel w15 w19 →
 Under [n1] w19 →
 Calls Proofs.Try.prog 50 #[Value.agg #[Value.int IntKind.i64 x_0, Value.int IntKind.i64 x_1], Value.agg #[Value.int IntKind.i64 x17, Value.int IntKind.i64 x18]] w19
 fun (e20 : Ending) (w21 : World) =>
 ∃ (b22 : Bool),
 e20 = Ending.returned (Value.bool b22) ∧
 Keeps [n1] w19 w21 ∧
 (b22 = true →
 OpW Proofs.Try.prog (valueS (Instr.buildSlice 41 1 #[(0, Value.agg #[Value.int IntKind.i64 x_0, Value.int IntKind.i64 x_1])])) w21 fun (v23 : Value) (w24 : World) =>
 ∃ (a25 : Option Addr),
 ∃ (n26 : Nat),
 ∃ (n27 : Nat),
 v23 = Value.slice a25 n26 n27 ∧
 Keeps [n1] w21 w24 ∧
 OpW Proofs.Try.prog (builtin Builtin.append #[41, 41] 41 #[false, false] #[Value.slice a10 n11 n12, Value.slice a25 n26 n27]) w24
 fun (v28 : Value) (w29 : World) =>
 ∃ (a30 : Option Addr),
 ∃ (n31 : Nat),
 ∃ (n32 : Nat),
 v28 = Value.slice a30 n31 n32 ∧
 Keeps [n1] w24 w29 ∧
 ∃ (ad33 : Addr),
 Gives Proofs.Try.prog (Instr.indexAt 41 (Value.slice a5 n6 n7) (Value.int IntKind.i64 x14)) (Value.pointer (some ad33)) ∧
 ∃ (x34 : Int),
 ∃ (x35 : Int),
 Reads Proofs.Try.prog [] (Instr.loadAt 48 (Value.pointer (some ad33))) w29
 (Value.agg #[Value.int IntKind.i64 x34, Value.int IntKind.i64 x35]) ∧
 OpW Proofs.Try.prog (valueS (Instr.buildSlice 41 1 #[(0, Value.agg #[Value.int IntKind.i64 x34, Value.int IntKind.i64 x35])])) w29
 fun (v36 : Value) (w37 : World) =>
 ∃ (a38 : Option Addr),
 ∃ (n39 : Nat),
 ∃ (n40 : Nat),
 v36 = Value.slice a38 n39 n40 ∧
 Keeps [n1] w29 w37 ∧
 OpW Proofs.Try.prog (builtin Builtin.append #[41, 41] 41 #[false, false] #[Value.slice a30 n31 n32, Value.slice a38 n39 n40])
 w37 fun (v41 : Value) (w42 : World) =>
 ∃ (a43 : Option Addr),
 ∃ (n44 : Nat),
 ∃ (n45 : Nat),
 v41 = Value.slice a43 n44 n45 ∧
 Keeps [n1] w37 w42 ∧
 J8 ((a43, n44, n45), true, IntKind.i64.wrap (x14 + 1), ()) w42 ∧
 J9 ((a43, n44, n45), true, IntKind.i64.wrap (x14 + 1), ()) w42 < J9 ((a10, n11, n12), b13, x14, ()) w15) ∧
 (b22 = false →
 ∃ (ad46 : Addr),
 Gives Proofs.Try.prog (Instr.indexAt 41 (Value.slice a5 n6 n7) (Value.int IntKind.i64 x14)) (Value.pointer (some ad46)) ∧
 ∃ (x47 : Int),
 ∃ (x48 : Int),
 Reads Proofs.Try.prog [] (Instr.loadAt 48 (Value.pointer (some ad46))) w21 (Value.agg #[Value.int IntKind.i64 x47, Value.int IntKind.i64 x48]) ∧
 OpW Proofs.Try.prog (valueS (Instr.buildSlice 41 1 #[(0, Value.agg #[Value.int IntKind.i64 x47, Value.int IntKind.i64 x48])])) w21
 fun (v49 : Value) (w50 : World) =>
 ∃ (a51 : Option Addr),
 ∃ (n52 : Nat),
 ∃ (n53 : Nat),
 v49 = Value.slice a51 n52 n53 ∧
 Keeps [n1] w21 w50 ∧
 OpW Proofs.Try.prog (builtin Builtin.append #[41, 41] 41 #[false, false] #[Value.slice a10 n11 n12, Value.slice a51 n52 n53]) w50
 fun (v54 : Value) (w55 : World) =>
 ∃ (a56 : Option Addr),
 ∃ (n57 : Nat),
 ∃ (n58 : Nat),
 v54 = Value.slice a56 n57 n58 ∧
 Keeps [n1] w50 w55 ∧
 J8 ((a56, n57, n58), b13, IntKind.i64.wrap (x14 + 1), ()) w55 ∧
 J9 ((a56, n57, n58), b13, IntKind.i64.wrap (x14 + 1), ()) w55 < J9 ((a10, n11, n12), b13, x14, ()) w15)) ∧
 ((!b13) = false →
 ∃ (ad59 : Addr),
 Gives Proofs.Try.prog (Instr.indexAt 41 (Value.slice a5 n6 n7) (Value.int IntKind.i64 x14)) (Value.pointer (some ad59)) ∧
 ∃ (x60 : Int),
 ∃ (x61 : Int),
 Reads Proofs.Try.prog [] (Instr.loadAt 48 (Value.pointer (some ad59))) w15 (Value.agg #[Value.int IntKind.i64 x60, Value.int IntKind.i64 x61]) ∧
 ∀ (w62 : World),
 Bel w15 w62 →
 Under [n1] w62 →
 OpW Proofs.Try.prog (valueS (Instr.buildSlice 41 1 #[(0, Value.agg #[Value.int IntKind.i64 x60, Value.int IntKind.i64 x61])])) w62 fun (v63 : Value) (w64 : World) =>
 ∃ (a65 : Option Addr),
 ∃ (n66 : Nat),
 ∃ (n67 : Nat),
 v63 = Value.slice a65 n66 n67 ∧
 Keeps [n1] w62 w64 ∧
 OpW Proofs.Try.prog (builtin Builtin.append #[41, 41] 41 #[false, false] #[Value.slice a10 n11 n12, Value.slice a65 n66 n67]) w64 fun (v68 : Value) (w69 : World) =>
 ∃ (a70 : Option Addr),
 ∃ (n71 : Nat),
 ∃ (n72 : Nat),
 v68 = Value.slice a70 n71 n72 ∧
 Keeps [n1] w64 w69 ∧
 J8 ((a70, n71, n72), b13, IntKind.i64.wrap (x14 + 1), ()) w69 ∧
 J9 ((a70, n71, n72), b13, IntKind.i64.wrap (x14 + 1), ()) w69 < J9 ((a10, n11, n12), b13, x14, ()) w15)) ∧
 (decide (x14 < (↑n6 : Int)) = false →
 ((!b13) = true →
 OpW Proofs.Try.prog (valueS (Instr.buildSlice 41 1 #[(0, Value.agg #[Value.int IntKind.i64 x_0, Value.int IntKind.i64 x_1])])) w15 fun (v73 : Value) (w74 : World) =>
 ∃ (a75 : Option Addr),
 ∃ (n76 : Nat),
 ∃ (n77 : Nat),
 v73 = Value.slice a75 n76 n77 ∧
 Keeps [n1] w15 w74 ∧
 OpW Proofs.Try.prog (builtin Builtin.append #[41, 41] 41 #[false, false] #[Value.slice a10 n11 n12, Value.slice a75 n76 n77]) w74 fun (v78 : Value) (w79 : World) =>
 ∃ (a80 : Option Addr), ∃ (n81 : Nat), ∃ (n82 : Nat), v78 = Value.slice a80 n81 n82 ∧ Keeps [n1] w74 w79 ∧ R (Ending.returned (Value.slice a80 n81 n82)) w79) ∧
 ((!b13) = false → R (Ending.returned (Value.slice a10 n11 n12)) w15))
theorem f36_eq (la : Option Addr) (ln : Nat) (lc : Nat) (x_0 : Int) (x_1 : Int) (w : World) (R : Ending → World → Prop) : (fnF Go.Proofs.Try.prog h36 Go.Proofs.Try.f36 [Value.slice la ln lc, Value.agg #[Value.int IntKind.i64 x_0, Value.int IntKind.i64 x_1]] w R).den = f36_vc la ln lc x_0 x_1 w R := by kernel_rfl
theorem f36_calls (la : Option Addr) (ln : Nat) (lc : Nat) (x_0 : Int) (x_1 : Int) (w : World) (R : Ending → World → Prop) (h : f36_vc la ln lc x_0 x_1 w R) : Calls Go.Proofs.Try.prog 36 (List.toArray [Value.slice la ln lc, Value.agg #[Value.int IntKind.i64 x_0, Value.int IntKind.i64 x_1]]) w R :=
 fn_sound (H := h36) (fn := Go.Proofs.Try.f36) (by kernel_rfl) (by kernel_rfl) (by kernel_rfl) ((f36_eq la ln lc x_0 x_1 w R).mpr h)


/-! manciple/mancipleref11.Drop -/
def h37 : Hints := ⟨[], [15, 23], [10, 19], [], [], [(3, ⟨[(5, .sl), (6, .int .i64)], []⟩)], [], [], []⟩
def f37_vc (la : Option Addr) (ln : Nat) (lc : Nat) (key : Int) (w : World) (R : Ending → World → Prop) : Prop :=
 ∃ (J1 : (Option Addr × Nat × Nat) × Int × Unit → World → Prop),
 ∃ (J2 : (Option Addr × Nat × Nat) × Int × Unit → World → Nat),
 J1 ((none, 0, 0), 0, ()) w ∧
 ∀ (a3 : Option Addr) (n4 n5 : Nat) (x6 : Int) (w7 : World),
 J1 ((a3, n4, n5), x6, ()) w7 →
 (decide (x6 < (↑ln : Int)) = true →
 ∃ (ad8 : Addr),
 Gives Proofs.Try.prog (Instr.indexAt 41 (Value.slice la ln lc) (Value.int IntKind.i64 x6)) (Value.pointer (some ad8)) ∧
 ∃ (x9 : Int),
 Reads Proofs.Try.prog [] (Instr.loadAt 2 (Value.pointer (some ad8))) w7 (Value.int IntKind.i64 x9) ∧
 ((x9 != key) = true →
 ∃ (ad10 : Addr),
 Gives Proofs.Try.prog (Instr.indexAt 41 (Value.slice la ln lc) (Value.int IntKind.i64 x6)) (Value.pointer (some ad10)) ∧
 ∃ (x11 : Int),
 ∃ (x12 : Int),
 Reads Proofs.Try.prog [] (Instr.loadAt 48 (Value.pointer (some ad10))) w7 (Value.agg #[Value.int IntKind.i64 x11, Value.int IntKind.i64 x12]) ∧
 OpW Proofs.Try.prog (valueS (Instr.buildSlice 41 1 #[(0, Value.agg #[Value.int IntKind.i64 x11, Value.int IntKind.i64 x12])])) w7 fun (v13 : Value) (w14 : World) =>
 ∃ (a15 : Option Addr),
 ∃ (n16 : Nat),
 ∃ (n17 : Nat),
 v13 = Value.slice a15 n16 n17 ∧
 OpW Proofs.Try.prog (builtin Builtin.append #[41, 41] 41 #[false, false] #[Value.slice a3 n4 n5, Value.slice a15 n16 n17]) w14 fun (v18 : Value) (w19 : World) =>
 ∃ (a20 : Option Addr),
 ∃ (n21 : Nat),
 ∃ (n22 : Nat),
 v18 = Value.slice a20 n21 n22 ∧ J1 ((a20, n21, n22), IntKind.i64.wrap (x6 + 1), ()) w19 ∧ J2 ((a20, n21, n22), IntKind.i64.wrap (x6 + 1), ()) w19 < J2 ((a3, n4, n5), x6, ()) w7) ∧
 ((x9 != key) = false → J1 ((a3, n4, n5), IntKind.i64.wrap (x6 + 1), ()) w7 ∧ J2 ((a3, n4, n5), IntKind.i64.wrap (x6 + 1), ()) w7 < J2 ((a3, n4, n5), x6, ()) w7)) ∧
 (decide (x6 < (↑ln : Int)) = false → R (Ending.returned (Value.slice a3 n4 n5)) w7)
theorem f37_eq (la : Option Addr) (ln : Nat) (lc : Nat) (key : Int) (w : World) (R : Ending → World → Prop) : (fnF Go.Proofs.Try.prog h37 Go.Proofs.Try.f37 [Value.slice la ln lc, Value.int IntKind.i64 key] w R).den = f37_vc la ln lc key w R := by kernel_rfl
theorem f37_calls (la : Option Addr) (ln : Nat) (lc : Nat) (key : Int) (w : World) (R : Ending → World → Prop) (h : f37_vc la ln lc key w R) : Calls Go.Proofs.Try.prog 37 (List.toArray [Value.slice la ln lc, Value.int IntKind.i64 key]) w R :=
 fn_sound (H := h37) (fn := Go.Proofs.Try.f37) (by kernel_rfl) (by kernel_rfl) (by kernel_rfl) ((f37_eq la ln lc key w R).mpr h)


/-! manciple/mancipleref11.Due -/
def h38 : Hints := ⟨[], [17, 25, 33], [12, 21], [], [], [(4, ⟨[(6, .sl), (7, .sl), (8, .int .i64)], []⟩)], [], [], []⟩
def f38_vc (la : Option Addr) (ln : Nat) (lc : Nat) (now : Int) (w : World) (R : Ending → World → Prop) : Prop :=
 ∃ (J1 : (Option Addr × Nat × Nat) × (Option Addr × Nat × Nat) × Int × Unit → World → Prop),
 ∃ (J2 : (Option Addr × Nat × Nat) × (Option Addr × Nat × Nat) × Int × Unit → World → Nat),
 J1 ((none, 0, 0), (none, 0, 0), 0, ()) w ∧
 ∀ (a3 : Option Addr) (n4 n5 : Nat) (a6 : Option Addr) (n7 n8 : Nat) (x9 : Int) (w10 : World),
 J1 ((a3, n4, n5), (a6, n7, n8), x9, ()) w10 →
 (decide (x9 < (↑ln : Int)) = true →
 ∃ (ad11 : Addr),
 Gives Proofs.Try.prog (Instr.indexAt 41 (Value.slice la ln lc) (Value.int IntKind.i64 x9)) (Value.pointer (some ad11)) ∧
 ∃ (x12 : Int),
 Reads Proofs.Try.prog [] (Instr.loadAt 2 (Value.pointer (some (Addr.mk ad11.block (ad11.off + 1) none)))) w10 (Value.int IntKind.i64 x12) ∧
 (decide (x12 ≤ now) = true →
 ∃ (ad13 : Addr),
 Gives Proofs.Try.prog (Instr.indexAt 41 (Value.slice la ln lc) (Value.int IntKind.i64 x9)) (Value.pointer (some ad13)) ∧
 ∃ (x14 : Int),
 Reads Proofs.Try.prog [] (Instr.loadAt 2 (Value.pointer (some ad13))) w10 (Value.int IntKind.i64 x14) ∧
 OpW Proofs.Try.prog (valueS (Instr.buildSlice 22 1 #[(0, Value.int IntKind.i64 x14)])) w10 fun (v15 : Value) (w16 : World) =>
 ∃ (a17 : Option Addr),
 ∃ (n18 : Nat),
 ∃ (n19 : Nat),
 v15 = Value.slice a17 n18 n19 ∧
 OpW Proofs.Try.prog (builtin Builtin.append #[22, 22] 22 #[false, false] #[Value.slice a3 n4 n5, Value.slice a17 n18 n19]) w16 fun (v20 : Value) (w21 : World) =>
 ∃ (a22 : Option Addr),
 ∃ (n23 : Nat),
 ∃ (n24 : Nat),
 v20 = Value.slice a22 n23 n24 ∧
 J1 ((a22, n23, n24), (a6, n7, n8), IntKind.i64.wrap (x9 + 1), ()) w21 ∧
 J2 ((a22, n23, n24), (a6, n7, n8), IntKind.i64.wrap (x9 + 1), ()) w21 < J2 ((a3, n4, n5), (a6, n7, n8), x9, ()) w10) ∧
 (decide (x12 ≤ now) = false →
 ∃ (ad25 : Addr),
 Gives Proofs.Try.prog (Instr.indexAt 41 (Value.slice la ln lc) (Value.int IntKind.i64 x9)) (Value.pointer (some ad25)) ∧
 ∃ (x26 : Int),
 ∃ (x27 : Int),
 Reads Proofs.Try.prog [] (Instr.loadAt 48 (Value.pointer (some ad25))) w10 (Value.agg #[Value.int IntKind.i64 x26, Value.int IntKind.i64 x27]) ∧
 OpW Proofs.Try.prog (valueS (Instr.buildSlice 41 1 #[(0, Value.agg #[Value.int IntKind.i64 x26, Value.int IntKind.i64 x27])])) w10 fun (v28 : Value) (w29 : World) =>
 ∃ (a30 : Option Addr),
 ∃ (n31 : Nat),
 ∃ (n32 : Nat),
 v28 = Value.slice a30 n31 n32 ∧
 OpW Proofs.Try.prog (builtin Builtin.append #[41, 41] 41 #[false, false] #[Value.slice a6 n7 n8, Value.slice a30 n31 n32]) w29 fun (v33 : Value) (w34 : World) =>
 ∃ (a35 : Option Addr),
 ∃ (n36 : Nat),
 ∃ (n37 : Nat),
 v33 = Value.slice a35 n36 n37 ∧
 J1 ((a3, n4, n5), (a35, n36, n37), IntKind.i64.wrap (x9 + 1), ()) w34 ∧
 J2 ((a3, n4, n5), (a35, n36, n37), IntKind.i64.wrap (x9 + 1), ()) w34 < J2 ((a3, n4, n5), (a6, n7, n8), x9, ()) w10)) ∧
 (decide (x9 < (↑ln : Int)) = false → R (Ending.returned (Value.tuple #[Value.slice a3 n4 n5, Value.slice a6 n7 n8])) w10)
theorem f38_eq (la : Option Addr) (ln : Nat) (lc : Nat) (now : Int) (w : World) (R : Ending → World → Prop) : (fnF Go.Proofs.Try.prog h38 Go.Proofs.Try.f38 [Value.slice la ln lc, Value.int IntKind.i64 now] w R).den = f38_vc la ln lc now w R := by kernel_rfl
theorem f38_calls (la : Option Addr) (ln : Nat) (lc : Nat) (now : Int) (w : World) (R : Ending → World → Prop) (h : f38_vc la ln lc now w R) : Calls Go.Proofs.Try.prog 38 (List.toArray [Value.slice la ln lc, Value.int IntKind.i64 now]) w R :=
 fn_sound (H := h38) (fn := Go.Proofs.Try.f38) (by kernel_rfl) (by kernel_rfl) (by kernel_rfl) ((f38_eq la ln lc now w R).mpr h)


/-! manciple/manciplelaw11.same -/
def h39 : Hints := ⟨[], [19, 23], [10, 14, 25], [(6, [0, 1, 2, 3, 4, 5, 6, 7, 8])], [], [(4, ⟨[(5, .int .i64)], []⟩)], [], [], []⟩
def f39_vc (aa : Option Addr) (an : Nat) (ac : Nat) (ba : Option Addr) (bn : Nat) (bc : Nat) (w : World) (R : Ending → World → Prop) : Prop :=
 (((↑an : Int) != (↑bn : Int)) = true → R (Ending.returned (Value.bool false)) w) ∧
 (((↑an : Int) != (↑bn : Int)) = false →
 ∃ (J1 : Int × Unit → World → Prop),
 ∃ (J2 : Int × Unit → World → Nat),
 J1 (0, ()) w ∧
 ∀ (x3 : Int) (w4 : World),
 J1 (x3, ()) w4 →
 (decide (x3 < (↑an : Int)) = true →
 ∃ (ad5 : Addr),
 Gives Proofs.Try.prog (Instr.indexAt 22 (Value.slice aa an ac) (Value.int IntKind.i64 x3)) (Value.pointer (some ad5)) ∧
 ∃ (x6 : Int),
 Reads Proofs.Try.prog [] (Instr.loadAt 2 (Value.pointer (some ad5))) w4 (Value.int IntKind.i64 x6) ∧
 ∃ (ad7 : Addr),
 Gives Proofs.Try.prog (Instr.indexAt 22 (Value.slice ba bn bc) (Value.int IntKind.i64 x3)) (Value.pointer (some ad7)) ∧
 ∃ (x8 : Int),
 Reads Proofs.Try.prog [] (Instr.loadAt 2 (Value.pointer (some ad7))) w4 (Value.int IntKind.i64 x8) ∧
 ((x6 != x8) = true → ∀ (w9 : World), Bel w4 w9 → R (Ending.returned (Value.bool false)) w9) ∧
 ((x6 != x8) = false → ∀ (w10 : World), Bel w4 w10 → J1 (IntKind.i64.wrap (x3 + 1), ()) w10 ∧ J2 (IntKind.i64.wrap (x3 + 1), ()) w10 < J2 (x3, ()) w4)) ∧
 (decide (x3 < (↑an : Int)) = false → R (Ending.returned (Value.bool true)) w4))
theorem f39_eq (aa : Option Addr) (an : Nat) (ac : Nat) (ba : Option Addr) (bn : Nat) (bc : Nat) (w : World) (R : Ending → World → Prop) : (fnF Go.Proofs.Try.prog h39 Go.Proofs.Try.f39 [Value.slice aa an ac, Value.slice ba bn bc] w R).den = f39_vc aa an ac ba bn bc w R := by kernel_rfl
theorem f39_calls (aa : Option Addr) (an : Nat) (ac : Nat) (ba : Option Addr) (bn : Nat) (bc : Nat) (w : World) (R : Ending → World → Prop) (h : f39_vc aa an ac ba bn bc w R) : Calls Go.Proofs.Try.prog 39 (List.toArray [Value.slice aa an ac, Value.slice ba bn bc]) w R :=
 fn_sound (H := h39) (fn := Go.Proofs.Try.f39) (by kernel_rfl) (by kernel_rfl) (by kernel_rfl) ((f39_eq aa an ac ba bn bc w R).mpr h)


/-! (manciple/heap.item).ahead -/
def h48 : Hints := ⟨[2, 3], [], [10, 16], [], [], [], [], [], []⟩
def f48_vc (a_0 : Int) (a_1 : Int) (b_0 : Int) (b_1 : Int) (w : World) (R : Ending → World → Prop) : Prop :=
 ∀ (n1 : Nat),
 w.heap.size ≤ n1 →
 ∀ (n2 : Nat),
 w.heap.size ≤ n2 →
 (decide (a_1 < b_1) = true → ∀ (w3 : World), Bel w w3 → Under [n1, n2] w3 → R (Ending.returned (Value.bool true)) w3) ∧
 (decide (a_1 < b_1) = false →
 ((a_1 == b_1) = true → ∀ (w4 : World), Bel w w4 → Under [n1, n2] w4 → R (Ending.returned (Value.bool (decide (a_0 < b_0)))) w4) ∧
 ((a_1 == b_1) = false → ∀ (w5 : World), Bel w w5 → Under [n1, n2] w5 → R (Ending.returned (Value.bool false)) w5))
theorem f48_eq (a_0 : Int) (a_1 : Int) (b_0 : Int) (b_1 : Int) (w : World) (R : Ending → World → Prop) : (fnF Go.Proofs.Try.prog h48 Go.Proofs.Try.f48 [Value.agg #[Value.int IntKind.i64 a_0, Value.int IntKind.i64 a_1], Value.agg #[Value.int IntKind.i64 b_0, Value.int IntKind.i64 b_1]] w R).den = f48_vc a_0 a_1 b_0 b_1 w R := by kernel_rfl
theorem f48_calls (a_0 : Int) (a_1 : Int) (b_0 : Int) (b_1 : Int) (w : World) (R : Ending → World → Prop) (h : f48_vc a_0 a_1 b_0 b_1 w R) : Calls Go.Proofs.Try.prog 48 (List.toArray [Value.agg #[Value.int IntKind.i64 a_0, Value.int IntKind.i64 a_1], Value.agg #[Value.int IntKind.i64 b_0, Value.int IntKind.i64 b_1]]) w R :=
 fn_sound (H := h48) (fn := Go.Proofs.Try.f48) (by kernel_rfl) (by kernel_rfl) (by kernel_rfl) ((f48_eq a_0 a_1 b_0 b_1 w R).mpr h)


/-! (*manciple/heap.Heap).swap -/
def h49 : Hints := ⟨[6, 7], [9, 13, 16, 20, 31, 35], [], [], [], [], [], [], [(0, (.op 0 (.op 1 (.op 2 (.op 3 (.op 4 (.op 5 (.op 6 (.op 7 (.op 8 (.op 9 (.op 10 (.op 11 (.op 12 (.op 13 (.alt (.op 14 (.op 15 (.op 16 (.op 17 .nil)))) (.op 15 (.op 14 (.op 16 (.op 17 .nil))))))))))))))))))))]⟩
def f49_vc (h' : Option Addr) (i : Int) (k : Int) (w : World) (R : Ending → World → Prop) : Prop :=
 ∃ (ad1 : Addr),
 h' = some ad1 ∧
 ∃ (a2 : Option Addr),
 ∃ (n3 : Nat),
 ∃ (n4 : Nat),
 Reads Proofs.Try.prog [] (Instr.loadAt 36 (Value.pointer (some ad1))) w (Value.slice a2 n3 n4) ∧
 ∃ (ad5 : Addr),
 Gives Proofs.Try.prog (Instr.indexAt 36 (Value.slice a2 n3 n4) (Value.int IntKind.i64 i)) (Value.pointer (some ad5)) ∧
 ∃ (x6 : Int),
 ∃ (x7 : Int),
 Reads Proofs.Try.prog [] (Instr.loadAt 80 (Value.pointer (some ad5))) w (Value.agg #[Value.int IntKind.i64 x6, Value.int IntKind.i64 x7]) ∧
 ∃ (ad8 : Addr),
 h' = some ad8 ∧
 ∃ (a9 : Option Addr),
 ∃ (n10 : Nat),
 ∃ (n11 : Nat),
 Reads Proofs.Try.prog [] (Instr.loadAt 36 (Value.pointer (some ad8))) w (Value.slice a9 n10 n11) ∧
 ∃ (ad12 : Addr),
 Gives Proofs.Try.prog (Instr.indexAt 36 (Value.slice a9 n10 n11) (Value.int IntKind.i64 k)) (Value.pointer (some ad12)) ∧
 ∃ (x13 : Int),
 ∃ (x14 : Int),
 Reads Proofs.Try.prog [] (Instr.loadAt 80 (Value.pointer (some ad12))) w (Value.agg #[Value.int IntKind.i64 x13, Value.int IntKind.i64 x14]) ∧
 (∀ (n15 : Nat),
 w.heap.size ≤ n15 →
 Reads Proofs.Try.prog [] (Instr.loadAt 80 (Value.pointer (some ad12))) w (Value.agg #[Value.int IntKind.i64 x13, Value.int IntKind.i64 x14]) ∧
 Reads Proofs.Try.prog [] (Instr.loadAt 36 (Value.pointer (some ad8))) w (Value.slice a9 n10 n11) ∧
 Reads Proofs.Try.prog [] (Instr.loadAt 80 (Value.pointer (some ad5))) w (Value.agg #[Value.int IntKind.i64 x6, Value.int IntKind.i64 x7]) ∧
 Reads Proofs.Try.prog [] (Instr.loadAt 36 (Value.pointer (some ad1))) w (Value.slice a2 n3 n4) ∧
 ∀ (n16 : Nat),
 w.heap.size ≤ n16 →
 Reads Proofs.Try.prog [] (Instr.loadAt 80 (Value.pointer (some ad12))) w (Value.agg #[Value.int IntKind.i64 x13, Value.int IntKind.i64 x14]) ∧
 Reads Proofs.Try.prog [] (Instr.loadAt 36 (Value.pointer (some ad8))) w (Value.slice a9 n10 n11) ∧
 Reads Proofs.Try.prog [] (Instr.loadAt 80 (Value.pointer (some ad5))) w (Value.agg #[Value.int IntKind.i64 x6, Value.int IntKind.i64 x7]) ∧
 Reads Proofs.Try.prog [] (Instr.loadAt 36 (Value.pointer (some ad1))) w (Value.slice a2 n3 n4) ∧
 Reads Proofs.Try.prog [n15] (Instr.loadAt 80 (Value.pointer (some ad12))) w (Value.agg #[Value.int IntKind.i64 x13, Value.int IntKind.i64 x14]) ∧
 Reads Proofs.Try.prog [n15] (Instr.loadAt 36 (Value.pointer (some ad8))) w (Value.slice a9 n10 n11) ∧
 ∀ (w17 : World),
 Evo [n16, n15] w w17 →
 Under [n15, n16] w17 →
 Calls Proofs.Try.prog 33 #[Value.pointer h', Value.int IntKind.i64 i, Value.agg #[Value.int IntKind.i64 x13, Value.int IntKind.i64 x14]] w17
 fun (e18 : Ending) (w19 : World) =>
 e18 = Ending.returned (Value.tuple #[]) ∧
 Keeps [n15, n16] w17 w19 ∧
 Calls Proofs.Try.prog 33 #[Value.pointer h', Value.int IntKind.i64 k, Value.agg #[Value.int IntKind.i64 x6, Value.int IntKind.i64 x7]] w19
 fun (e20 : Ending) (w21 : World) =>
 e20 = Ending.returned (Value.tuple #[]) ∧
 Keeps [n15, n16] w19 w21 ∧
 ∃ (ad22 : Addr),
 h' = some ad22 ∧
 ∃ (x23 : Int),
 Reads Proofs.Try.prog [] (Instr.loadAt 3 (Value.pointer (some (Addr.mk ad22.block (ad22.off + 2) none)))) w21 (Value.int IntKind.i64 x23) ∧
 ∃ (ad24 : Addr),
 h' = some ad24 ∧
 OpW Proofs.Try.prog
 (skipS
 (Instr.storeAt 3 (Value.pointer (some (Addr.mk ad24.block (ad24.off + 2) none)))
 (Value.int IntKind.i64 (IntKind.i64.wrap (x23 + 1)))))
 w21 fun (v25 : Value) (w26 : World) => Keeps [n15, n16] w21 w26 ∧ R (Ending.returned (Value.tuple #[])) w26) ∧
 ∀ (n27 : Nat),
 w.heap.size ≤ n27 →
 Reads Proofs.Try.prog [] (Instr.loadAt 80 (Value.pointer (some ad12))) w (Value.agg #[Value.int IntKind.i64 x13, Value.int IntKind.i64 x14]) ∧
 Reads Proofs.Try.prog [] (Instr.loadAt 36 (Value.pointer (some ad8))) w (Value.slice a9 n10 n11) ∧
 Reads Proofs.Try.prog [] (Instr.loadAt 80 (Value.pointer (some ad5))) w (Value.agg #[Value.int IntKind.i64 x6, Value.int IntKind.i64 x7]) ∧
 Reads Proofs.Try.prog [] (Instr.loadAt 36 (Value.pointer (some ad1))) w (Value.slice a2 n3 n4) ∧
 ∀ (n28 : Nat),
 w.heap.size ≤ n28 →
 Reads Proofs.Try.prog [] (Instr.loadAt 80 (Value.pointer (some ad12))) w (Value.agg #[Value.int IntKind.i64 x13, Value.int IntKind.i64 x14]) ∧
 Reads Proofs.Try.prog [] (Instr.loadAt 36 (Value.pointer (some ad8))) w (Value.slice a9 n10 n11) ∧
 Reads Proofs.Try.prog [] (Instr.loadAt 80 (Value.pointer (some ad5))) w (Value.agg #[Value.int IntKind.i64 x6, Value.int IntKind.i64 x7]) ∧
 Reads Proofs.Try.prog [] (Instr.loadAt 36 (Value.pointer (some ad1))) w (Value.slice a2 n3 n4) ∧
 Reads Proofs.Try.prog [n28] (Instr.loadAt 80 (Value.pointer (some ad12))) w (Value.agg #[Value.int IntKind.i64 x13, Value.int IntKind.i64 x14]) ∧
 Reads Proofs.Try.prog [n28] (Instr.loadAt 36 (Value.pointer (some ad8))) w (Value.slice a9 n10 n11) ∧
 ∀ (w29 : World),
 Evo [n27, n28] w w29 →
 Under [n27, n28] w29 →
 Calls Proofs.Try.prog 33 #[Value.pointer h', Value.int IntKind.i64 i, Value.agg #[Value.int IntKind.i64 x13, Value.int IntKind.i64 x14]] w29
 fun (e30 : Ending) (w31 : World) =>
 e30 = Ending.returned (Value.tuple #[]) ∧
 Keeps [n27, n28] w29 w31 ∧
 Calls Proofs.Try.prog 33 #[Value.pointer h', Value.int IntKind.i64 k, Value.agg #[Value.int IntKind.i64 x6, Value.int IntKind.i64 x7]] w31
 fun (e32 : Ending) (w33 : World) =>
 e32 = Ending.returned (Value.tuple #[]) ∧
 Keeps [n27, n28] w31 w33 ∧
 ∃ (ad34 : Addr),
 h' = some ad34 ∧
 ∃ (x35 : Int),
 Reads Proofs.Try.prog [] (Instr.loadAt 3 (Value.pointer (some (Addr.mk ad34.block (ad34.off + 2) none)))) w33 (Value.int IntKind.i64 x35) ∧
 ∃ (ad36 : Addr),
 h' = some ad36 ∧
 OpW Proofs.Try.prog
 (skipS
 (Instr.storeAt 3 (Value.pointer (some (Addr.mk ad36.block (ad36.off + 2) none)))
 (Value.int IntKind.i64 (IntKind.i64.wrap (x35 + 1)))))
 w33 fun (v37 : Value) (w38 : World) => Keeps [n27, n28] w33 w38 ∧ R (Ending.returned (Value.tuple #[])) w38
theorem f49_eq (h' : Option Addr) (i : Int) (k : Int) (w : World) (R : Ending → World → Prop) : (fnF Go.Proofs.Try.prog h49 Go.Proofs.Try.f49 [Value.pointer h', Value.int IntKind.i64 i, Value.int IntKind.i64 k] w R).den = f49_vc h' i k w R := by kernel_rfl
theorem f49_calls (h' : Option Addr) (i : Int) (k : Int) (w : World) (R : Ending → World → Prop) (h : f49_vc h' i k w R) : Calls Go.Proofs.Try.prog 49 (List.toArray [Value.pointer h', Value.int IntKind.i64 i, Value.int IntKind.i64 k]) w R :=
 fn_sound (H := h49) (fn := Go.Proofs.Try.f49) (by kernel_rfl) (by kernel_rfl) (by kernel_rfl) ((f49_eq h' i k w R).mpr h)


/-! manciple/mancipleref11.ahead -/
def h50 : Hints := ⟨[2, 3], [], [10, 16], [], [], [], [], [], []⟩
def f50_vc (a_0 : Int) (a_1 : Int) (b_0 : Int) (b_1 : Int) (w : World) (R : Ending → World → Prop) : Prop :=
 ∀ (n1 : Nat),
 w.heap.size ≤ n1 →
 ∀ (n2 : Nat),
 w.heap.size ≤ n2 →
 (decide (a_1 < b_1) = true → ∀ (w3 : World), Bel w w3 → Under [n1, n2] w3 → R (Ending.returned (Value.bool true)) w3) ∧
 (decide (a_1 < b_1) = false →
 ((a_1 == b_1) = true → ∀ (w4 : World), Bel w w4 → Under [n1, n2] w4 → R (Ending.returned (Value.bool (decide (a_0 < b_0)))) w4) ∧
 ((a_1 == b_1) = false → ∀ (w5 : World), Bel w w5 → Under [n1, n2] w5 → R (Ending.returned (Value.bool false)) w5))
theorem f50_eq (a_0 : Int) (a_1 : Int) (b_0 : Int) (b_1 : Int) (w : World) (R : Ending → World → Prop) : (fnF Go.Proofs.Try.prog h50 Go.Proofs.Try.f50 [Value.agg #[Value.int IntKind.i64 a_0, Value.int IntKind.i64 a_1], Value.agg #[Value.int IntKind.i64 b_0, Value.int IntKind.i64 b_1]] w R).den = f50_vc a_0 a_1 b_0 b_1 w R := by kernel_rfl
theorem f50_calls (a_0 : Int) (a_1 : Int) (b_0 : Int) (b_1 : Int) (w : World) (R : Ending → World → Prop) (h : f50_vc a_0 a_1 b_0 b_1 w R) : Calls Go.Proofs.Try.prog 50 (List.toArray [Value.agg #[Value.int IntKind.i64 a_0, Value.int IntKind.i64 a_1], Value.agg #[Value.int IntKind.i64 b_0, Value.int IntKind.i64 b_1]]) w R :=
 fn_sound (H := h50) (fn := Go.Proofs.Try.f50) (by kernel_rfl) (by kernel_rfl) (by kernel_rfl) ((f50_eq a_0 a_1 b_0 b_1 w R).mpr h)

end Vcc

/- Keys of maps: integers, strings. -/
namespace Go.Vc
open Go Go.RowKit
theorem toList_eq (t s : ByteArray) : (t.toList == s.toList) = decide (t = s) := by
  by_cases h : t = s
  · subst h; simp
  · have : t.toList ≠ s.toList := fun e => h (by
      rw [ByteArray.toList_eq, ByteArray.toList_eq] at e
      have := Array.ext' e
      cases t; cases s
      simpa using this)
    simp [h, this]
theorem beq_ba (a b : ByteArray) : (a == b) = decide (a = b) := by rw [beq_toListBytes, toList_eq]
theorem keyOk_str {P : Program} {kt : TypeId} (h : P.underlying kt = some .string) : KeyOk P kt Value.string where
  eq := fun k k' => by unfold eqB; rw [h]; simp only; rw [beq_ba]
  now := fun d hd k k' b hb => by rw [h] at hd; cases hd; simp [Instr.sameNow] at hb; rw [← hb, beq_ba]
  chk := fun e k W => MapKept.run_checkKey (k := .string k) h trivial e 9999
  bits := fun k => by unfold Instr.sameBits; rw [beq_ba]; simp
  und := ⟨_, h⟩
theorem keyOk_int {P : Program} {kt : TypeId} {q : IntKind} (h : P.underlying kt = some (.int q)) : KeyOk P kt (Value.int q) where
  eq := fun k k' => by
    unfold eqB; rw [h]
    simp only [decide_true, cond_true, Option.some.injEq]
    rw [Bool.eq_iff_iff]; simp
  now := fun d hd k k' b hb => by
    rw [h] at hd; cases hd; simp [Instr.sameNow] at hb; rw [← hb, Bool.eq_iff_iff]; simp
  chk := fun e k W => MapKept.run_checkKey (k := .int q k) h (by unfold MapKept.IsKey; rfl) e 9999
  bits := fun k => by unfold Instr.sameBits; simp
  und := ⟨_, h⟩
end Go.Vc

/- Structs behind pointers: their fields read and stored; what an own row's block is. -/
namespace Go.Vc
open Go Go.RowKit

section
variable {P : Program} {M N : Nat → Prop} {w W W' : World} {gs : List Nat}

theorem elt_cells {g : Nat} {cells : List Value} {ty : TypeId} (h : W.heap[g]? = some (.cells cells.toArray ty (0, 0))) : Elt W ⟨g, 0, none⟩ cells := by
  intro j v hv
  rw [addr_add, cell_at (cells := cells) (ty := ty) (fr := (0, 0)) h, Nat.zero_add]
  exact hv
/-- A field read. -/
theorem rd_f0 {g : Nat} {v : Value} {r : List Value} {ty te : TypeId} {ds : List Nat} (h : W.heap[g]? = some (.cells (v :: r).toArray ty (0, 0))) (hagg : pureRun P (isAgg te) = some false) (hd : ∀ d ∈ ds, d ≠ g) : Reads P ds (Instr.loadAt te (.pointer (some ⟨g, 0, none⟩))) W v :=
  (elt_cells h).one hagg hd
theorem rd_f {g : Nat} (o : Nat) {v : Value} {r cs : List Value} {ty te : TypeId} {ds : List Nat} (h : W.heap[g]? = some (.cells cs.toArray ty (0, 0))) (hc : cs.drop (o + 1) = v :: r) (hagg : pureRun P (isAgg te) = some false) (hd : ∀ d ∈ ds, d ≠ g) : Reads P ds (Instr.loadAt te (.pointer (some (Addr.mk g (0 + (o + 1)) none)))) W v := by
  have := (elt_cells h).sub (o := o + 1) (by omega)
  rw [hc] at this
  exact this.one hagg hd

theorem opw_storeF {g off : Nat} {cells cells' : List Value} {ty te : TypeId} {v : Value} {K : Value → World → Prop} (hA : AtF w M gs W) (hg : W.heap[g]? = some (.cells cells.toArray ty (0, 0))) (hm : w.heap.size ≤ g ∨ M g) (hap : g ∉ gs) (hc : cellStore P te cells off v = some cells')
    (h : ∀ w', AtF w M gs w' → Keeps gs W w' → Chg (fun b => b = g) W w' → w'.heap[g]? = some (.cells cells'.toArray ty (0, 0)) → K undef w') : OpW P (skipS (Instr.storeAt te (.pointer (some ⟨g, off, none⟩)) v)) W K := by
  obtain ⟨W', hr, hg', hb, hs1, h2, h3, h4⟩ := run_cellStore (P := P) (t := te) hg hc
  have hch : Chg (fun b => b = g) W W' := ⟨h2, h3, h4, by omega, fun k _ hk => hb k hk, run_drawn hr⟩
  have hsk : (skipS (Instr.storeAt te (.pointer (some ⟨g, off, none⟩)) v)).run P W = .ok .skip W' := by
    unfold skipS
    rw [run_bind_ok hr]
    rfl
  unfold OpW
  rw [hsk]
  exact h W' (hA.step hch fun b _ hb => by subst hb; exact hm) (hA.keepsC hch fun x hx e => hap (by subst e; exact hx)) hch hg'

/-- A struct boxed: its block. -/
theorem opw_boxS {t : TypeId} {x : Value} {K : Value → World → Prop} (hA : AtF w M gs W) (h : ∀ g w', W.heap.size = g → AtF w M gs w' → Keeps gs W w' → Bel W w' → w'.heap[g]? = some (.cells x.cells t (0, 0)) → K (.pointer (some ⟨g, 0, none⟩)) w') : OpW P (valueS (Instr.box t x)) W K := by
  have hr : (Instr.box t x).run P W = .ok (.pointer (some ⟨W.heap.size, 0, none⟩)) (W.alloc (.cells x.cells t)) := rfl
  unfold OpW
  rw [run_valueS hr]
  exact h _ _ rfl (hA.call (below_alloc _)) (hA.keeps (below_alloc _)) (below_alloc _) (heap_alloc_new W _)

theorem OwnF.blk {α : Type} {e : TypeId} {size : Nat} {f : α → List Value} {v : Value} {l : List α} (h : OwnF w M gs W e size f v l) {k : Nat} (hk : v.ownBlock = some k) : ∃ cur, W.heap[k]? = some (.cells cur e (0, 0)) := by
  rcases h.row0.2 with ⟨hv, _⟩ | ⟨g, cap, cur, hv, _, hg, _⟩
  · rw [hv] at hk; cases hk
  · rw [hv] at hk
    cases hk
    exact ⟨cur, hg⟩
theorem cells_ne {j k : Nat} {c c' : Array Value} {e e' : TypeId} {fr fr' : Nat × Nat} (h : W.heap[j]? = some (.cells c e fr)) (h' : W.heap[k]? = some (.cells c' e' fr')) (hne : e ≠ e') : j ≠ k := fun hjk => by
  subst hjk
  rw [h] at h'
  cases h'
  exact hne rfl
theorem cells_map {j k : Nat} {c : Array Value} {e : TypeId} {fr : Nat × Nat} {es : Array MapEntry} {cl : Nat} (h : W.heap[j]? = some (.cells c e fr)) (h' : W.heap[k]? = some (.map es cl)) : j ≠ k := fun hjk => by
  subst hjk
  rw [h] at h'
  cases h'
end
end Go.Vc

/- Own text of this claim: Hp1. -/
set_option maxRecDepth 20000
namespace Go.Vc.H
open Go Go.Vc Go.RowKit Go.Proofs Vcc

abbrev itE (x : It) : List Value := [.int .i64 x.1, .int .i64 x.2]
abbrev hpV (g : Nat) : Value := .pointer (some ⟨g, 0, none⟩)
abbrev hpC (a : Option Addr) (n c r : Nat) (st : Int) : List Value := [.slice a n c, .map (some r), .int .i64 st]

/-- A heap: its struct, its row of items, its map of places. -/
structure HpR (w : World) (M : Nat → Prop) (gs : List Nat) (W : World) (g : Nat) (a : Option Addr) (c r : Nat) (l pl : List It) (st : Int) : Prop where
  blk : W.heap[g]? = some (.cells (hpC a l.length c r st).toArray 39 (0, 0))
  mine : w.heap.size ≤ g ∨ M g
  apart : g ∉ gs
  items : OwnF w M gs W 80 2 itE (.slice a l.length c) l
  map : OwnM w M gs W r (Value.int .i64) (Value.int .i64) pl

/-- The blocks of a heap. -/
def fpH (g : Nat) (a : Option Addr) (r : Nat) : Nat → Prop := fun b => b = g ∨ b = r ∨ (Value.slice a 0 0).ownBlock = some b

theorem ownB {a : Option Addr} {n c n' c' : Nat} : (Value.slice a n c).ownBlock = (Value.slice a n' c').ownBlock := by cases a <;> rfl

section
variable {w W W' : World} {M : Nat → Prop} {gs : List Nat} {g c r : Nat} {a : Option Addr} {l pl : List It} {st : Int}

theorem HpR.fp (h : HpR w M gs W g a c r l pl st) : ∀ b, b < W.heap.size → fpH g a r b → w.heap.size ≤ b ∨ M b := by
  rintro b _ (rfl | rfl | hb)
  · exact h.mine
  · exact h.map.mine
  · exact h.items.mine b (by rw [ownB]; exact hb)
theorem HpR.fpgs (h : HpR w M gs W g a c r l pl st) : ∀ x ∈ gs, ¬ fpH g a r x := by
  rintro x hx (rfl | rfl | hb)
  · exact h.apart hx
  · exact h.map.apart hx
  · exact h.items.apart x hx (by rw [ownB]; exact hb)
theorem HpR.lt (h : HpR w M gs W g a c r l pl st) : ∀ b, fpH g a r b → b < W.heap.size := by
  rintro b (rfl | rfl | hb)
  · exact (Array.getElem?_eq_some_iff.1 h.blk).1
  · exact h.map.lt
  · exact h.items.lt b (by rw [ownB]; exact hb)
/-- Seen from the method's own first world. -/
theorem HpR.entry (h : HpR w M gs W g a c r l pl st) : HpR W (fpH g a r) [] W g a c r l pl st :=
  ⟨h.blk, .inr (.inl rfl), by simp, h.items.base (fun k hk => .inr (.inr (.inr (by rw [← hk]; exact ownB)))) (by simp), ⟨.inr (.inr (.inl rfl)), by simp, h.map.obj⟩⟩
theorem HpR.keep (h : HpR w M gs W g a c r l pl st) (hc : ∀ b, fpH g a r b → W'.heap[b]? = W.heap[b]?) : HpR w M gs W' g a c r l pl st :=
  ⟨by rw [hc g (.inl rfl)]; exact h.blk, h.mine, h.apart, h.items.keep fun k hk => hc k (.inr (.inr (by rw [← hk]; exact ownB))), by
    obtain ⟨es, cl, hr, rest⟩ := h.map.obj
    exact ⟨h.map.mine, h.map.apart, es, cl, by rw [hc r (.inr (.inl rfl))]; exact hr, rest⟩⟩
theorem HpR.call (h : HpR w M gs W g a c r l pl st) (hb : Bel W W') : HpR w M gs W' g a c r l pl st := h.keep fun b hf => hb.block (h.lt b hf)
theorem HpR.chg {N : Nat → Prop} (h : HpR w M gs W g a c r l pl st) (hb : Chg N W W') (hn : ∀ b, fpH g a r b → ¬ N b) : HpR w M gs W' g a c r l pl st := h.keep fun b hf => hb.block b (h.lt b hf) (hn b hf)
theorem HpR.evo {ds : List Nat} (h : HpR w M gs W g a c r l pl st) (hd : ∀ d ∈ ds, d ∉ gs → W.heap.size ≤ d) (hb : Evo ds W W') : HpR w M gs W' g a c r l pl st :=
  h.keep fun b hf => hb.block b (h.lt b hf) fun hm => by
    by_cases hk : b ∈ gs
    · exact h.fpgs b hk hf
    · have := hd b hm hk
      have := h.lt b hf
      omega
theorem HpR.more {gs' : List Nat} (h : HpR w M gs W g a c r l pl st) (hg : ∀ x ∈ gs', x ∉ gs → W.heap.size ≤ x) : HpR w M gs' W g a c r l pl st :=
  ⟨h.blk, h.mine, fun hx => by
    by_cases hk : g ∈ gs
    · exact h.apart hk
    · have := hg g hx hk
      have := h.lt g (.inl rfl)
      omega, h.items.more hg, h.map.more hg⟩
/-- Back at the caller. -/
theorem HpR.back {a' : Option Addr} {c' : Nat} {l' pl' : List It} {st' : Int} (hA : AtF w M gs W) (h : HpR w M gs W g a c r l pl st) (h' : HpR W (fpH g a r) [] W' g a' c' r l' pl' st') : HpR w M gs W' g a' c' r l' pl' st' := by
  have m : ∀ k, (W.heap.size ≤ k ∨ fpH g a r k) → w.heap.size ≤ k ∨ M k := fun k hk => by
    rcases hk with hk | hk
    · exact .inl (Nat.le_trans hA.size hk)
    · exact h.fp k (h.lt k hk) hk
  have ap : ∀ k, (W.heap.size ≤ k ∨ fpH g a r k) → k ∉ gs := fun k hk hg => by
    rcases hk with hk | hk
    · have := hA.under k hg; omega
    · exact h.fpgs k hg hk
  exact ⟨h'.blk, h.mine, h.apart, h'.items.base (fun k hk => m k (h'.items.mine k hk)) (fun x hx hk => ap x (h'.items.mine x hk) hx), ⟨m r h'.map.mine, ap r h'.map.mine, h'.map.obj⟩⟩

/-- What a method leaves. -/
def HpPost (W : World) (g : Nat) (a : Option Addr) (r : Nat) (W' : World) (l' pl' : List It) (st' : Int) : Prop := ∃ a' c', HpR W (fpH g a r) [] W' g a' c' r l' pl' st'

theorem at_hp {P : Program} {f : FuncId} {args : Array Value} {V : Value} {Φ : List It → List It → Int → Prop} {K : Ending → World → Prop} (hA : AtF w M gs W) (h : HpR w M gs W g a c r l pl st)
    (hc : RetF P f args W (fpH g a r) (fun v W' => v = V ∧ ∃ l' pl' st', Φ l' pl' st' ∧ HpPost W g a r W' l' pl' st'))
    (hK : ∀ a' c' l' pl' st' W', AtF w M gs W' → Keeps gs W W' → Chg (fpH g a r) W W' → Φ l' pl' st' → HpR w M gs W' g a' c' r l' pl' st' → (∀ b, fpH g a' r b → W.heap.size ≤ b ∨ fpH g a r b) → K (.returned V) W') : Calls P f args W K := by
  refine at_callF hA hc h.fp h.fpgs fun v W' hA' hk hch ⟨hv, l', pl', st', hΦ, a', c', h'⟩ => ?_
  subst hv
  exact hK a' c' l' pl' st' W' hA' hk hch hΦ (h.back hA h') (fun b hb => h'.fp b (h'.lt b hb) hb)

/-! ### Fields -/
theorem nog {g : Nat} : ∀ d ∈ ([] : List Nat), d ≠ g := fun _ h => by cases h
theorem HpR.gr (h : HpR w M gs W g a c r l pl st) : g ≠ r := by
  obtain ⟨es, cl, hr, _⟩ := h.map.obj
  exact cells_map h.blk hr
theorem HpR.gi (h : HpR w M gs W g a c r l pl st) : (Value.slice a l.length c).ownBlock ≠ some g := fun hk => by
  obtain ⟨cur, hc⟩ := h.items.blk hk
  exact cells_ne hc h.blk (by decide) rfl
theorem HpR.ri (h : HpR w M gs W g a c r l pl st) : (Value.slice a l.length c).ownBlock ≠ some r := fun hk => by
  obtain ⟨cur, hc⟩ := h.items.blk hk
  obtain ⟨es, cl, hr, _⟩ := h.map.obj
  exact cells_map hc hr rfl
theorem HpR.place {i : Nat} (h : HpR w M gs W g a c r l pl st) (hi : i < l.length) : ∃ ad, Gives Try.prog (Instr.indexAt 36 (.slice a l.length c) (.int .i64 (i : Int))) (.pointer (some ad)) ∧ ∀ g', a = some ⟨g', 0, none⟩ → ad = ⟨g', i * 2, none⟩ := by
  obtain ⟨g', cur, rfl, _⟩ := h.items.ptr (by omega)
  refine ⟨_, gives_index (e := 80) (n := 2) (by kernel_rfl) (by kernel_rfl) hi, fun g2 h2 => ?_⟩
  cases h2
  rw [addr_add, Nat.zero_add]
theorem HpR.rdI {ds : List Nat} (h : HpR w M gs W g a c r l pl st) (hd : ∀ d ∈ ds, d ≠ g) : Reads Try.prog ds (Instr.loadAt 36 (hpV g)) W (.slice a l.length c) := rd_f0 h.blk (by kernel_rfl) hd
theorem HpR.rdM {ds : List Nat} (h : HpR w M gs W g a c r l pl st) (hd : ∀ d ∈ ds, d ≠ g) : Reads Try.prog ds (Instr.loadAt 37 (.pointer (some (Addr.mk g (0 + 1) none)))) W (.map (some r)) := rd_f 0 h.blk rfl (by kernel_rfl) hd
theorem HpR.rdS {ds : List Nat} (h : HpR w M gs W g a c r l pl st) (hd : ∀ d ∈ ds, d ≠ g) : Reads Try.prog ds (Instr.loadAt 3 (.pointer (some (Addr.mk g (0 + 2) none)))) W (.int .i64 st) := rd_f 1 h.blk rfl (by kernel_rfl) hd
theorem HpR.item {ds : List Nat} {i : Nat} {x : It} (h : HpR w M gs W g a c r l pl st) (hx : l[i]? = some x) (hd : ∀ d ∈ ds, W.heap.size ≤ d) : ∃ ad, Gives Try.prog (Instr.indexAt 36 (.slice a l.length c) (.int .i64 (i : Int))) (.pointer (some ad)) ∧ Reads Try.prog ds (Instr.loadAt 80 (.pointer (some ad))) W (.agg #[.int .i64 x.1, .int .i64 x.2]) ∧ Elt W ad (itE x) := by
  obtain ⟨ad, g1, e, _⟩ := elt_at (P := Try.prog) (k := .i64) (t := 36) (h.items.sl (fun _ _ => rfl)) hx (e := 80) (by kernel_rfl) (by kernel_rfl)
  exact ⟨ad, g1, Elt.agg 2 e (by kernel_rfl) (by kernel_rfl) (by simp) (e.far hd), e⟩
end

theorem K2 : KeyOk Try.prog 2 (Value.int .i64) := keyOk_int (by kernel_rfl)
theorem t37 : Try.prog.underlying 37 = some (.map 2 3) := by kernel_rfl

theorem c48 (x y : It) (w : World) : Ret Try.prog 48 #[.agg #[.int .i64 x.1, .int .i64 x.2], .agg #[.int .i64 y.1, .int .i64 y.2]] w (.bool (decide (ahead x y))) := by
  intro R h
  refine f48_calls x.1 x.2 y.1 y.2 w R ?_
  unfold f48_vc
  have hA := At.refl w
  refine go_n hA fun n1 h_n1 => ?_
  refine go_n hA fun n2 h_n2 => ?_
  refine brD (fun h1 => go_below hA fun _ hA => leaf h hA (by rw [decide_eq_true (show ahead x y from .inl h1)])) (fun h1 => brE (fun h2 => go_below hA fun _ hA => leaf h hA ?_) (fun h2 => go_below hA fun _ hA => leaf h hA ?_))
  · rw [show decide (ahead x y) = decide (x.1 < y.1) from decide_eq_decide.2 ⟨fun hh => hh.elim (fun e => absurd e h1) (·.2), fun hh => .inr ⟨h2, hh⟩⟩]
  · rw [decide_eq_false (show ¬ ahead x y from fun hh => hh.elim h1 (fun e => h2 e.1))]

theorem c9 (w : World) : RetF Try.prog 9 #[] w noB (fun v W' => ∃ g r, v = hpV g ∧ HpR w noB [] W' g none 0 r [] [] 0) := by
  intro R h
  refine f9_calls w R ?_
  unfold f9_vc
  have hA := At.refl w
  refine opw_makeMap (kf := Value.int .i64) (vf := Value.int .i64) hA fun r w2 hr hA hk hb ho => ⟨_, rfl, ?_⟩
  refine opw_boxS hA fun g w5 hg hA hk hb hblk => ⟨_, rfl, ?_⟩
  exact leafF h hA ⟨g, r, rfl, hblk, .inl (by have := hA.size; have := (ho.lt); omega), by simp, OwnF.nil, ho.call hb⟩

theorem c33 {W : World} {g c r : Nat} {a : Option Addr} {l pl : List It} {st : Int} (x : It) (i : Nat) (hi : i < l.length) (H : HpR W (fpH g a r) [] W g a c r l pl st) :
    RetF Try.prog 33 #[hpV g, .int .i64 (i : Int), .agg #[.int .i64 x.1, .int .i64 x.2]] W (fpH g a r) (fun v W' => v = .tuple #[] ∧ ∃ l' pl' st', (l' = l.set i x ∧ pl' = mset x.1 (i : Int) pl ∧ st' = st) ∧ HpPost W g a r W' l' pl' st') := by
  intro R h
  refine f33_calls _ _ x.1 x.2 W R ?_
  unfold f33_vc
  have hA : AtF W (fpH g a r) [] W := AtF.refl W _
  refine go_n hA fun n1 h_n1 => ?_
  obtain ⟨ad, g1, hp⟩ := H.place hi
  refine ⟨_, rfl, _, _, _, H.rdI nog, _, g1, ?_⟩
  refine go_below_too hA fun w7 hA7 hb7 => ?_
  have H7 := (H.more (gs' := [n1]) (by intro q hq _; simp at hq; omega)).call hb7
  refine opw_store (y := x) hA7 H7.items (fun _ _ => rfl) hi rfl rfl rfl (by kernel_rfl) (fun w9 hA9 hk9 hg9 ho9 => ?_) hp
  have hb9 : w9.heap[g]? = some (.cells (hpC a l.length c r st).toArray 39 (0, 0)) := by
    rw [hg9.block g (H7.lt g (.inl rfl)) (fun e => H7.gi e.symm)]
    exact H7.blk
  have hm9 : OwnM W (fpH g a r) [n1] w9 r (Value.int .i64) (Value.int .i64) pl := by
    obtain ⟨es, cl, hr, rest⟩ := H7.map.obj
    exact ⟨H7.map.mine, H7.map.apart, es, cl, by rw [hg9.block r H7.map.lt (fun e => H7.ri e.symm)]; exact hr, rest⟩
  have H9 : HpR W (fpH g a r) [n1] w9 g a c r (l.set i x) pl st := ⟨by rw [List.length_set]; exact hb9, H7.mine, H7.apart, by rw [List.length_set]; exact ho9, hm9⟩
  have rdM9 := H9.rdM (ds := []) nog
  refine ⟨hk9, _, rfl, _, rdM9, ?_⟩
  refine go_below_too hA9 fun w12 hA12 hb12 => ?_
  have H12 := H9.call hb12
  refine opw_mapUpdate (v := (i : Int)) K2 t37 hA12 H12.map fun w14 hA14 hk14 hc14 ho14 => ⟨hk14, ?_⟩
  have H14 : HpR W (fpH g a r) [n1] w14 g a c r (l.set i x) (mset x.1 (i : Int) pl) st :=
    ⟨by rw [hc14.block g (H12.lt g (.inl rfl)) H12.gr]; exact H12.blk, H12.mine, H12.apart, H12.items.chg hc14 (fun k hk e => H12.ri (by rw [← e]; exact hk)), ho14⟩
  exact leafF h hA14 ⟨rfl, _, _, _, ⟨rfl, rfl, rfl⟩, _, _, H14.more (by simp)⟩
end Go.Vc.H

/- Own text of this claim: Hp2. -/
set_option maxRecDepth 20000
namespace Go.Vc.H
open Go Go.Vc Go.RowKit Go.Proofs Vcc

variable {w W W' : World} {M : Nat → Prop} {gs : List Nat} {g c r : Nat} {a : Option Addr} {l pl : List It} {st : Int}

/-- The count of steps set. -/
theorem opw_st {v : Int} {K : Value → World → Prop} (hA : AtF w M gs W) (H : HpR w M gs W g a c r l pl st)
    (h : ∀ w', AtF w M gs w' → Keeps gs W w' → HpR w M gs w' g a c r l pl v → K undef w') : OpW Try.prog (skipS (Instr.storeAt 3 (.pointer (some ⟨g, 0 + 2, none⟩)) (.int .i64 v))) W K := by
  refine opw_storeF hA H.blk H.mine H.apart (cells' := hpC a l.length c r v) (by kernel_rfl) fun w' hA' hk hc hb => h w' hA' hk ⟨hb, H.mine, H.apart, H.items.chg hc (fun k hk' e => H.gi (by rw [← e]; exact hk')), H.map.chg hc (fun e => H.gr e.symm)⟩

theorem c49 (i k : Nat) (x y : It) (hi : l[i]? = some x) (hk : l[k]? = some y) (hs : 0 ≤ st ∧ st + 1 < 9223372036854775808) (H : HpR W (fpH g a r) [] W g a c r l pl st) :
    RetF Try.prog 49 #[hpV g, .int .i64 (i : Int), .int .i64 (k : Int)] W (fpH g a r) (fun v W' => v = .tuple #[] ∧ ∃ l' pl' st', (l' = swapL l i k x y ∧ pl' = mset x.1 (k : Int) (mset y.1 (i : Int) pl) ∧ st' = st + 1) ∧ HpPost W g a r W' l' pl' st') := by
  intro R h
  refine f49_calls _ _ _ W R ?_
  unfold f49_vc
  have hA : AtF W (fpH g a r) [] W := AtF.refl W _
  have hil := (List.getElem?_eq_some_iff.1 hi).1
  have hkl := (List.getElem?_eq_some_iff.1 hk).1
  have key : ∀ (gs : List Nat) (w5 : World), AtF W (fpH g a r) gs w5 → HpR W (fpH g a r) gs w5 g a c r l pl st → Calls Try.prog 33 #[hpV g, .int .i64 (i : Int), .agg #[.int .i64 y.1, .int .i64 y.2]] w5 fun e w1 => e = .returned (.tuple #[]) ∧ Keeps gs w5 w1 ∧ Calls Try.prog 33 #[hpV g, .int .i64 (k : Int), .agg #[.int .i64 x.1, .int .i64 x.2]] w1 fun e w2 => e = .returned (.tuple #[]) ∧ Keeps gs w1 w2 ∧ ∃ ad : Addr, some ⟨g, 0, none⟩ = some ad ∧ ∃ x23 : Int, Reads Try.prog [] (Instr.loadAt 3 (.pointer (some (Addr.mk ad.block (ad.off + 2) none)))) w2 (.int .i64 x23) ∧ ∃ ad24 : Addr, some ⟨g, 0, none⟩ = some ad24 ∧ OpW Try.prog (skipS (Instr.storeAt 3 (.pointer (some (Addr.mk ad24.block (ad24.off + 2) none))) (.int .i64 (IntKind.i64.wrap (x23 + 1))))) w2 fun _ w3 => Keeps gs w2 w3 ∧ R (.returned (.tuple #[])) w3 := by
    intro gs w5 hA H
    refine at_hp hA H (c33 y i hil H.entry) fun a1 c1 l1 pl1 st1 w1 hA hk1 _ hΦ H1 _ => ⟨rfl, hk1, ?_⟩
    obtain ⟨rfl, rfl, rfl⟩ := hΦ
    refine at_hp hA H1 (c33 x k (by rw [List.length_set]; exact hkl) H1.entry) fun a2 c2 l2 pl2 st2 w2 hA hk2 _ hΦ H2 _ => ⟨rfl, hk2, ?_⟩
    obtain ⟨rfl, rfl, rfl⟩ := hΦ
    refine ⟨_, rfl, _, H2.rdS nog, _, rfl, opw_st hA H2 fun w3 hA hk3 H3 => ⟨hk3, ?_⟩⟩
    rw [wrap_i64 (by omega) (by omega)] at H3
    exact leafF h hA ⟨rfl, _, _, _, ⟨rfl, rfl, rfl⟩, _, _, H3.more (by simp)⟩
  obtain ⟨ad1, g1, r1, -⟩ := H.item (ds := []) hi (by simp)
  obtain ⟨ad2, g2, r2, -⟩ := H.item (ds := []) hk (by simp)
  refine ⟨_, rfl, _, _, _, H.rdI nog, _, g1, _, _, r1, _, rfl, _, _, _, H.rdI nog, _, g2, _, _, r2, ?_, ?_⟩
  all_goals
    refine go_n hA fun n1 h1 => ⟨r2, H.rdI nog, r1, H.rdI nog, ?_⟩
    refine go_n hA fun n2 h2 => ?_
    have rr : ∀ n, W.heap.size ≤ n → Reads Try.prog [n] (Instr.loadAt 80 (.pointer (some ad2))) W (.agg #[.int .i64 y.1, .int .i64 y.2]) ∧ Reads Try.prog [n] (Instr.loadAt 36 (hpV g)) W (.slice a l.length c) := by
      intro n hn
      obtain ⟨ad2', g2', r2', -⟩ := H.item (ds := [n]) hk (by simpa using hn)
      obtain rfl : ad2' = ad2 := by
        have := (g2' W).symm.trans (g2 W)
        simpa using this
      refine ⟨r2', H.rdI fun d hd => ?_⟩
      have := H.lt g (.inl rfl)
      simp at hd
      omega
    refine ⟨r2, H.rdI nog, r1, H.rdI nog, (rr _ (by assumption)).1, (rr _ (by assumption)).2, ?_⟩
    refine go_evo_too hA (by intro d hd; simp at hd; omega) fun w5 hA hev => ?_
    exact key _ w5 hA ((H.more (by intro q hq _; simp at hq; omega)).evo (by intro d hd hn; simp at hd hn; omega) hev)
end Go.Vc.H

/- Own text of this claim: Hp3. -/
set_option maxRecDepth 20000
namespace Go.Vc.H
open Go Go.Vc Go.RowKit Go.Proofs Vcc

variable {w W W' : World} {M : Nat → Prop} {gs : List Nat} {g c r : Nat} {a : Option Addr} {l pl : List It} {st : Int}

theorem c34 (i : Nat) (x : It) (hi : l[i]? = some x) (hU : Up l i) (hP : PlOk l pl) (_hl : l.length < 1099511627776) (hs : 0 ≤ st ∧ st + l.length < 4611686018427387904) (H : HpR W (fpH g a r) [] W g a c r l pl st) :
    RetF Try.prog 34 #[hpV g, .int .i64 (i : Int)] W (fpH g a r) (fun v W' => v = .tuple #[] ∧ ∃ l' pl' st', (∃ j n : Nat, Same l l' ∧ PlOk l' pl' ∧ Dn l' j ∧ l'[j]? = some x ∧ n + lev j ≤ lev i ∧ st' = st + n) ∧ HpPost W g a r W' l' pl' st') := by
  intro R h
  refine f34_calls _ _ W R ?_
  unfold f34_vc
  have hA : AtF W (fpH g a r) [] W := AtF.refl W _
  have hil := (List.getElem?_eq_some_iff.1 hi).1
  refine ⟨fun x3 w4 => ∃ j n : Nat, x3.1 = j ∧ ∃ a' c' l' pl' st', AtF W (fpH g a r) [] w4 ∧ HpR W (fpH g a r) [] w4 g a' c' r l' pl' st' ∧ Same l l' ∧ PlOk l' pl' ∧ Up l' j ∧ l'[j]? = some x ∧ n + lev j ≤ lev i ∧ st' = st + n, fun x3 _ => x3.1.toNat, ⟨i, 0, rfl, a, c, l, pl, st, hA, H, Same.refl l, hP, hU, hi, by omega, by simp⟩, ?_⟩
  rintro x3 w4 ⟨j, n, hj, a', c', l', pl', st', hA, H, hS, hP, hU, hx, hn, rfl⟩
  simp only at hj
  subst hj
  have hjl := (List.getElem?_eq_some_iff.1 hx).1
  have hjl2 := hS.1 ▸ hjl
  have hll := lev_le i
  refine brD (fun hpos => ?_) (fun hz => ?_)
  · have hpar : IntKind.i64.wrap ((IntKind.i64.wrap ((j : Int) - 1)).tdiv 2) = (((j - 1) / 2 : Nat) : Int) := by
      rw [wrap_i64 (x := (j : Int) - 1) (by omega) (by omega), Int.tdiv_eq_ediv_of_nonneg (by omega), wrap_i64 (by omega) (by omega)]
      omega
    rw [hpar]
    obtain ⟨y, hy⟩ : ∃ y, l'[(j - 1) / 2]? = some y := ⟨_, List.getElem?_eq_getElem (by omega)⟩
    obtain ⟨ad1, g1, r1, -⟩ := H.item (ds := []) hx (by simp)
    obtain ⟨ad2, g2, r2, -⟩ := H.item (ds := []) hy (by simp)
    refine ⟨_, rfl, _, _, _, H.rdI nog, _, g1, _, _, r1, _, rfl, _, _, _, H.rdI nog, _, g2, _, _, r2, ?_⟩
    refine go_below0_too hA fun w5 hA hb => ?_
    have H := H.call hb
    refine at_callb hA (c48 x y w5) fun w6 hA hk hb => ?_
    have H := H.call hb
    refine ⟨_, rfl, H.rdI nog, H.rdI nog, brD (fun hah => ?_) (fun hnah => ?_)⟩
    · refine at_hp hA H (c49 j ((j - 1) / 2) x y hx hy (by omega) H.entry) fun a2 c2 l2 pl2 st2 w7 hA hk2 _ hΦ H2 _ => ?_
      obtain ⟨rfl, rfl, rfl⟩ := hΦ
      have hlp := lev_pos (n := j) (by omega)
      refine ⟨rfl, ⟨(j - 1) / 2, n + 1, rfl, a2, c2, _, _, _, hA, H2, hS.trans (same_swap hx hy), plok_swap hx hy (by omega) hP, up_step (by omega) hx hy hU, ?_, by omega, by omega⟩, by simp only; omega⟩
      rw [swapL_at hx hy, if_pos rfl]
    · refine leafF h hA ⟨rfl, l', pl', _, ⟨j, n, hS, hP, up_stop hU fun _ u v hu hv => ?_, hx, hn, rfl⟩, a', c', H⟩
      rw [hy] at hu; rw [hx] at hv
      cases hu; cases hv
      exact hnah
  · refine go_below0_too hA fun w5 hA hb => ?_
    exact leafF h hA ⟨rfl, l', pl', _, ⟨j, n, hS, hP, up_stop hU fun hh => by omega, hx, hn, rfl⟩, a', c', H.call hb⟩

abbrev inE (x : Int) : List Value := [.int .i64 x]
theorem c35 (i : Nat) (x : It) (hi : l[i]? = some x) (hU : Dn l i) (hP : PlOk l pl) (hl : l.length < 1099511627776) (hs : 0 ≤ st ∧ st + l.length < 4611686018427387904) (H : HpR W (fpH g a r) [] W g a c r l pl st) :
    RetF Try.prog 35 #[hpV g, .int .i64 (i : Int)] W (fpH g a r) (fun v W' => v = .tuple #[] ∧ ∃ l' pl' st', (∃ n : Nat, Same l l' ∧ PlOk l' pl' ∧ Heap l' ∧ n + lev i ≤ lev (l.length - 1) ∧ st' = st + n) ∧ HpPost W g a r W' l' pl' st') := by
  intro R h
  refine f35_calls _ _ W R ?_
  unfold f35_vc
  have hA : AtF W (fpH g a r) [] W := AtF.refl W _
  have hil := (List.getElem?_eq_some_iff.1 hi).1
  refine ⟨fun x3 w4 => ∃ j n : Nat, x3.1 = j ∧ ∃ a' c' l' pl' st', AtF W (fpH g a r) [] w4 ∧ HpR W (fpH g a r) [] w4 g a' c' r l' pl' st' ∧ Same l l' ∧ PlOk l' pl' ∧ Dn l' j ∧ l'[j]? = some x ∧ n + lev i ≤ lev j ∧ st' = st + n, fun x3 _ => (l.length - x3.1).toNat, ⟨i, 0, rfl, a, c, l, pl, st, hA, H, Same.refl l, hP, hU, hi, by omega, by simp⟩, ?_⟩
  rintro x3 w4 ⟨j, n, hj, a', c', l', pl', st', hA, H, hS, hP, hU, hx, hn, rfl⟩
  simp only at hj
  subst hj
  have hjl := (List.getElem?_eq_some_iff.1 hx).1
  have hjl2 := hS.1 ▸ hjl
  have hlj := lev_le j
  have hle : lev j ≤ lev (l.length - 1) := lev_mono _ _ (by omega)
  have e1 : IntKind.i64.wrap (IntKind.i64.wrap (2 * (j : Int)) + 1) = ((2 * j + 1 : Nat) : Int) := by
    rw [wrap_i64 (x := 2 * (j : Int)) (by omega) (by omega), wrap_i64 (by omega) (by omega)]; rfl
  have e2 : IntKind.i64.wrap (IntKind.i64.wrap (2 * (j : Int)) + 2) = ((2 * j + 2 : Nat) : Int) := by
    rw [wrap_i64 (x := 2 * (j : Int)) (by omega) (by omega), wrap_i64 (by omega) (by omega)]; rfl
  rw [e1, e2]
  refine opw_litL (e' := 3) (f := inE) (l := [((2 * j + 1 : Nat) : Int), ((2 * j + 2 : Nat) : Int)]) (size := 1) hA rfl (fun _ _ => rfl) (by decide) (by kernel_rfl) fun gk w6 _ hA _ hb6 ho => ⟨_, _, _, rfl, ?_⟩
  have H := H.call hb6
  let WI : World → Prop := fun w => AtF W (fpH g a r) [] w ∧ HpR W (fpH g a r) [] w g a' c' r l' pl' (st + n) ∧ OwnF W (fpH g a r) [] w 3 1 inE (.slice (some ⟨gk, 0, none⟩) 2 2) [((2 * j + 1 : Nat) : Int), ((2 * j + 2 : Nat) : Int)]
  have wcall : ∀ {w w' : World}, WI w → Bel w w' → WI w' := fun hw hb => ⟨hw.1.call hb, hw.2.1.call hb, hw.2.2.call hb⟩
  let BI : Nat → Nat → Prop := fun b k => k ≤ 2 ∧ ∃ z, l'[b]? = some z ∧ (∀ q, q < k → ∀ y, l'[2 * j + 1 + q]? = some y → le z y) ∧ ((b = j ∧ z = x) ∨ (0 < b ∧ (b - 1) / 2 = j ∧ ahead z x))
  refine ⟨fun v w => ∃ b k : Nat, v.1 = b ∧ v.2.1 = k ∧ WI w ∧ BI b k, fun v _ => (2 - v.2.1).toNat, ⟨j, 0, rfl, rfl, ⟨hA, H, ho⟩, by omega, x, hx, fun q hq => by omega, .inl ⟨rfl, rfl⟩⟩, ?_⟩
  rintro x12 x13 w14 ⟨b, k, hb', hk', hW, hk2, z, hz, hmin, hbz⟩
  simp only at hb' hk'
  subst hb' hk'
  have hbl := (List.getElem?_eq_some_iff.1 hz).1
  refine brD (fun hlt => ?_) (fun hge => ?_)
  · have hk1 : k < 2 := by omega
    have ek : IntKind.i64.wrap ((k : Int) + 1) = ((k + 1 : Nat) : Int) := by rw [wrap_i64 (by omega) (by omega)]; rfl
    refine ⟨fun v w => ∃ b : Nat, v.1 = b ∧ WI w ∧ BI b (k + 1), ⟨?_, ?_⟩⟩
    · have hq : [((2 * j + 1 : Nat) : Int), ((2 * j + 2 : Nat) : Int)][k]? = some ((2 * j + 1 + k : Nat) : Int) := by
        have : k = 0 ∨ k = 1 := by omega
        rcases this with rfl | rfl <;> rfl
      obtain ⟨ad, g1, el, _⟩ := elt_at (P := Try.prog) (k := .i64) (t := 95) (hW.2.2.sl (fun _ _ => rfl)) hq (e := 3) (by kernel_rfl) (by kernel_rfl)
      refine ⟨ad, g1, _, el.one (by kernel_rfl) (by simp), ?_⟩
      refine ⟨fun v w => WI w ∧ (v.1 = true → ∃ y, l'[2 * j + 1 + k]? = some y ∧ ahead y z) ∧ (v.1 = false → ∀ y, l'[2 * j + 1 + k]? = some y → ¬ ahead y z), ⟨?_, ?_⟩⟩
      · refine ⟨_, rfl, _, _, _, hW.2.1.rdI nog, brD (fun hlt2 => ?_) (fun hge2 => ?_)⟩
        · obtain ⟨y, hy⟩ : ∃ y, l'[2 * j + 1 + k]? = some y := ⟨_, List.getElem?_eq_getElem (by omega)⟩
          obtain ⟨ad1, g1, r1, -⟩ := hW.2.1.item (ds := []) hy (by simp)
          obtain ⟨ad2, g2, r2, -⟩ := hW.2.1.item (ds := []) hz (by simp)
          refine ⟨_, rfl, _, _, _, hW.2.1.rdI nog, _, g1, _, _, r1, _, rfl, _, _, _, hW.2.1.rdI nog, _, g2, _, _, r2, ?_⟩
          refine go_below0_too hW.1 fun w5 hA hb => ?_
          refine at_callb hA (c48 y z w5) fun w6 hA _ hb2 => ?_
          have hW := wcall (wcall hW hb) hb2
          refine ⟨_, rfl, hW.2.1.rdI nog, hW.2.1.rdI nog, hW.2.1.rdI nog, hW, fun e => ⟨y, hy, of_decide_eq_true e⟩, fun e y' hy' => ?_⟩
          rw [hy] at hy'
          cases hy'
          exact of_decide_eq_false e
        · intro w5 hb
          show WI w5 ∧ _
          refine ⟨wcall hW hb, (fun e => by cases e), (fun _ y hy => ?_)⟩
          have := (List.getElem?_eq_some_iff.1 hy).1
          omega
      · rintro b42 w43 ⟨hW, ht, hf⟩
        refine ⟨fun e => ?_, fun e => ?_⟩
        · obtain ⟨y, hy, hyz⟩ := ht e
          refine ⟨2 * j + 1 + k, rfl, hW, by omega, y, hy, fun q hq u hu => ?_, .inr ⟨by omega, by omega, ?_⟩⟩
          · by_cases hqk : q = k
            · subst hqk
              rw [hy] at hu
              cases hu
              exact le_refl _
            · exact le_trans (le_of_ahead hyz) (hmin q (by omega) u hu)
          · rcases hbz with ⟨_, rfl⟩ | ⟨_, _, hzx⟩
            · exact hyz
            · exact ahead_trans hyz hzx
        · refine ⟨b, rfl, hW, by omega, z, hz, fun q hq u hu => ?_, hbz⟩
          by_cases hqk : q = k
          · subst hqk
            exact hf e u hu
          · exact hmin q (by omega) u hu
    · rintro x44 w45 ⟨b', hb', hW', hB'⟩
      simp only at hb'
      subst hb'
      rw [ek]
      exact ⟨⟨b', k + 1, rfl, rfl, hW', hB'⟩, by simp only; omega⟩
  · have hk1 : k = 2 := by omega
    subst hk1
    have kids : ∀ cc, 0 < cc → (cc - 1) / 2 = j → ∀ y, l'[cc]? = some y → le z y := fun cc hc hp y hy => by
      have : cc = 2 * j + 1 + 0 ∨ cc = 2 * j + 1 + 1 := by omega
      rcases this with rfl | rfl
      · exact hmin 0 (by omega) y hy
      · exact hmin 1 (by omega) y hy
    refine brE (fun hbj => ?_) (fun hbj => ?_)
    · have hbj : b = j := by omega
      subst hbj
      rw [hx] at hz
      cases hz
      refine leafF h hW.1 ⟨rfl, l', pl', _, ⟨n, hS, hP, dn_stop hU fun cc hc hp u v hu hv => ?_, by omega, rfl⟩, a', c', hW.2.1⟩
      rw [hp, hx] at hu
      cases hu
      exact kids cc hc hp v hv
    · obtain ⟨hb0, hbp, hza⟩ := hbz.resolve_left fun e => hbj (by rw [e.1])
      have hlb := lev_pos hb0
      rw [hbp] at hlb
      have hlb2 : lev b ≤ lev (l.length - 1) := lev_mono _ _ (by have := hS.1; omega)
      have := lev_le b
      have := hS.1
      refine at_hp hW.1 hW.2.1 (c49 j b x z hx hz (by omega) hW.2.1.entry) fun a2 c2 l2 pl2 st2 w7 hA hk2 _ hΦ H2 _ => ?_
      obtain ⟨rfl, rfl, rfl⟩ := hΦ
      refine ⟨rfl, ⟨b, n + 1, rfl, a2, c2, _, _, _, hA, H2, hS.trans (same_swap hx hz), plok_swap hx hz (by omega) hP, dn_step hb0 hbp hx hz hza kids hU, ?_, by omega, by omega⟩, by simp only; omega⟩
      rw [swapL_at hx hz, if_pos rfl]

end Go.Vc.H

/- Own text of this claim: Hp4. -/
set_option maxRecDepth 20000
namespace Go.Vc.H
open Go Go.Vc Go.RowKit Go.Proofs Vcc

variable {w W W' : World} {M : Nat → Prop} {gs : List Nat} {g c r : Nat} {a : Option Addr} {l pl : List It} {st : Int}

/-- The first ones of an own slice. -/
theorem gives_to {P : Program} {t e : TypeId} {size b n m c : Nat} {k : IntKind} (hm : m ≤ n) (hnc : n ≤ c) (ht : P.underlying t = some (.slice e)) (hz : pureRun P (sizeOf e) = some size) :
    Gives P (Instr.sliceAt t (.slice (some ⟨b, 0, none⟩) n c) none (some (.int k (m : Int))) none) (.slice (some ⟨b, 0, none⟩) m c) := by
  intro W
  have h1 : (Instr.sliceAt t (.slice (some ⟨b, 0, none⟩) n c) none (some (.int k (m : Int))) none).run P W = (Instr.slice t (.slice (some ⟨b, 0, none⟩) n c) none (some (.int k (m : Int))) none).run P W := run_sliceAt_slice W t _ _ _ _ (by simp [Program.elem, ht])
  rw [h1]
  unfold Instr.slice
  rw [run_bind_ok (run_underlying ht W)]
  simp only
  have hb : (Instr.sliceBounds true n c none (some (.int k (m : Int))) none).run P W = .ok (0, m, c) W := by
    unfold Instr.sliceBounds
    have := run_sliceBound (P := P) W k (m : Int) c .sliceAcap (by omega) (by omega)
    simp only [pure_bind, if_true]
    rw [run_bind_ok this]
    rfl
  rw [run_bind_ok hb]
  simp only
  rw [run_bind_ok (pureRun_run hz W)]
  simp [Addr.add]
theorem OwnF.take {α : Type} {e : TypeId} {size n c : Nat} {f : α → List Value} {l : List α} (m : Nat) (h : OwnF w M gs W e size f (.slice a n c) l) (hm : m ≤ n) (hf : ∀ x ∈ l, (f x).length = size) : OwnF w M gs W e size f (.slice a m c) (l.take m) := by
  have h1 := flatMap_len hf
  have h2 := flatMap_len (l := l.take m) (fun x hx => hf x (List.mem_of_mem_take hx))
  obtain ⟨hl, hrow⟩ := h.row0
  refine ⟨⟨h2, ?_⟩, fun k hk => h.mine k (by rw [← hk]; exact ownB), fun x hx hk => h.apart x hx (by rw [← hk]; exact ownB)⟩
  rcases hrow with ⟨hn, h0⟩ | ⟨g, cap, cur, hv, hb, hg, hnc, hcm, hcs, htk⟩
  · cases hn
    have : m = 0 := by omega
    subst this
    exact .inl ⟨rfl, by simp⟩
  · cases hv
    refine .inr ⟨g, _, cur, ?_, hb, hg, by rw [List.length_take]; omega, hcm, hcs, ?_⟩
    · rw [List.length_take, Nat.min_eq_left (by omega)]
    · rw [List.length_take, Nat.min_eq_left (by omega)]
      have : (l.take m).flatMap f = (l.flatMap f).take (m * size) := by
        conv => rhs; rw [← List.take_append_drop m l, List.flatMap_append]
        rw [List.take_left' (by rw [h2, List.length_take, Nat.min_eq_left (by omega)])]
      rw [this, ← htk, List.take_take, Nat.min_eq_left (Nat.mul_le_mul_right _ (by omega))]

/-- The row of items set. -/
theorem opw_items {a0 : Option Addr} {n0 c0 n : Nat} {K : Value → World → Prop} (hA : AtF w M gs W) (hb : W.heap[g]? = some (.cells (hpC a0 n0 c0 r st).toArray 39 (0, 0))) (hm : w.heap.size ≤ g ∨ M g) (hap : g ∉ gs)
    (hi : OwnF w M gs W 80 2 itE (.slice a n c) l) (hn : n = l.length) (hmap : OwnM w M gs W r (Value.int .i64) (Value.int .i64) pl)
    (h : ∀ w', AtF w M gs w' → Keeps gs W w' → HpR w M gs w' g a c r l pl st → K undef w') : OpW Try.prog (skipS (Instr.storeAt 36 (hpV g) (.slice a n c))) W K := by
  subst hn
  refine opw_storeF hA hb hm hap (cells' := hpC a l.length c r st) (by kernel_rfl) fun w' hA' hk hc hb' => h w' hA' hk ⟨hb', hm, hap, hi.chg hc (fun k hk' e => ?_), hmap.chg hc (fun e => ?_)⟩
  · subst e
    obtain ⟨cur, hcur⟩ := hi.blk hk'
    exact cells_ne hcur hb (by decide) rfl
  · subst e
    obtain ⟨es, cl, hr, _⟩ := hmap.obj
    exact cells_map hb hr rfl

theorem c32 (H : HpR W (fpH g a r) [] W g a c r l pl st) : Ret Try.prog 32 #[hpV g] W (.bool true) := by
  intro R h
  refine f32_calls _ W R ?_
  unfold f32_vc
  have hA := At.refl W
  exact ⟨true, (fun W => rfl), brB (fun _ => ⟨_, rfl, _, H.rdM nog, true, (fun W => rfl), leaf h hA rfl⟩) (fun e => by cases e)⟩

/-- The first item. -/
def peekV (l : List It) : Value := match l[0]? with
  | some x => .tuple #[.int .i64 x.1, .int .i64 x.2, .bool true]
  | none => .tuple #[.int .i64 0, .int .i64 0, .bool false]
theorem c18 (H : HpR W (fpH g a r) [] W g a c r l pl st) : Ret Try.prog 18 #[hpV g] W (peekV l) := by
  intro R h
  refine f18_calls _ W R ?_
  unfold f18_vc
  have hA := At.refl W
  refine at_callb hA (c32 H) fun w2 hA _ hb => ⟨_, rfl, brB (fun e => by cases e) (fun _ => ?_)⟩
  have H := H.call hb
  refine ⟨_, rfl, _, _, _, H.rdI nog, brE (fun h0 => ?_) (fun h0 => ?_)⟩
  · have : l = [] := List.eq_nil_of_length_eq_zero (by omega)
    subst this
    exact leaf h hA rfl
  · obtain ⟨x, hx⟩ : ∃ x, l[0]? = some x := ⟨_, List.getElem?_eq_getElem (by omega)⟩
    obtain ⟨ad, g1, r1, el⟩ := H.item (ds := []) hx (by simp)
    refine ⟨_, rfl, _, _, _, H.rdI nog, _, g1, _, el.one (by kernel_rfl) (by simp), _, rfl, _, _, _, H.rdI nog, _, g1, _, (el.sub (o := 1) (by decide)).one (by kernel_rfl) (by simp), ?_⟩
    exact go_below0 hA fun w5 hA => leaf h hA (by rw [peekV, hx])

/-- A key's time. -/
def atV (k : Int) (l pl : List It) : Value := match mget k pl with
  | some i => .tuple #[.int .i64 ((l[i.toNat]?).getD (0, 0)).2, .bool true]
  | none => .tuple #[.int .i64 0, .bool false]
theorem z2 : pureRun Try.prog (zeroValue 3) = some (.int .i64 0) := by kernel_rfl
theorem c19 (k : Int) (hP : PlOk l pl) (H : HpR W (fpH g a r) [] W g a c r l pl st) : Ret Try.prog 19 #[hpV g, .int .i64 k] W (atV k l pl) := by
  intro R h
  refine f19_calls _ _ W R ?_
  unfold f19_vc
  have hA := At.refl W
  refine at_callb hA (c32 H) fun w2 hA _ hb => ⟨_, rfl, brB (fun e => by cases e) (fun _ => ?_)⟩
  have H := H.call hb
  have hlook := reads_lookup2 K2 t37 z2 H.map k (ds := []) (by simp)
  cases hm : mget k pl with
  | none =>
    rw [hm] at hlook
    exact ⟨_, rfl, _, H.rdM nog, _, _, hlook, brB (fun _ => leaf h hA (by rw [atV, hm])) (fun e => by cases e)⟩
  | some v =>
    rw [hm] at hlook
    obtain ⟨i, t, rfl, hi⟩ := hP.some_of hm
    obtain ⟨ad, g1, r1, el⟩ := H.item (ds := []) hi (by simp)
    refine ⟨_, rfl, _, H.rdM nog, _, _, hlook, brB (fun e => by cases e) (fun _ => ⟨_, rfl, _, _, _, H.rdI nog, _, g1, _, (el.sub (o := 1) (by decide)).one (by kernel_rfl) (by simp), leaf h hA ?_⟩)⟩
    rw [atV, hm]
    simp [hi]
theorem c13 (H : HpR W (fpH g a r) [] W g a c r l pl st) : Ret Try.prog 13 #[hpV g] W (.int .i64 (l.length : Int)) := by
  intro R h
  refine f13_calls _ W R ?_
  unfold f13_vc
  have hA := At.refl W
  refine at_callb hA (c32 H) fun w2 hA _ hb => ⟨_, rfl, brB (fun e => by cases e) (fun _ => ?_)⟩
  have H := H.call hb
  exact ⟨_, rfl, _, _, _, H.rdI nog, leaf h hA rfl⟩
theorem c16 (H : HpR W (fpH g a r) [] W g a c r l pl st) : Ret Try.prog 16 #[hpV g] W (.int .i64 st) := by
  intro R h
  refine f16_calls _ W R ?_
  unfold f16_vc
  have hA := At.refl W
  refine at_callb hA (c32 H) fun w2 hA _ hb => ⟨_, rfl, brB (fun e => by cases e) (fun _ => ?_)⟩
  have H := H.call hb
  exact ⟨_, rfl, _, H.rdS nog, leaf h hA rfl⟩
end Go.Vc.H

/- Own text of this claim: Hp5. -/
set_option maxRecDepth 20000
namespace Go.Vc.H
open Go Go.Vc Go.RowKit Go.Proofs Vcc

variable {w W W' : World} {M : Nat → Prop} {gs : List Nat} {g c r : Nat} {a : Option Addr} {l pl : List It} {st : Int}

/-- Rise, then sink, from a place of the key's own on. -/
theorem at_settle {key : Int} {V : Value} {x : It} {i : Nat} {R : Ending → World → Prop} (hA : AtF w M gs W) (hx : l[i]? = some x) (hk : x.1 = key) (hU : Up l i) (hP : PlOk l pl) (hl : l.length < 1099511627776) (hs : 0 ≤ st ∧ st < 2305843009213693952 + 8796093022208) (H : HpR w M gs W g a c r l pl st)
    (hR : ∀ a' c' l' pl' st' W', AtF w M gs W' → Same l l' → PlOk l' pl' → Heap l' → st ≤ st' → st' ≤ st + 2 * lev (l.length - 1) → HpR w M gs W' g a' c' r l' pl' st' → R (.returned V) W') :
    Calls Try.prog 34 #[hpV g, .int .i64 (i : Int)] W fun e w1 => e = .returned (.tuple #[]) ∧ ∃ ad : Addr, some (Addr.mk g 0 none) = some ad ∧ ∃ r43 : Option Nat, Reads Try.prog [] (Instr.loadAt 37 (.pointer (some (Addr.mk ad.block (ad.off + 1) none)))) w1 (.map r43) ∧ ∃ x44 : Int, Reads Try.prog [] (Instr.lookup 37 (.map r43) (.int .i64 key) false) w1 (.int .i64 x44) ∧ Calls Try.prog 35 #[hpV g, .int .i64 x44] w1 fun e w2 => e = .returned (.tuple #[]) ∧ R (.returned V) w2 := by
  subst hk
  have hil := (List.getElem?_eq_some_iff.1 hx).1
  refine at_hp hA H (c34 i x hx hU hP hl (by omega) H.entry) fun a1 c1 l1 pl1 st1 w1 hA _ _ hΦ H1 _ => ⟨rfl, ?_⟩
  obtain ⟨j, n, hS, hP1, hD, hj, hn, rfl⟩ := hΦ
  have hlook := reads_lookup1 K2 t37 z2 H1.map x.1 (ds := []) (by simp)
  rw [hP1.fwd j x hj] at hlook
  refine ⟨_, rfl, _, H1.rdM nog, _, hlook, ?_⟩
  have hlm := lev_mono (l.length - 1) i (by omega)
  have := lev_le (l.length - 1)
  have hS1 := hS.1
  refine at_hp hA H1 (c35 j x hj hD hP1 (by omega) (by omega) H1.entry) fun a2 c2 l2 pl2 st2 w2 hA _ _ hΦ H2 _ => ⟨rfl, ?_⟩
  obtain ⟨n2, hS2, hP2, hH2, hn2, rfl⟩ := hΦ
  rw [hS1] at hn2
  exact hR _ _ _ _ _ _ hA (hS.trans hS2) hP2 hH2 (by omega) (by omega) H2

/-- What putting leaves. -/
def PutP (k t : Int) (l : List It) (st : Int) (l' pl' : List It) (st' : Int) : Prop :=
  Heap l' ∧ PlOk l' pl' ∧ l'.length ≤ l.length + 1 ∧ (∀ y, y ∈ l' ↔ y = (k, t) ∨ (y ∈ l ∧ y.1 ≠ k)) ∧ st ≤ st' ∧ st' ≤ st + 2 * lev (l'.length - 1)

theorem c10 (k t : Int) (I : Inv l pl st) (H : HpR W (fpH g a r) [] W g a c r l pl st) :
    RetF Try.prog 10 #[hpV g, .int .i64 k, .int .i64 t] W (fpH g a r) (fun v W' => v = .bool (!(mget k pl).isSome) ∧ ∃ l' pl' st', PutP k t l st l' pl' st' ∧ HpPost W g a r W' l' pl' st') := by
  intro R h
  refine f10_calls _ _ _ W R ?_
  unfold f10_vc
  have hA : AtF W (fpH g a r) [] W := AtF.refl W _
  have i1 := I.len
  have i2 := I.st0
  have i3 := I.st1
  refine at_callb hA (c32 H) fun w2 hA _ hb => ⟨_, rfl, brB (fun e => by cases e) (fun _ => ?_)⟩
  have H := H.call hb
  have hlook := reads_lookup2 K2 t37 z2 H.map k (ds := []) (by simp)
  cases hm : mget k pl with
  | none =>
    rw [hm] at hlook
    refine ⟨_, rfl, _, H.rdM nog, _, _, hlook, brB (fun _ => ?_) (fun e => by cases e)⟩
    refine ⟨_, rfl, _, _, _, H.rdI nog, _, rfl, _, _, _, H.rdI nog, ?_⟩
    refine opw_push0 (bytes := 16) (e' := 80) hA H.items ((0, 0) : It) (by kernel_rfl) (by kernel_rfl) rfl (fun _ _ => rfl) (by simp [Value.oneCell']) (by omega) (by decide) fun a' c' w3 hA hi hg hown => ⟨_, rfl, ?_⟩
    have hgb : w3.heap[g]? = some (.cells (hpC a l.length c r st).toArray 39 (0, 0)) := by
      rw [hg.block g (H.lt g (.inl rfl)) (fun e => H.gi (e.symm))]
      exact H.blk
    have hmap : OwnM W (fpH g a r) [] w3 r (Value.int .i64) (Value.int .i64) pl := by
      obtain ⟨es, cl, hr, rest⟩ := H.map.obj
      exact ⟨H.map.mine, H.map.apart, es, cl, by rw [hg.block r H.map.lt (fun e => H.ri (e.symm))]; exact hr, rest⟩
    refine opw_items hA hgb H.mine H.apart hi rfl hmap fun w4 hA _ H => ?_
    refine at_hp hA H (c33 (k, t) l.length (by simp) H.entry) fun a2 c2 l2 pl2 st2 w5 hA _ _ hΦ H _ => ⟨rfl, ?_⟩
    obtain ⟨rfl, rfl, e3⟩ := hΦ
    rw [e3] at H
    have hlen : ((l ++ [((0, 0) : It)]).set l.length (k, t)).length = l.length + 1 := by simp
    refine at_settle hA (x := (k, t)) (by simp) rfl (up_push (k, t) (0, 0) I.heap) (plok_new (x := (k, t)) I.pl hm) (by omega) (by omega) H fun a' c' l' pl' st' W' hA hS hP hH h1 h2 H => ?_
    refine leafF h hA ⟨by rw [hm]; rfl, l', pl', st', ⟨hH, hP, ?_, fun y => (hS.2 y).trans (mem_new (x := (k, t)) I.pl hm y), h1, ?_⟩, a', c', H⟩
    · rw [hS.1, hlen]; exact Nat.le_refl _
    · rw [hS.1]; exact h2
  | some v =>
    rw [hm] at hlook
    obtain ⟨i, t0, rfl, hi⟩ := I.pl.some_of hm
    have hil := (List.getElem?_eq_some_iff.1 hi).1
    refine ⟨_, rfl, _, H.rdM nog, _, _, hlook, brB (fun e => by cases e) (fun _ => ?_)⟩
    refine at_hp hA H (c33 (k, t) i hil H.entry) fun a2 c2 l2 pl2 st2 w5 hA _ _ hΦ H _ => ⟨rfl, ?_⟩
    obtain ⟨rfl, rfl, e3⟩ := hΦ
    rw [e3] at H
    refine at_settle hA (x := (k, t)) (by simp [hil]) rfl (up_set (k, t) I.heap) (plok_old (x := (k, t)) I.pl hi hm) (by rw [List.length_set]; omega) (by omega) H fun a' c' l' pl' st' W' hA hS hP hH h1 h2 H => ?_
    refine leafF h hA ⟨by rw [hm]; rfl, l', pl', st', ⟨hH, hP, ?_, fun y => (hS.2 y).trans (mem_old (x := (k, t)) I.pl hi y), h1, ?_⟩, a', c', H⟩
    · rw [hS.1, List.length_set]; omega
    · rw [hS.1]; exact h2

/-- What dropping leaves. -/
def DropP (k : Int) (l : List It) (st : Int) (l' pl' : List It) (st' : Int) : Prop :=
  Heap l' ∧ PlOk l' pl' ∧ l'.length ≤ l.length ∧ (∀ y, y ∈ l' ↔ y ∈ l ∧ y.1 ≠ k) ∧ st ≤ st' ∧ st' ≤ st + 2 * lev (l.length - 1) ∧ ((∃ y ∈ l, y.1 = k) → l'.length < l.length)

theorem c14 (k : Int) (I : Inv l pl st) (H : HpR W (fpH g a r) [] W g a c r l pl st) :
    RetF Try.prog 14 #[hpV g, .int .i64 k] W (fpH g a r) (fun v W' => v = .bool (mget k pl).isSome ∧ ∃ l' pl' st', DropP k l st l' pl' st' ∧ HpPost W g a r W' l' pl' st') := by
  intro R h
  refine f14_calls _ _ W R ?_
  unfold f14_vc
  have hA : AtF W (fpH g a r) [] W := AtF.refl W _
  have i1 := I.len
  have i2 := I.st0
  have i3 := I.st1
  refine at_callb hA (c32 H) fun w2 hA _ hb => ⟨_, rfl, brB (fun e => by cases e) (fun _ => ?_)⟩
  have H := H.call hb
  have hlook := reads_lookup2 K2 t37 z2 H.map k (ds := []) (by simp)
  cases hm : mget k pl with
  | none =>
    rw [hm] at hlook
    refine ⟨_, rfl, _, H.rdM nog, _, _, hlook, brB (fun _ => ?_) (fun e => by cases e)⟩
    exact leafF h hA ⟨by rw [hm]; rfl, l, pl, st, ⟨I.heap, I.pl, Nat.le_refl _, fun y => ⟨fun hy => ⟨hy, I.pl.none_of hm y hy⟩, (·.1)⟩, by omega, by omega, fun ⟨y, hy, e⟩ => absurd e (I.pl.none_of hm y hy)⟩, a, c, H⟩
  | some v =>
    rw [hm] at hlook
    obtain ⟨i, t0, rfl, hi⟩ := I.pl.some_of hm
    have hil := (List.getElem?_eq_some_iff.1 hi).1
    have en : IntKind.i64.wrap ((l.length : Int) - 1) = ((l.length - 1 : Nat) : Int) := by
      rw [wrap_i64 (by omega) (by omega)]; omega
    obtain ⟨y, hy⟩ : ∃ y, l[l.length - 1]? = some y := ⟨_, List.getElem?_eq_getElem (by omega)⟩
    obtain ⟨ad, g1, r1, -⟩ := H.item (ds := []) hy (by simp)
    refine ⟨_, rfl, _, H.rdM nog, _, _, hlook, brB (fun e => by cases e) (fun _ => ?_)⟩
    refine ⟨_, rfl, _, _, _, H.rdI nog, _, rfl, _, _, _, H.rdI nog, _, (by rw [en]; exact g1), _, _, r1, ?_⟩
    refine fun n1 hn1 => ⟨r1, H.rdI nog, H.rdI nog, ?_⟩
    have hsz := hA.size
    have hd : ∀ d ∈ [n1], d ≠ g := by
      have := H.lt g (.inl rfl)
      simp; omega
    obtain ⟨gi, cur, rfl, _, _, hlc, _⟩ := H.items.ptr (by omega)
    refine ⟨_, rfl, _, _, _, H.rdI hd, _, rfl, _, _, _, H.rdI hd, _, _, _, (by rw [en]; exact gives_to (e := 80) (size := 2) (by omega) hlc (by kernel_rfl) (by kernel_rfl)), _, rfl, ?_⟩
    refine go_evo_too hA (by intro d hd; simp at hd; omega) fun w3 hA hev => ?_
    have H := (H.more (gs' := [n1]) (by intro q hq _; simp at hq; omega)).evo (by intro d hd hn; simp at hd hn; omega) hev
    refine opw_items hA H.blk H.mine H.apart (OwnF.take (l.length - 1) H.items (by omega) (fun _ _ => rfl)) (by simp) H.map fun w4 hA hk4 H => ⟨hk4, _, rfl, _, H.rdM nog, ?_⟩
    refine opw_delete K2 t37 hA H.map fun w5 hA hk5 hc5 hm5 => ⟨rfl, hk5, ?_⟩
    have H : HpR W (fpH g (some ⟨gi, 0, none⟩) r) [n1] w5 g (some ⟨gi, 0, none⟩) c r (l.take (l.length - 1)) (mdel k pl) st := ⟨by rw [hc5.block g (H.lt g (.inl rfl)) H.gr]; exact H.blk, H.mine, H.apart, H.items.chg hc5 (fun k hk e => H.ri (by rw [← e]; exact hk)), hm5⟩
    refine brN (fun hne => ?_) (fun he => ?_)
    · have hne' : i < l.length - 1 := by
        have : i ≠ l.length - 1 := fun e => by
          subst e
          rw [hi] at hy
          cases hy
          exact hne rfl
        omega
      refine at_hp hA H (c33 y i (by rw [List.length_take]; omega) H.entry) fun a6 c6 l6 pl6 st6 w6 hA hk6 _ hΦ H _ => ⟨rfl, hk6, ?_⟩
      obtain ⟨rfl, rfl, e3⟩ := hΦ
      rw [e3] at H
      have hlen : ((l.take (l.length - 1)).set i y).length = l.length - 1 := by simp
      have hP := plok_mid I.pl hi hy hne'
      have hx : ((l.take (l.length - 1)).set i y)[i]? = some y := by simp [List.getElem?_set]; omega
      refine at_hp hA H (c34 i y hx (up_set y (heap_take _ I.heap)) hP (by omega) (by omega) H.entry) fun a1 c1 l1 pl1 st1 w1 hA hk7 _ hΦ H1 _ => ⟨rfl, hk7, ?_⟩
      obtain ⟨j, n, hS, hP1, hD, hj, hn, rfl⟩ := hΦ
      have hlook := reads_lookup1 K2 t37 z2 H1.map y.1 (ds := []) (by simp)
      rw [hP1.fwd j y hj] at hlook
      refine ⟨_, rfl, _, H1.rdM nog, _, hlook, ?_⟩
      refine go_below_too hA fun w8 hA hb8 => ?_
      have H1 := H1.call hb8
      have hlm := lev_mono (l.length - 1) i (by omega)
      have := lev_le (l.length - 1)
      have hS1 := hS.1
      refine at_hp hA H1 (c35 j y hj hD hP1 (by omega) (by omega) H1.entry) fun a2 c2 l2 pl2 st2 w2 hA hk9 _ hΦ H2 _ => ⟨rfl, hk9, H2.rdM nog, ?_⟩
      obtain ⟨n2, hS2, hP2, hH2, hn2, rfl⟩ := hΦ
      have hlm2 := lev_mono (l.length - 1) (l1.length - 1) (by omega)
      refine leafF h hA ⟨by rw [hm]; rfl, l2, pl2, _, ⟨hH2, hP2, ?_, fun z => ((hS.trans hS2).2 z).trans (mem_mid I.pl hi hy hne' z), by omega, by omega, fun _ => ?_⟩, _, _, H2.more (by simp)⟩
      · rw [hS2.1, hS.1, hlen]; omega
      · rw [hS2.1, hS.1, hlen]; omega
    · have e : y.1 = k := he
      refine leafF h hA ⟨by rw [hm]; rfl, _, _, _, ⟨heap_take _ I.heap, (by rw [← e]; exact plok_last I.pl hy), by rw [List.length_take]; omega, fun z => (by rw [← e]; exact mem_last I.pl hy z), by omega, by omega, fun _ => by rw [List.length_take]; omega⟩, _, _, H.more (by simp)⟩
end Go.Vc.H

/- Own text of this claim: Hp6. -/
set_option maxRecDepth 20000
namespace Go.Vc.H
open Go Go.Vc Go.RowKit Go.Proofs Vcc

variable {w W W' : World} {M : Nat → Prop} {gs : List Nat}

theorem succ_i64 (k : Nat) (h : k < 4611686018427387904) : IntKind.i64.wrap ((k : Int) + 1) = ((k + 1 : Nat) : Int) := by rw [wrap_i64 (by omega) (by omega)]; rfl

/-- Where a key stands in a list; -1: nowhere. -/
def plc (key : Int) : List It → Int
  | [] => -1
  | x :: t => if x.1 = key then 0 else if plc key t < 0 then -1 else plc key t + 1
theorem plc_at {key : Int} : ∀ (l : List It) (k : Nat) (x : It), l[k]? = some x → x.1 = key → (∀ q, q < k → ∀ y, l[q]? = some y → y.1 ≠ key) → plc key l = k := by
  intro l
  induction l with
  | nil => intro k x hx; simp at hx
  | cons a t ih =>
    intro k x hx he hmin
    cases k with
    | zero => simp at hx; subst hx; simp [plc, he]
    | succ k =>
      have := ih k x (by simpa using hx) he (fun q hq y hy => hmin (q + 1) (by omega) y (by simpa using hy))
      rw [plc, if_neg (hmin 0 (by omega) a rfl), this, if_neg (by omega)]
      rfl
theorem plc_none {key : Int} : ∀ (l : List It), (∀ y ∈ l, y.1 ≠ key) → plc key l = -1 := by
  intro l
  induction l with
  | nil => intro _; rfl
  | cons a t ih => intro h; rw [plc, if_neg (h a (by simp)), ih (fun y hy => h y (by simp [hy]))]; rfl

theorem c20 {l : List It} {a : Option Addr} {n c : Nat} (key : Int) (w : World) (hs : SlE w 2 itE l a n c) (hl : l.length < 1099511627776) : Ret Try.prog 20 #[.slice a n c, .int .i64 key] w (.int .i64 (plc key l)) := by
  intro R h
  refine f20_calls _ _ _ _ w R ?_
  unfold f20_vc
  have hA := At.refl w
  have hn := hs.len_le.1
  refine ⟨fun v w4 => ∃ k : Nat, v.1 = k ∧ At w [] w4 ∧ (∀ q, q < k → ∀ y, l[q]? = some y → y.1 ≠ key), fun v _ => (n - v.1).toNat, ⟨0, rfl, hA, fun q hq => by omega⟩, ?_⟩
  rintro x3 w4 ⟨k, hk, hA, hmin⟩
  simp only at hk
  subst hk
  have hs4 := hs.call hA.below
  refine brD (fun hlt => ?_) (fun hge => leaf h hA ?_)
  · obtain ⟨x, hx⟩ : ∃ x, l[k]? = some x := ⟨_, List.getElem?_eq_getElem (by omega)⟩
    obtain ⟨ad, g1, el, _⟩ := elt_at (P := Try.prog) (k := .i64) (t := 41) hs4 hx (e := 48) (by kernel_rfl) (by kernel_rfl)
    refine ⟨ad, g1, _, el.one (by kernel_rfl) (by simp), brE (fun he => leaf h hA ?_) (fun hne => ?_)⟩
    · rw [plc_at l k x hx he hmin]
    · rw [succ_i64 k (by omega)]
      refine ⟨⟨k + 1, rfl, hA, fun q hq y hy => ?_⟩, by simp only; omega⟩
      by_cases hqk : q = k
      · subst hqk
        rw [hx] at hy
        cases hy
        exact hne
      · exact hmin q (by omega) y hy
  · rw [plc_none l fun y hy => ?_]
    obtain ⟨q, hq⟩ := List.mem_iff_getElem?.1 hy
    have := (List.getElem?_eq_some_iff.1 hq).1
    exact hmin q (by omega) y hq

theorem c50 (x y : It) (w : World) : Ret Try.prog 50 #[.agg #[.int .i64 x.1, .int .i64 x.2], .agg #[.int .i64 y.1, .int .i64 y.2]] w (.bool (decide (ahead x y))) := by
  intro R h
  refine f50_calls x.1 x.2 y.1 y.2 w R ?_
  unfold f50_vc
  have hA := At.refl w
  refine go_n hA fun n1 h_n1 => ?_
  refine go_n hA fun n2 h_n2 => ?_
  refine brD (fun h1 => go_below hA fun _ hA => leaf h hA (by rw [decide_eq_true (show ahead x y from .inl h1)])) (fun h1 => brE (fun h2 => go_below hA fun _ hA => leaf h hA ?_) (fun h2 => go_below hA fun _ hA => leaf h hA ?_))
  · rw [show decide (ahead x y) = decide (x.1 < y.1) from decide_eq_decide.2 ⟨fun hh => hh.elim (fun e => absurd e h1) (·.2), fun hh => .inr ⟨h2, hh⟩⟩]
  · rw [decide_eq_false (show ¬ ahead x y from fun hh => hh.elim h1 (fun e => h2 e.1))]

theorem take_next {α : Type} {l : List α} {k : Nat} {x : α} (h : l[k]? = some x) : l.take (k + 1) = l.take k ++ [x] := by
  rw [List.take_add_one, h]
  rfl

/-- One more behind a list of items. -/
theorem oc (x : It) : ∀ u ∈ itE x, u.oneCell' = true := by
  intro u hu
  simp at hu
  rcases hu with rfl | rfl <;> rfl

def dropR (key : Int) (l : List It) : List It := l.filter fun x => decide (x.1 ≠ key)
theorem dropR_len (key : Int) (l : List It) : (dropR key l).length ≤ l.length := List.length_filter_le ..
theorem c37 {l : List It} {a : Option Addr} {n c : Nat} (key : Int) (w : World) (hs : SlE w 2 itE l a n c) (hl : l.length < 1099511627776) : RetL Try.prog 37 #[.slice a n c, .int .i64 key] w 48 2 itE (dropR key l) := by
  intro R h
  refine f37_calls _ _ _ _ w R ?_
  unfold f37_vc
  have hA := At.refl w
  have hn := hs.len_le.1
  refine ⟨fun v w4 => ∃ k : Nat, v.2.1 = k ∧ k ≤ n ∧ At w [] w4 ∧ OwnL w [] w4 48 2 itE (.slice v.1.1 v.1.2.1 v.1.2.2) (dropR key (l.take k)), fun v _ => (n - v.2.1).toNat, ⟨0, rfl, by omega, hA, OwnL.nil⟩, ?_⟩
  rintro a3 n4 n5 x6 w7 ⟨k, hk, hkn, hA, ho⟩
  simp only at hk ho
  subst hk
  have hs7 := hs.call hA.below
  refine brD (fun hlt => ?_) (fun hge => leafl h hA ho ?_)
  · obtain ⟨x, hx⟩ : ∃ x, l[k]? = some x := ⟨_, List.getElem?_eq_getElem (by omega)⟩
    obtain ⟨ad, g1, el, _⟩ := elt_at (P := Try.prog) (k := .i64) (t := 41) hs7 hx (e := 48) (by kernel_rfl) (by kernel_rfl)
    refine ⟨ad, g1, _, el.one (by kernel_rfl) (by simp), brN (fun hne => ?_) (fun he => ?_)⟩
    · refine ⟨ad, g1, _, _, Elt.agg 2 el (by kernel_rfl) (by kernel_rfl) (by simp) (by simp), ?_⟩
      obtain ⟨_, _, hv, _⟩ := ho.slice (fun _ _ => rfl)
      cases hv
      have := dropR_len key (l.take k)
      have : (l.take k).length ≤ k := by simp; omega
      refine opw_push0 (e' := 48) (bytes := 16) hA ho x (by kernel_rfl) (by kernel_rfl) rfl (fun _ _ => rfl) (oc x) (by omega) (by decide) fun a2 c2 w9 hA ho _ _ => ?_
      rw [succ_i64 k (by omega)]
      refine ⟨⟨k + 1, rfl, by omega, hA, ?_⟩, by simp only; omega⟩
      have : dropR key (l.take (k + 1)) = dropR key (l.take k) ++ [x] := by
        rw [take_next hx]; simp [dropR, hne]
      rw [this]
      exact ho
    · rw [succ_i64 k (by omega)]
      refine ⟨⟨k + 1, rfl, by omega, hA, ?_⟩, by simp only; omega⟩
      have : dropR key (l.take (k + 1)) = dropR key (l.take k) := by
        rw [take_next hx]; simp [dropR, he]
      simp only
      rw [this]
      exact ho
  · rw [List.take_of_length_le (by omega)]
end Go.Vc.H

/- Own text of this claim: Hp7. -/
set_option maxRecDepth 20000
namespace Go.Vc.H
open Go Go.Vc Go.RowKit Go.Proofs Vcc

variable {w W W' : World} {M : Nat → Prop} {gs : List Nat}

/-- One put in its place. -/
def ins (x : It) : List It → List It
  | [] => [x]
  | y :: t => if ahead x y then x :: y :: t else y :: ins x t
def putR (x : It) (l : List It) : List It := ins x (dropR x.1 l)

theorem drop_next {α : Type} {l : List α} {k : Nat} {x : α} (h : l[k]? = some x) : l.drop k = x :: l.drop (k + 1) := by
  obtain ⟨hk, rfl⟩ := List.getElem?_eq_some_iff.1 h
  exact List.drop_eq_getElem_cons hk

theorem c36 {l : List It} {a : Option Addr} {n c : Nat} (x : It) (w : World) (hs : SlE w 2 itE l a n c) (hl : l.length < 549755813888) : RetL Try.prog 36 #[.slice a n c, .agg #[.int .i64 x.1, .int .i64 x.2]] w 48 2 itE (putR x l) := by
  intro R h
  refine f36_calls _ _ _ x.1 x.2 w R ?_
  unfold f36_vc
  have hA := At.refl w
  have hn := hs.len_le.1
  refine go_n hA fun n1 h_n1 => ?_
  refine go_below_too hA fun w2 hA hb2 => ?_
  refine at_calll hA (c37 x.1 w2 (hs.call hb2) (by omega)) (fun _ _ => rfl) fun a5 c5 w4 hA hk hb4 ho4 hs4 => ⟨_, _, _, rfl, hk, ?_⟩
  have hrl := dropR_len x.1 l
  generalize hrest : dropR x.1 l = rest at ho4 hs4 hrl ⊢
  have hA4 : At w4 [n1] w4 := ⟨Chg.refl _ _, hA.under⟩
  refine ⟨fun v W => ∃ k : Nat, v.2.2.1 = k ∧ k ≤ rest.length ∧ At w4 [n1] W ∧ ∃ out, OwnL w4 [n1] W 48 2 itE (.slice v.1.1 v.1.2.1 v.1.2.2) out ∧ out.length ≤ k + 1 ∧ (v.2.1 = true → out ++ rest.drop k = ins x rest) ∧ (v.2.1 = false → out.length ≤ k ∧ out ++ ins x (rest.drop k) = ins x rest), fun v _ => (rest.length - v.2.2.1).toNat, ⟨0, rfl, by omega, hA4, [], OwnL.nil, by simp, (fun e => by cases e), fun _ => ⟨by simp, rfl⟩⟩, ?_⟩
  rintro a10 n11 n12 b13 x14 w15 ⟨k, hk', hkn, hA5, out, ho, hol, ht, hf⟩
  simp only at hk' ho ht hf
  subst hk'
  have hs15 := hs4.call hA5.below
  obtain ⟨_, _, hv, _⟩ := ho.slice (fun _ _ => rfl)
  cases hv
  have back : ∀ {v : Value} {l' : List It} {W : World}, At w4 [n1] W → OwnL w4 [n1] W 48 2 itE v l' → OwnL w [n1] W 48 2 itE v l' ∧ At w [n1] W := fun hW ho => ⟨ho.base (fun k hk => .inl (Nat.le_trans hA.size ((ho.mine k hk).resolve_right id))) ho.apart, hA.call hW.below⟩
  refine brD (fun hlt => ?_) (fun hge => ?_)
  · have hlt' : k < rest.length := by omega
    obtain ⟨y, hy⟩ : ∃ y, rest[k]? = some y := ⟨_, List.getElem?_eq_getElem hlt'⟩
    have hdr := drop_next hy
    rw [succ_i64 k (by omega)]
    obtain ⟨ad, g1, el, _⟩ := elt_at (P := Try.prog) (k := .i64) (t := 41) hs15 hy (e := 48) (by kernel_rfl) (by kernel_rfl)
    cases b13 with
    | false =>
      refine ⟨fun _ => ?_, (fun e => by cases e)⟩
      refine ⟨ad, g1, _, _, Elt.agg 2 el (by kernel_rfl) (by kernel_rfl) (by simp) (by simp), ?_⟩
      refine go_below_too hA5 fun w19 hA5 hb => ?_
      have ho := (ho.call hb)
      refine at_callb hA5 (c50 x y w19) fun w21 hA5 hk21 hb => ⟨_, rfl, hk21, ?_⟩
      have ho := (ho.call hb)
      obtain ⟨hol, hff⟩ := hf rfl
      refine brD (fun ha => ?_) (fun hna => ?_)
      · refine opw_push (e' := 48) (bytes := 16) hA5 ho x (by kernel_rfl) (by kernel_rfl) rfl (fun _ _ => rfl) (oc x) (by omega) (by decide) fun a2 c2 w29 hA5 ho _ _ => ?_
        obtain ⟨ad2, g2, el2, _⟩ := elt_at (P := Try.prog) (k := .i64) (t := 41) (hs4.call hA5.below) hy (e := 48) (by kernel_rfl) (by kernel_rfl)
        refine ⟨ad2, g2, _, _, Elt.agg 2 el2 (by kernel_rfl) (by kernel_rfl) (by simp) (by simp), ?_⟩
        refine opw_push (e' := 48) (bytes := 16) hA5 ho y (by kernel_rfl) (by kernel_rfl) rfl (fun _ _ => rfl) (oc y) (by simp; omega) (by decide) fun a2 c2 w42 hA5 ho _ _ => ?_
        refine ⟨⟨k + 1, rfl, by omega, hA5, _, ho, by simp; omega, (fun _ => ?_), (fun e => by cases e)⟩, by simp only; omega⟩
        rw [hdr, ins, if_pos ha] at hff
        rw [← hff]
        simp
      · obtain ⟨ad2, g2, el2, _⟩ := elt_at (P := Try.prog) (k := .i64) (t := 41) (hs4.call hA5.below) hy (e := 48) (by kernel_rfl) (by kernel_rfl)
        refine ⟨ad2, g2, _, _, Elt.agg 2 el2 (by kernel_rfl) (by kernel_rfl) (by simp) (by simp), ?_⟩
        refine opw_push (e' := 48) (bytes := 16) hA5 ho y (by kernel_rfl) (by kernel_rfl) rfl (fun _ _ => rfl) (oc y) (by omega) (by decide) fun a2 c2 w42 hA5 ho _ _ => ?_
        refine ⟨⟨k + 1, rfl, by omega, hA5, _, ho, by simp; omega, (fun e => by cases e), fun _ => ⟨by simp; omega, ?_⟩⟩, by simp only; omega⟩
        rw [hdr, ins, if_neg hna] at hff
        rw [← hff]
        simp
    | true =>
      refine ⟨(fun e => by cases e), fun _ => ?_⟩
      refine ⟨ad, g1, _, _, Elt.agg 2 el (by kernel_rfl) (by kernel_rfl) (by simp) (by simp), ?_⟩
      refine go_below_too hA5 fun w19 hA5 hb => ?_
      have ho := (ho.call hb)
      refine opw_push (e' := 48) (bytes := 16) hA5 ho y (by kernel_rfl) (by kernel_rfl) rfl (fun _ _ => rfl) (oc y) (by omega) (by decide) fun a2 c2 w42 hA5 ho _ _ => ?_
      refine ⟨⟨k + 1, rfl, by omega, hA5, _, ho, by simp; omega, (fun _ => ?_), (fun e => by cases e)⟩, by simp only; omega⟩
      rw [← ht rfl, hdr]
      simp
  · have hk2 : k = rest.length := by omega
    subst hk2
    cases b13 with
    | false =>
      refine ⟨fun _ => ?_, (fun e => by cases e)⟩
      refine opw_push (e' := 48) (bytes := 16) hA5 ho x (by kernel_rfl) (by kernel_rfl) rfl (fun _ _ => rfl) (oc x) (by omega) (by decide) fun a2 c2 w42 hA5 ho _ _ => ?_
      refine leafl h (back hA5 ho).2 (back hA5 ho).1 ?_
      rw [putR, hrest, ← (hf rfl).2]
      simp [ins]
    | true =>
      refine ⟨(fun e => by cases e), fun _ => ?_⟩
      refine leafl h (back hA5 ho).2 (back hA5 ho).1 ?_
      rw [putR, hrest, ← ht rfl]
      simp
end Go.Vc.H

/- Own text of this claim: Hp8. -/
set_option maxRecDepth 20000
namespace Go.Vc.H
open Go Go.Vc Go.RowKit Go.Proofs Vcc

variable {w W W' : World} {M : Nat → Prop} {gs : List Nat} {g c r : Nat} {a : Option Addr} {l pl : List It} {st : Int}

theorem own_ret {α : Type} {e : TypeId} {size : Nat} {f : α → List Value} {v : Value} {l : List α} (hA : AtF w M gs W) (h : OwnF W noB [] W' e size f v l) : OwnF w M gs W' e size f v l :=
  h.base (fun k hk => .inl (Nat.le_trans hA.size ((h.mine k hk).resolve_right id))) fun x hx hk => by
    have := (h.mine x hk).resolve_right id
    have := hA.under x hx
    omega

def dueK (now : Int) (l : List It) : List Int := (l.filter fun x => decide (x.2 ≤ now)).map (·.1)
def dueR (now : Int) (l : List It) : List It := l.filter fun x => decide (¬ x.2 ≤ now)

theorem c38 {l : List It} {a : Option Addr} {n c : Nat} (now : Int) (w : World) (hs : SlE w 2 itE l a n c) (hl : l.length < 1099511627776) : RetQ Try.prog 38 #[.slice a n c, .int .i64 now] w (fun v W' => ∃ s1 s2, v = .tuple #[s1, s2] ∧ OwnF w noB [] W' 2 1 inE s1 (dueK now l) ∧ OwnF w noB [] W' 48 2 itE s2 (dueR now l)) := by
  intro R h
  refine f38_calls _ _ _ _ w R ?_
  unfold f38_vc
  have hA := At.refl w
  have hn := hs.len_le.1
  refine ⟨fun v W => ∃ k : Nat, v.2.2.1 = k ∧ k ≤ n ∧ At w [] W ∧ OwnL w [] W 2 1 inE (.slice v.1.1 v.1.2.1 v.1.2.2) (dueK now (l.take k)) ∧ OwnL w [] W 48 2 itE (.slice v.2.1.1 v.2.1.2.1 v.2.1.2.2) (dueR now (l.take k)), fun v _ => (n - v.2.2.1).toNat, ⟨0, rfl, by omega, hA, OwnL.nil, OwnL.nil⟩, ?_⟩
  rintro a3 n4 n5 a6 n7 n8 x9 w10 ⟨k, hk, hkn, hA, ho1, ho2⟩
  simp only at hk ho1 ho2
  subst hk
  have hs10 := hs.call hA.below
  have htk : (l.take k).length ≤ k := by simp; omega
  have hl1 : (dueK now (l.take k)).length ≤ (l.take k).length := by unfold dueK; rw [List.length_map]; exact List.length_filter_le ..
  have hl2 : (dueR now (l.take k)).length ≤ (l.take k).length := List.length_filter_le ..
  obtain ⟨_, _, hv, _⟩ := ho1.slice (fun _ _ => rfl)
  cases hv
  obtain ⟨_, _, hv, _⟩ := ho2.slice (fun _ _ => rfl)
  cases hv
  refine brD (fun hlt => ?_) (fun hge => leafq h hA ⟨_, _, rfl, ?_⟩)
  · obtain ⟨x, hx⟩ : ∃ x, l[k]? = some x := ⟨_, List.getElem?_eq_getElem (by omega)⟩
    obtain ⟨ad, g1, el, _⟩ := elt_at (P := Try.prog) (k := .i64) (t := 41) hs10 hx (e := 48) (by kernel_rfl) (by kernel_rfl)
    rw [succ_i64 k (by omega)]
    refine ⟨ad, g1, _, (el.sub (o := 1) (by decide)).one (by kernel_rfl) (by simp), brD (fun hle => ?_) (fun hgt => ?_)⟩
    · refine ⟨ad, g1, _, el.one (by kernel_rfl) (by simp), ?_⟩
      refine opw_push0 (e' := 2) (bytes := 8) hA ho1 x.1 (by kernel_rfl) (by kernel_rfl) rfl (fun _ _ => rfl) (by simp [Value.oneCell']) (by omega) (by decide) fun a2 c2 w21 hA ho hg _ => ?_
      refine ⟨⟨k + 1, rfl, by omega, hA, ?_, ?_⟩, by simp only; omega⟩
      · have : dueK now (l.take (k + 1)) = dueK now (l.take k) ++ [x.1] := by
          rw [take_next hx]; simp [dueK, hle]
        simp only
        rw [this]
        exact ho
      · have : dueR now (l.take (k + 1)) = dueR now (l.take k) := by
          rw [take_next hx]; simp [dueR, hle]
        simp only
        rw [this]
        refine ho2.keep fun b hb => hg.block b (ho2.lt b hb) fun e => ?_
        obtain ⟨_, hc2⟩ := ho2.blk hb
        obtain ⟨_, hc1⟩ := ho1.blk e.symm
        exact cells_ne hc1 hc2 (by decide) rfl
    · refine ⟨ad, g1, _, _, Elt.agg 2 el (by kernel_rfl) (by kernel_rfl) (by simp) (by simp), ?_⟩
      refine opw_push0 (e' := 48) (bytes := 16) hA ho2 x (by kernel_rfl) (by kernel_rfl) rfl (fun _ _ => rfl) (oc x) (by omega) (by decide) fun a2 c2 w21 hA ho hg _ => ?_
      refine ⟨⟨k + 1, rfl, by omega, hA, ?_, ?_⟩, by simp only; omega⟩
      · have : dueK now (l.take (k + 1)) = dueK now (l.take k) := by
          rw [take_next hx]; simp [dueK, hgt]
        simp only
        rw [this]
        refine ho1.keep fun b hb => hg.block b (ho1.lt b hb) fun e => ?_
        obtain ⟨_, hc1⟩ := ho1.blk hb
        obtain ⟨_, hc2⟩ := ho2.blk e.symm
        exact cells_ne hc1 hc2 (by decide) rfl
      · have : dueR now (l.take (k + 1)) = dueR now (l.take k) ++ [x] := by
          rw [take_next hx]; simp [dueR]
          omega
        simp only
        rw [this]
        exact ho
  · have e : l.take k = l := List.take_of_length_le (by omega)
    rw [e] at ho1 ho2
    rw [e]
    exact ⟨ho1, ho2⟩

theorem c39 {x y : List Int} {a b : Option Addr} {n c n2 c2 : Nat} (w : World) (hx : SlE w 1 inE x a n c) (hy : SlE w 1 inE y b n2 c2) (hl : x.length < 1099511627776) : Ret Try.prog 39 #[.slice a n c, .slice b n2 c2] w (.bool (decide (x = y))) := by
  intro R h
  refine f39_calls _ _ _ _ _ _ w R ?_
  unfold f39_vc
  have hA := At.refl w
  have hn := hx.len_le.1
  have hn2 := hy.len_le.1
  refine brN (fun hne => leaf h hA (by rw [decide_eq_false (fun e => hne (by rw [hn, hn2, e]))])) (fun he => ?_)
  refine ⟨fun v w4 => ∃ k : Nat, v.1 = k ∧ k ≤ n ∧ At w [] w4 ∧ ∀ q, q < k → x[q]? = y[q]?, fun v _ => (n - v.1).toNat, ⟨0, rfl, by omega, hA, fun q hq => by omega⟩, ?_⟩
  rintro x3 w4 ⟨k, hk, hkn, hA, hall⟩
  simp only at hk
  subst hk
  refine brD (fun hlt => ?_) (fun hge => leaf h hA ?_)
  · obtain ⟨u, hu⟩ : ∃ u, x[k]? = some u := ⟨_, List.getElem?_eq_getElem (by omega)⟩
    obtain ⟨v, hv⟩ : ∃ v, y[k]? = some v := ⟨_, List.getElem?_eq_getElem (by omega)⟩
    obtain ⟨ad, g1, el, _⟩ := elt_at (P := Try.prog) (k := .i64) (t := 22) (hx.call hA.below) hu (e := 2) (by kernel_rfl) (by kernel_rfl)
    obtain ⟨ad2, g2, el2, _⟩ := elt_at (P := Try.prog) (k := .i64) (t := 22) (hy.call hA.below) hv (e := 2) (by kernel_rfl) (by kernel_rfl)
    refine ⟨ad, g1, _, el.one (by kernel_rfl) (by simp), ad2, g2, _, el2.one (by kernel_rfl) (by simp), brN (fun hne => ?_) (fun huv => ?_)⟩
    · exact go_below0 hA fun w9 hA => leaf h hA (by rw [decide_eq_false (fun e => by rw [e, hv] at hu; cases hu; exact hne rfl)])
    · refine go_below0 hA fun w9 hA => ?_
      rw [succ_i64 k (by omega)]
      refine ⟨⟨k + 1, rfl, by omega, hA, fun q hq => ?_⟩, by simp only; omega⟩
      by_cases hqk : q = k
      · subst hqk
        rw [hu, hv, huv]
      · exact hall q (by omega)
  · rw [decide_eq_true]
    refine List.ext_getElem? fun q => ?_
    by_cases hq : q < k
    · exact hall q hq
    · rw [List.getElem?_eq_none (by omega), List.getElem?_eq_none (by omega)]

/-- What popping leaves. -/
def PopP (l pl : List It) (st : Int) (l' pl' : List It) (st' : Int) : Prop :=
  match l[0]? with
  | some x => DropP x.1 l st l' pl' st'
  | none => l' = l ∧ pl' = pl ∧ st' = st
theorem c11 (I : Inv l pl st) (H : HpR W (fpH g a r) [] W g a c r l pl st) :
    RetF Try.prog 11 #[hpV g] W (fpH g a r) (fun v W' => v = peekV l ∧ ∃ l' pl' st', PopP l pl st l' pl' st' ∧ HpPost W g a r W' l' pl' st') := by
  intro R h
  refine f11_calls _ W R ?_
  unfold f11_vc
  have hA : AtF W (fpH g a r) [] W := AtF.refl W _
  cases hx : l[0]? with
  | none =>
    have e : peekV l = .tuple #[.int .i64 0, .int .i64 0, .bool false] := by unfold peekV; rw [hx]
    refine at_callb hA (c18 H) fun w2 hA _ hb => ⟨_, _, _, by rw [e], brB (fun e => by cases e) (fun _ => ?_)⟩
    rw [← e]
    exact leafF h hA ⟨rfl, l, pl, st, by unfold PopP; rw [hx]; exact ⟨rfl, rfl, rfl⟩, a, c, H.call hb⟩
  | some x =>
    have e : peekV l = .tuple #[.int .i64 x.1, .int .i64 x.2, .bool true] := by unfold peekV; rw [hx]
    refine at_callb hA (c18 H) fun w2 hA _ hb => ⟨_, _, _, by rw [e], brB (fun _ => ?_) (fun e => by cases e)⟩
    have H := H.call hb
    refine at_hp hA H (c14 x.1 I H.entry) fun a1 c1 l1 pl1 st1 w1 hA _ _ hΦ H1 _ => ⟨_, rfl, ?_⟩
    rw [← e]
    exact leafF h hA ⟨rfl, l1, pl1, st1, by unfold PopP; rw [hx]; exact hΦ, a1, c1, H1⟩

/-- What falling due leaves. -/
structure DueP (now : Int) (l : List It) (st : Int) (d : List It) (l' pl' : List It) (st' : Int) : Prop where
  heap : Heap l'
  pl : PlOk l' pl'
  len : l'.length + d.length ≤ l.length
  srt : d.Pairwise ahead
  due : ∀ y, y ∈ d ↔ y ∈ l ∧ y.2 ≤ now
  rest : ∀ y, y ∈ l' ↔ y ∈ l ∧ ¬ y.2 ≤ now
  st0 : st ≤ st'
  st1 : st' ≤ st + (d.length : Int) * (2 * lev (l.length - 1) : Nat)

theorem c15 (now : Int) (I : Inv l pl st) (hl : l.length ≤ 1000) (hst : st < 1152921504606846976) (H : HpR W (fpH g a r) [] W g a c r l pl st) :
    RetF Try.prog 15 #[hpV g, .int .i64 now] W (fpH g a r) (fun v W' => ∃ d : List It, OwnF W (fpH g a r) [] W' 2 1 inE v (d.map (·.1)) ∧ ∃ l' pl' st', DueP now l st d l' pl' st' ∧ HpPost W g a r W' l' pl' st') := by
  intro R h
  refine f15_calls _ _ W R ?_
  unfold f15_vc
  have hA : AtF W (fpH g a r) [] W := AtF.refl W _
  have i2 := I.st0
  have hlev := lev_le (l.length - 1)
  have hpk : ∀ l : List It, ∃ x y b, peekV l = .tuple #[.int .i64 x, .int .i64 y, .bool b] := fun l => by
    unfold peekV
    split
    · exact ⟨_, _, _, rfl⟩
    · exact ⟨_, _, _, rfl⟩
  obtain ⟨x3, x4, b5, e0⟩ := hpk l
  refine at_callb hA (c18 H) fun w2 hA _ hb => ⟨_, _, _, by rw [e0], ?_⟩
  have H := H.call hb
  refine ⟨fun v W' => AtF W (fpH g a r) [] W' ∧ ∃ (d : List It) (a' : Option Addr) (c' : Nat) (lc plc : List It) (sc : Int), OwnF W (fpH g a r) [] W' 2 1 inE (.slice v.1.1 v.1.2.1 v.1.2.2) (d.map (·.1)) ∧ HpR W (fpH g a r) [] W' g a' c' r lc plc sc ∧ Heap lc ∧ PlOk lc plc ∧ lc.length + d.length ≤ l.length ∧ d.Pairwise ahead ∧ (∀ y ∈ d, y.2 ≤ now) ∧ (∀ y, y ∈ l ↔ y ∈ lc ∨ y ∈ d) ∧ (∀ x ∈ d, ∀ y ∈ lc, ahead x y) ∧ st ≤ sc ∧ sc ≤ st + (d.length : Int) * (2 * lev (l.length - 1) : Nat) ∧ peekV lc = .tuple #[.int .i64 v.2.1, .int .i64 v.2.2.1, .bool v.2.2.2.1], fun v _ => l.length - v.1.2.1, ⟨hA, [], a, c, l, pl, st, OwnF.nil, H, I.heap, I.pl, by simp, by simp, by simp, by simp, by simp, by omega, by simp, e0⟩, ?_⟩
  rintro a8 n9 n10 x11 x12 b13 w14 ⟨hA, d, a', c', lc, plc, sc, ho, H, hH, hP, hlen, hsr, hdn, hmem, hdl, h0, h1, hpk2⟩
  simp only at ho hpk2
  obtain ⟨_, _, hv, _⟩ := ho.slice (fun _ _ => rfl)
  cases hv
  rw [List.length_map] at *
  have hmul : d.length * (2 * lev (l.length - 1)) ≤ 1000 * 2000 := Nat.mul_le_mul (by omega) (by omega)
  have hcast : (d.length : Int) * ((2 * lev (l.length - 1) : Nat) : Int) = ((d.length * (2 * lev (l.length - 1)) : Nat) : Int) := (Int.natCast_mul _ _).symm
  have done : (∀ y ∈ lc, ¬ y.2 ≤ now) → R (.returned (.slice a8 d.length n10)) w14 := fun hno => by
    refine leafF h hA ⟨d, ho, lc, plc, sc, ⟨hH, hP, hlen, hsr, fun y => ⟨fun hy => ⟨(hmem y).2 (.inr hy), hdn y hy⟩, fun hy => ((hmem y).1 hy.1).resolve_left fun e => hno y e hy.2⟩, fun y => ⟨fun hy => ⟨(hmem y).2 (.inl hy), hno y hy⟩, fun hy => ((hmem y).1 hy.1).resolve_right fun e => hy.2 (hdn y e)⟩, h0, h1⟩, a', c', H⟩
  cases hx : lc[0]? with
  | none =>
    have : lc = [] := List.eq_nil_of_length_eq_zero (by have := List.getElem?_eq_none_iff.1 hx; omega)
    have e : peekV lc = .tuple #[.int .i64 0, .int .i64 0, .bool false] := by unfold peekV; rw [hx]
    rw [e] at hpk2
    cases hpk2
    exact brB (fun e => by cases e) (fun _ => done (by rw [this]; simp))
  | some x =>
    have e : peekV lc = .tuple #[.int .i64 x.1, .int .i64 x.2, .bool true] := by unfold peekV; rw [hx]
    rw [e] at hpk2
    cases hpk2
    have hxm : x ∈ lc := List.mem_of_getElem? hx
    have hlc := (List.getElem?_eq_some_iff.1 hx).1
    have top := heap_top hH hx
    refine brB (fun _ => brD (fun hle => ?_) (fun hgt => done fun y hy hyn => ?_)) (fun e => by cases e)
    · have dis : ∀ {W' : World} {a8 : Option Addr} {n c1 c2 : Nat} {a' : Option Addr} {lc plc : List It} {sc : Int} {d : List Int}, OwnF W (fpH g a r) [] W' 2 1 inE (.slice a8 n c1) d → HpR W (fpH g a r) [] W' g a' c2 r lc plc sc → ∀ k, (Value.slice a8 n c1).ownBlock = some k → ¬ fpH g a' r k := by
        intro W' a8 n c1 c2 a' lc plc sc d ho H k hk hf
        obtain ⟨cur, hc⟩ := ho.blk hk
        rcases hf with rfl | rfl | hb
        · exact cells_ne hc H.blk (by decide) rfl
        · obtain ⟨es, cl, hr, _⟩ := H.map.obj
          exact cells_map hc hr rfl
        · obtain ⟨cur2, hc2⟩ := H.items.blk (k := k) (by rw [← hb]; exact ownB)
          exact cells_ne hc hc2 (by decide) rfl
      refine opw_push0 (e' := 2) (bytes := 8) hA ho x.1 (by kernel_rfl) (by kernel_rfl) rfl (fun _ _ => rfl) (by simp [Value.oneCell']) (by rw [List.length_map]; omega) (by decide) fun a2 c2 w21 hA ho2 hg _ => ?_
      have H : HpR W (fpH g a r) [] w21 g a' c' r lc plc sc := H.keep fun b hb => hg.block b (H.lt b hb) fun e => dis ho H b e.symm hb
      refine at_hp hA H (c14 x.1 ⟨hH, hP, by omega, by omega, by omega⟩ H.entry) fun a3 c3 l3 pl3 st3 w26 hA _ hch hΦ H3 _ => ⟨_, rfl, ?_⟩
      have ho2 := ho2.chg hch (dis ho2 H)
      obtain ⟨x30, x31, b32, e3⟩ := hpk l3
      refine at_callb hA (c18 H3.entry) fun w29 hA _ hb => ⟨_, _, _, by rw [e3], ?_⟩
      obtain ⟨q1, q2, q3, q4, q5, q6, q7⟩ := hΦ
      have q7 := q7 ⟨x, hxm, rfl⟩
      have hlv := lev_mono (l.length - 1) (lc.length - 1) (by omega)
      have el : (List.map (·.1) d ++ [x.1]) = (d ++ [x]).map (·.1) := by simp
      rw [el] at ho2 ⊢
      refine ⟨⟨hA, d ++ [x], a3, c3, l3, pl3, st3, ho2.call hb, H3.call hb, q1, q2, by simp; omega, ?_, ?_, fun y => ?_, ?_, by omega, ?_, e3⟩, by simp; omega⟩
      · rw [List.pairwise_append]
        exact ⟨hsr, by simp, fun u hu v hv => by simp at hv; subst hv; exact hdl u hu v hxm⟩
      · intro y hy
        rcases List.mem_append.1 hy with hy | hy
        · exact hdn y hy
        · simp at hy; subst hy; exact hle
      · rw [hmem y, q4 y]
        constructor
        · rintro (hy | hy)
          · by_cases hyx : y.1 = x.1
            · have := hP.uniq hy hxm hyx
              subst this
              exact .inr (by simp)
            · exact .inl ⟨hy, hyx⟩
          · exact .inr (by simp [hy])
        · rintro (hy | hy)
          · exact .inl hy.1
          · rcases List.mem_append.1 hy with hy | hy
            · exact .inr hy
            · simp at hy; subst hy; exact .inl hxm
      · intro u hu y hy
        obtain ⟨hy1, hy2⟩ := (q4 y).1 hy
        rcases List.mem_append.1 hu with hu | hu
        · exact hdl u hu y hy1
        · simp at hu
          subst hu
          obtain ⟨q, hq⟩ := List.mem_iff_getElem?.1 hy1
          exact ahead_of_le (top q y hq) (Ne.symm hy2)
      · rw [List.length_append, List.length_singleton]
        have : ((d.length + 1 : Nat) : Int) * ((2 * lev (l.length - 1) : Nat) : Int) = (d.length : Int) * ((2 * lev (l.length - 1) : Nat) : Int) + ((2 * lev (l.length - 1) : Nat) : Int) := by
          rw [Int.natCast_add, Int.add_mul]; simp
        rw [this]
        omega
    · obtain ⟨q, hq⟩ := List.mem_iff_getElem?.1 hy
      have := top q y hq
      unfold le ahead at this
      omega
end Go.Vc.H

/- The sorted list that a heap is. No program in sight. -/
namespace Go.Vc.H
open Go Go.Vc

abbrev Srt (s : List It) : Prop := s.Pairwise ahead
theorem Srt.nodup {s : List It} (h : Srt s) : s.Nodup := h.imp fun hab e => by subst e; exact ahead_irrefl _ hab
theorem srt_ext {s t : List It} (hs : Srt s) (ht : Srt t) (h : ∀ y, y ∈ s ↔ y ∈ t) : s = t := by
  induction s generalizing t with
  | nil =>
    cases t with
    | nil => rfl
    | cons b t => exact absurd ((h b).2 (by simp)) (by simp)
  | cons a s ih =>
    cases t with
    | nil => exact absurd ((h a).1 (by simp)) (by simp)
    | cons b t =>
      have hs := List.pairwise_cons.1 hs
      have ht := List.pairwise_cons.1 ht
      have hab : a = b := by
        rcases List.mem_cons.1 ((h a).1 (by simp)) with e | hm
        · exact e
        · rcases List.mem_cons.1 ((h b).2 (by simp)) with e | hm2
          · exact e.symm
          · exact absurd (ahead_trans (ht.1 a hm) (hs.1 b hm2)) (ahead_irrefl _)
      subst hab
      rw [ih hs.2 ht.2 fun y => ?_]
      constructor
      · intro hy
        rcases List.mem_cons.1 ((h y).1 (by simp [hy])) with e | hm
        · subst e; exact absurd (hs.1 y hy) (ahead_irrefl _)
        · exact hm
      · intro hy
        rcases List.mem_cons.1 ((h y).2 (by simp [hy])) with e | hm
        · subst e; exact absurd (ht.1 y hy) (ahead_irrefl _)
        · exact hm

theorem PlOk.nodup {l pl : List It} (h : PlOk l pl) : l.Nodup := by
  rw [List.Nodup, List.pairwise_iff_getElem]
  intro i j hi hj hij e
  have := h.inj (List.getElem?_eq_getElem hi) (List.getElem?_eq_getElem hj) (by rw [e])
  omega
/-- A sorted list of a heap's items. -/
structure Rel (s l : List It) : Prop where
  srt : Srt s
  mem : ∀ y, y ∈ s ↔ y ∈ l
theorem Rel.len {s l pl : List It} (h : Rel s l) (hP : PlOk l pl) : s.length = l.length := ((List.perm_ext_iff_of_nodup h.srt.nodup hP.nodup).2 h.mem).length_eq
theorem Rel.top {s l pl : List It} (h : Rel s l) (hH : Heap l) (hP : PlOk l pl) : l[0]? = s[0]? := by
  have hlen := h.len hP
  cases s with
  | nil =>
    have : l = [] := List.eq_nil_of_length_eq_zero hlen.symm
    rw [this]
  | cons a s =>
    obtain ⟨x, hx⟩ : ∃ x, l[0]? = some x := ⟨_, List.getElem?_eq_getElem (by rw [← hlen]; simp)⟩
    rw [hx]
    simp only [List.getElem?_cons_zero]
    rcases List.mem_cons.1 ((h.mem x).2 (List.mem_of_getElem? hx)) with e | hm
    · rw [e]
    · obtain ⟨q, hq⟩ := List.mem_iff_getElem?.1 ((h.mem a).1 (by simp))
      exact absurd ((List.pairwise_cons.1 h.srt).1 x hm) (heap_top hH hx q a hq)
theorem Rel.uniq {s l pl : List It} (h : Rel s l) (hP : PlOk l pl) {x y : It} (hx : x ∈ s) (hy : y ∈ s) (e : x.1 = y.1) : x = y := hP.uniq ((h.mem x).1 hx) ((h.mem y).1 hy) e

theorem mem_dropR {k : Int} {s : List It} (y : It) : y ∈ dropR k s ↔ y ∈ s ∧ y.1 ≠ k := by simp [dropR]
theorem srt_dropR {k : Int} {s : List It} (h : Srt s) : Srt (dropR k s) := h.filter _
theorem mem_ins {x y : It} : ∀ {s : List It}, y ∈ ins x s ↔ y = x ∨ y ∈ s
  | [] => by simp [ins]
  | z :: t => by
    rw [ins]
    split
    · simp
    · rw [List.mem_cons, mem_ins, List.mem_cons]
      exact or_left_comm
theorem srt_ins {x : It} : ∀ {s : List It}, Srt s → (∀ y ∈ s, y.1 ≠ x.1) → Srt (ins x s)
  | [], _, _ => by simp [ins, Srt]
  | z :: t, h, hk => by
    have h' := List.pairwise_cons.1 h
    rw [ins]
    split
    · rename_i ha
      refine List.pairwise_cons.2 ⟨fun y hy => ?_, h⟩
      rcases List.mem_cons.1 hy with e | hm
      · rw [e]; exact ha
      · exact ahead_trans ha (h'.1 y hm)
    · rename_i hna
      refine List.pairwise_cons.2 ⟨fun y hy => ?_, srt_ins h'.2 fun y hy => hk y (by simp [hy])⟩
      rcases mem_ins.1 hy with e | hm
      · rw [e]; exact ahead_of_le hna (hk z (by simp))
      · exact h'.1 y hm
theorem Rel.put {s l l' : List It} {x : It} (h : Rel s l) (hm : ∀ y, y ∈ l' ↔ y = x ∨ (y ∈ l ∧ y.1 ≠ x.1)) : Rel (putR x s) l' :=
  ⟨srt_ins (srt_dropR h.srt) fun y hy => ((mem_dropR y).1 hy).2, fun y => by rw [putR, mem_ins, mem_dropR, hm, h.mem]⟩
theorem Rel.drop {s l l' : List It} {k : Int} (h : Rel s l) (hm : ∀ y, y ∈ l' ↔ y ∈ l ∧ y.1 ≠ k) : Rel (dropR k s) l' :=
  ⟨srt_dropR h.srt, fun y => by rw [mem_dropR, hm, h.mem]⟩
theorem Rel.pop {s l l' pl : List It} {x : It} (h : Rel (x :: s) l) (hP : PlOk l pl) (hm : ∀ y, y ∈ l' ↔ y ∈ l ∧ y.1 ≠ x.1) : Rel s l' := by
  have h' := List.pairwise_cons.1 h.srt
  refine ⟨h'.2, fun y => ?_⟩
  rw [hm, ← h.mem]
  constructor
  · intro hy
    refine ⟨by simp [hy], fun e => ?_⟩
    have : y = x := h.uniq hP (by simp [hy]) (by simp) e
    subst this
    exact ahead_irrefl _ (h'.1 y hy)
  · rintro ⟨hy, hne⟩
    rcases List.mem_cons.1 hy with e | hm
    · exact absurd (by rw [e]) hne
    · exact hm
theorem Rel.due {s l l' pl' d : List It} {now st st' : Int} (h : Rel s l) (hd : DueP now l st d l' pl' st') : Rel (dueR now s) l' ∧ dueK now s = d.map (·.1) := by
  refine ⟨⟨h.srt.filter _, fun y => ?_⟩, ?_⟩
  · rw [hd.rest, ← h.mem]; simp [dueR]
  · have : s.filter (fun x => decide (x.2 ≤ now)) = d := srt_ext (h.srt.filter _) hd.srt fun y => by
      rw [hd.due, ← h.mem]; simp
    rw [dueK, this]
/-- Where the sorted list has a key. -/
theorem plc_cases (k : Int) : ∀ (s : List It), (plc k s = -1 ∧ ∀ y ∈ s, y.1 ≠ k) ∨ ∃ (i : Nat) (t : Int), plc k s = i ∧ s[i]? = some (k, t)
  | [] => .inl ⟨rfl, by simp⟩
  | x :: s => by
    rw [plc]
    by_cases hx : x.1 = k
    · rw [if_pos hx]
      exact .inr ⟨0, x.2, rfl, by subst hx; rfl⟩
    · rw [if_neg hx]
      rcases plc_cases k s with ⟨e, hn⟩ | ⟨i, t, e, hi⟩
      · rw [e, if_pos (by decide)]
        exact .inl ⟨rfl, fun y hy => by rcases List.mem_cons.1 hy with e | hm
                                        · rw [e]; exact hx
                                        · exact hn y hm⟩
      · rw [e, if_neg (by omega)]
        exact .inr ⟨i + 1, t, rfl, by simpa using hi⟩
theorem Rel.there {s l pl : List It} {k : Int} (h : Rel s l) (hP : PlOk l pl) : (mget k pl).isSome = decide (plc k s ≥ 0) := by
  rcases plc_cases k s with ⟨e, hn⟩ | ⟨i, t, e, hi⟩
  · rw [e, decide_eq_false (by decide)]
    cases hm : mget k pl with
    | none => rfl
    | some v =>
      obtain ⟨i, t, _, hi⟩ := hP.some_of hm
      exact absurd rfl (hn (k, t) ((h.mem _).2 (List.mem_of_getElem? hi)))
  · rw [e, decide_eq_true (by omega)]
    cases hm : mget k pl with
    | some v => rfl
    | none => exact absurd rfl (hP.none_of hm (k, t) ((h.mem _).1 (List.mem_of_getElem? hi)))
end Go.Vc.H

/- Own text of this claim: Hp9. -/
set_option maxRecDepth 20000
namespace Go.Vc.H
open Go Go.Vc Go.RowKit Go.Proofs Vcc

variable {w W W' : World} {M : Nat → Prop} {gs : List Nat} {g c r : Nat} {a : Option Addr} {l pl s : List It} {st : Int}

/-- A sorted list in a row of the reference's own type. -/
def RefL (W : World) (s : List It) (a : Option Addr) (n c : Nat) : Prop := SlE W 2 itE s a n c ∧ ∀ b, a = some b → ∃ cur, W.heap[b.block]? = some (.cells cur 48 (0, 0))
theorem RefL.of {n c : Nat} {a : Option Addr} (h : OwnF w M gs W 48 2 itE (.slice a n c) s) : RefL W s a n c :=
  ⟨(h.sl (fun _ _ => rfl)), fun b hb => by subst hb; exact h.blk rfl⟩
theorem RefL.dis {n c2 : Nat} {a2 : Option Addr} (h : RefL W s a2 n c2) (H : HpR w M gs W g a c r l pl st) : ∀ b, a2 = some b → ¬ fpH g a r b.block := fun b hb hf => by
  obtain ⟨cur, hc⟩ := h.2 b hb
  rcases hf with hf | hf | hf
  · rw [hf] at hc; exact cells_ne hc H.blk (by decide) rfl
  · obtain ⟨es, cl, hr, _⟩ := H.map.obj
    rw [hf] at hc; exact cells_map hc hr rfl
  · obtain ⟨cur2, hc2⟩ := H.items.blk (k := b.block) (by rw [← hf]; exact ownB)
    exact cells_ne hc hc2 (by decide) rfl
theorem RefL.chg {n c2 : Nat} {a2 : Option Addr} {N : Nat → Prop} (h : RefL W s a2 n c2) (hc : Chg N W W') (hn : ∀ b, a2 = some b → ¬ N b.block) : RefL W' s a2 n c2 :=
  ⟨h.1.chg hc hn, fun b hb => by
    obtain ⟨cur, hcur⟩ := h.2 b hb
    exact ⟨cur, by rw [hc.block _ (Array.getElem?_eq_some_iff.1 hcur).1 (hn b hb)]; exact hcur⟩⟩
theorem RefL.call {n c2 : Nat} {a2 : Option Addr} (h : RefL W s a2 n c2) (hb : Bel W W') : RefL W' s a2 n c2 := h.chg (N := noB) (Chg.of_below hb) fun _ _ => id
theorem RefL.nil : RefL W [] none 0 0 := ⟨(OwnF.nil (w := W) (M := noB) (gs := []) (W := W) (e := 48) (size := 2) (f := itE)).sl (fun _ _ => rfl), fun _ h => by cases h⟩

theorem gives_rest {n c2 : Nat} {a2 : Option Addr} {x : It} (h : RefL W (x :: s) a2 n c2) : ∃ a', Gives Try.prog (Instr.sliceAt 41 (.slice a2 n c2) (some (.int .i64 1)) none none) (.slice a' (n - 1) (c2 - 1)) ∧ ∀ W' : World, RefL W' (x :: s) a2 n c2 → RefL W' s a' (n - 1) (c2 - 1) := by
  have hn : n = s.length + 1 := h.1.len_le.1
  obtain ⟨ad, rfl⟩ : ∃ ad, a2 = some ad := by
    obtain ⟨b, _, hb, _⟩ := h.1.at_ (i := 0) (x := x) rfl
    exact ⟨b, hb⟩
  obtain ⟨g1, hr⟩ := gives_fromX (P := Try.prog) (t := 41) (e := 48) (i := 1) (k := .i64) h.1 (by omega) (by kernel_rfl) (by kernel_rfl)
  refine ⟨_, g1, fun W' hW' => ⟨hr W' hW'.1, fun b hb => ?_⟩⟩
  obtain ⟨cur, hc⟩ := hW'.2 ad rfl
  refine ⟨cur, ?_⟩
  split at hb
  · cases hb; exact hc
  · cases hb; exact hc

theorem at_hpQ {P : Program} {f : FuncId} {args : Array Value} {Q : Value → World → List It → List It → Int → Prop} {K : Ending → World → Prop} (hA : AtF w M gs W) (h : HpR w M gs W g a c r l pl st)
    (hc : RetF P f args W (fpH g a r) (fun v W' => ∃ l' pl' st', Q v W' l' pl' st' ∧ HpPost W g a r W' l' pl' st'))
    (hK : ∀ v a' c' l' pl' st' W', AtF w M gs W' → Keeps gs W W' → Chg (fpH g a r) W W' → Q v W' l' pl' st' → HpR w M gs W' g a' c' r l' pl' st' → K (.returned v) W') : Calls P f args W K := by
  refine at_callF hA hc h.fp h.fpgs fun v W' hA' hk hch ⟨l', pl', st', hQ, a', c', h'⟩ => ?_
  exact hK v a' c' l' pl' st' W' hA' hk hch hQ (h.back hA h')

/-- What an act leaves. -/
structure DoesP (l : List It) (st : Int) (s' l' pl' : List It) (st' : Int) : Prop where
  heap : Heap l'
  pl : PlOk l' pl'
  len : l'.length ≤ l.length + 1
  rel : Rel s' l'
  st0 : st ≤ st'
  st1 : st' ≤ st + 2000000

theorem peek_rel (h : Rel s l) (hH : Heap l) (hP : PlOk l pl) : peekV l = peekV s := by unfold peekV; rw [h.top hH hP]

theorem c17 {n c2 : Nat} {a2 : Option Addr} (k key t : Int) (hH : Heap l) (hP : PlOk l pl) (hl : l.length ≤ 900) (hst : 0 ≤ st ∧ st < 1152921504606846976) (hr : Rel s l) (hs : RefL W s a2 n c2) (H : HpR W (fpH g a r) [] W g a c r l pl st) :
    RetF Try.prog 17 #[hpV g, .slice a2 n c2, .agg #[.int .i64 k, .int .i64 key, .int .i64 t]] W (fpH g a r) (fun v W' => ∃ l' pl' st', (∃ a' n' c' s', v = .tuple #[.slice a' n' c', .bool true] ∧ RefL W' s' a' n' c' ∧ DoesP l st s' l' pl' st') ∧ HpPost W g a r W' l' pl' st') := by
  intro R h
  refine f17_calls _ _ _ _ k key t W R ?_
  unfold f17_vc
  have hA : AtF W (fpH g a r) [] W := AtF.refl W _
  have hsl := hr.len hP
  have hn := hs.1.len_le.1
  have hlev := lev_le (l.length - 1)
  have I : Inv l pl st := ⟨hH, hP, by omega, hst.1, by omega⟩
  have hth := hr.there hP (k := key)
  refine go_n hA fun n1 hn1 => ?_
  refine brE (fun hk0 => ?_) (fun hk0 => brE (fun hk1 => ?_) (fun hk1 => brE (fun hk2 => ?_) (fun hk2 => ?_)))
  · refine go_below_too hA fun w2 hA hb => ?_
    have H := (H.more (gs' := [n1]) (by intro q hq _; simp at hq; omega)).call hb
    have hs := hs.call hb
    refine at_callb hA (c20 key w2 hs.1 (by omega)) fun w4 hA hk hb => ⟨_, rfl, hk, ?_⟩
    have H := H.call hb
    have hs := hs.call hb
    refine go_below_too hA fun w6 hA hb => ?_
    have H := H.call hb
    have hs := hs.call hb
    refine at_calll hA (c36 (key, t) w6 hs.1 (by omega)) (fun _ _ => rfl) fun a5 c5 w8 hA hk hb ho hs4 => ⟨_, _, _, rfl, hk, ?_⟩
    have H := H.call hb
    refine at_hp hA H (c10 key t I H.entry) fun a6 c6 l6 pl6 st6 w13 hA hk6 hch hΦ H6 _ => ⟨_, rfl, hk6, ?_⟩
    obtain ⟨q1, q2, q3, q4, q5, q6⟩ := hΦ
    have hlev6 := lev_le (l6.length - 1)
    have hR := RefL.of ho
    rw [hth]
    have e : ((!decide (plc key s ≥ 0)) == !decide (plc key s ≥ 0)) = true := by simp
    rw [e]
    exact leafF h hA ⟨l6, pl6, st6, ⟨_, _, _, _, rfl, hR.chg hch (hR.dis H), ⟨q1, q2, q3, hr.put q4, q5, by omega⟩⟩, _, _, H6.more (by simp)⟩
  · refine go_below_too hA fun w2 hA hb => ?_
    have H := (H.more (gs' := [n1]) (by intro q hq _; simp at hq; omega)).call hb
    have hs := hs.call hb
    refine at_calll hA (c37 key w2 hs.1 (by omega)) (fun _ _ => rfl) fun a5 c5 w8 hA hk hb ho hs4 => ⟨_, _, _, rfl, hk, ?_⟩
    have H := H.call hb
    have hs := hs.call hb
    have hR := RefL.of ho
    refine at_hp hA H (c14 key I H.entry) fun a6 c6 l6 pl6 st6 w13 hA hk6 hch hΦ H6 _ => ⟨_, rfl, hk6, ?_⟩
    have hs := hs.chg hch (hs.dis H)
    have hR := hR.chg hch (hR.dis H)
    obtain ⟨q1, q2, q3, q4, q5, q6, q7⟩ := hΦ
    refine at_callb hA (c20 key w13 hs.1 (by omega)) fun w4 hA hk hb => ⟨_, rfl, hk, ?_⟩
    rw [hth]
    have e : (decide (plc key s ≥ 0) == decide (plc key s ≥ 0)) = true := by simp
    rw [e]
    exact leafF h hA ⟨l6, pl6, st6, ⟨_, _, _, _, rfl, hR.call hb, ⟨q1, q2, by omega, hr.drop q4, q5, by omega⟩⟩, _, _, (H6.call hb).more (by simp)⟩
  · refine go_below_too hA fun w2 hA hb => ?_
    have H := (H.more (gs' := [n1]) (by intro q hq _; simp at hq; omega)).call hb
    have hs := hs.call hb
    have hpr := peek_rel hr hH hP
    have htop := hr.top hH hP
    cases s with
    | nil =>
      have e : peekV l = .tuple #[.int .i64 0, .int .i64 0, .bool false] := hpr
      refine at_hp hA H (c11 I H.entry) fun a6 c6 l6 pl6 st6 w13 hA hk6 hch hΦ H6 _ => ⟨0, 0, false, by rw [e], hk6, brE (fun _ => brB (fun _ => brE (fun _ => ?_) (fun e => absurd rfl e)) (fun e => by cases e)) (fun e => absurd (by rw [hn]; rfl) e)⟩
      unfold PopP at hΦ
      rw [htop] at hΦ
      obtain ⟨e1, e2, e3⟩ := hΦ
      have e : ((0 : Int) == 0) = true := rfl
      rw [e]
      exact leafF h hA ⟨l6, pl6, st6, ⟨_, _, _, _, rfl, hs.chg hch (hs.dis H), ⟨by rw [e1]; exact hH, by rw [e1, e2]; exact hP, by rw [e1]; omega, by rw [e1]; exact hr, by omega, by omega⟩⟩, _, _, H6.more (by simp)⟩
    | cons x s =>
      have e : peekV l = .tuple #[.int .i64 x.1, .int .i64 x.2, .bool true] := hpr
      simp only [List.length_cons] at hn hsl
      refine at_hp hA H (c11 I H.entry) fun a6 c6 l6 pl6 st6 w13 hA hk6 hch hΦ H6 _ => ⟨_, _, _, by rw [e], hk6, brE (fun e => by omega) (fun _ => ?_)⟩
      have hs := hs.chg hch (hs.dis H)
      unfold PopP at hΦ
      rw [htop] at hΦ
      obtain ⟨q1, q2, q3, q4, q5, q6, q7⟩ := hΦ
      obtain ⟨a', g1, hrest⟩ := gives_rest hs
      obtain ⟨ad, g2, el, _⟩ := elt_at (P := Try.prog) (k := .i64) (t := 41) hs.1 (i := 0) (x := x) rfl (e := 48) (by kernel_rfl) (by kernel_rfl)
      refine ⟨_, _, _, g1, brB (fun _ => ?_) (fun e => by cases e)⟩
      refine ⟨ad, g2, _, el.one (by kernel_rfl) (by simp), brE (fun _ => ?_) (fun e => absurd rfl e)⟩
      refine ⟨ad, g2, _, (el.sub (o := 1) (by decide)).one (by kernel_rfl) (by simp), go_below_too hA fun w40 hA hb => ?_⟩
      have e : (x.2 == x.2) = true := by simp
      rw [e]
      exact leafF h hA ⟨l6, pl6, st6, ⟨_, _, _, _, rfl, hrest _ (hs.call hb), ⟨q1, q2, by omega, hr.pop hP q4, q5, by omega⟩⟩, _, _, (H6.call hb).more (by simp)⟩
  · refine go_below_too hA fun w2 hA hb => ?_
    have H := (H.more (gs' := [n1]) (by intro q hq _; simp at hq; omega)).call hb
    have hs := hs.call hb
    refine at_callq hA (c38 t w2 hs.1 (by omega)) fun v w45 hA hk hb ⟨s1, s2, hv, ho1, ho2⟩ => ?_
    subst hv
    obtain ⟨a46, c46, rfl, _⟩ := ho1.slice (fun _ _ => rfl)
    obtain ⟨a49, c49, rfl, _⟩ := ho2.slice (fun _ _ => rfl)
    refine ⟨_, _, _, _, _, _, rfl, hk, ?_⟩
    have H := H.call hb
    have hR := RefL.of ho2
    have hc15 : RetF Try.prog 15 #[hpV g, .int .i64 t] w45 (fpH g a r) (fun v W' => ∃ l' pl' st', (∃ d : List It, OwnF w45 (fpH g a r) [] W' 2 1 inE v (d.map (·.1)) ∧ DueP t l st d l' pl' st') ∧ HpPost w45 g a r W' l' pl' st') := fun R k => c15 t I (by omega) hst.2 H.entry R fun v W' hc ⟨d, ho, l', pl', st', hd, hp⟩ => k v W' hc ⟨l', pl', st', ⟨d, ho, hd⟩, hp⟩
    refine at_hpQ hA H hc15 fun v a6 c6 l6 pl6 st6 w53 hA hk6 hch ⟨d, ho, hd⟩ H6 => ?_
    obtain ⟨a54, c54, rfl, _⟩ := ho.slice (fun _ _ => rfl)
    refine ⟨_, _, _, rfl, hk6, ?_⟩
    have hdl : d.length ≤ 900 := by have := hd.len; omega
    obtain ⟨hr', hdk⟩ := hr.due hd
    have ho1' : OwnF w2 noB [] w53 2 1 inE (.slice a46 (dueK t s).length c46) (dueK t s) := ho1.chg hch fun b hb hf => by
      obtain ⟨cur, hc⟩ := ho1.blk hb
      rcases hf with hf | hf | hf
      · rw [hf] at hc; exact cells_ne hc H.blk (by decide) rfl
      · obtain ⟨es, cl, hr, _⟩ := H.map.obj
        rw [hf] at hc; exact cells_map hc hr rfl
      · obtain ⟨cur2, hc2⟩ := H.items.blk (k := b) (by rw [← hf]; exact ownB)
        exact cells_ne hc hc2 (by decide) rfl
    refine at_callb hA (c39 w53 (ho.sl (fun _ _ => rfl)) (ho1'.sl (fun _ _ => rfl)) (by rw [List.length_map]; omega)) fun w58 hA hk hb => ⟨_, rfl, hk, ?_⟩
    rw [decide_eq_true hdk.symm]
    have hmul : d.length * (2 * lev (l.length - 1)) ≤ 1000 * 2000 := Nat.mul_le_mul (by omega) (by omega)
    have hcast : (d.length : Int) * ((2 * lev (l.length - 1) : Nat) : Int) = ((d.length * (2 * lev (l.length - 1)) : Nat) : Int) := (Int.natCast_mul _ _).symm
    have hst1 := hd.st1
    have hlen := hd.len
    exact leafF h hA ⟨l6, pl6, st6, ⟨_, _, _, _, rfl, (hR.chg hch (hR.dis H)).call hb, ⟨hd.heap, hd.pl, by omega, hr', hd.st0, by omega⟩⟩, _, _, (H6.call hb).more (by simp)⟩
end Go.Vc.H

/- Own text of this claim: HpW. -/
set_option maxRecDepth 20000
namespace Go.Vc.H
open Go Go.Vc Go.RowKit Go.Proofs Vcc

variable {w W W' : World} {M : Nat → Prop} {gs : List Nat} {g c r : Nat} {a : Option Addr} {l pl s : List It} {st : Int}

theorem rel_nil : Rel [] [] := ⟨List.Pairwise.nil, fun _ => Iff.rfl⟩
theorem heap_nil : Heap [] := fun c _ x y hx => by simp at hx

/-- A heap with its sorted list. -/
structure HpS (w W : World) (g : Nat) (s : List It) (st : Int) : Prop where
  ex : ∃ a c r l pl, HpR w noB [] W g a c r l pl st ∧ Heap l ∧ PlOk l pl ∧ Rel s l

theorem at_new {K : Ending → World → Prop} (hA : At w [] W) (hK : ∀ g W', At w [] W' → Bel W W' → HpS w W' g [] 0 → K (.returned (hpV g)) W') : Calls Try.prog 9 #[] W K :=
  at_callq hA (c9 W).retQ fun v W' hA' _ hb ⟨g, r, hv, H⟩ => by
    subst hv
    exact hK g W' hA' hb ⟨_, _, _, _, _, ⟨H.blk, .inl (Nat.le_trans hA.size (H.mine.resolve_right id)), H.apart, OwnF.nil, ⟨.inl (Nat.le_trans hA.size (H.map.mine.resolve_right id)), H.map.apart, H.map.obj⟩⟩, heap_nil, PlOk.nil, rel_nil⟩

theorem at_put {K : Ending → World → Prop} (k t : Int) (hA : At w [] W) (h : HpS w W g s st) (hs : s.length ≤ 900) (hst : 0 ≤ st ∧ st < 1152921504606846976)
    (hK : ∀ st' W', At w [] W' → Chg (fun b => w.heap.size ≤ b) W W' → HpS w W' g (putR (k, t) s) st' → st ≤ st' → st' ≤ st + 2 * lev ((putR (k, t) s).length - 1) → K (.returned (.bool !decide (plc k s ≥ 0))) W') : Calls Try.prog 10 #[hpV g, .int .i64 k, .int .i64 t] W K := by
  obtain ⟨a, c, r, l, pl, H, hH, hP, hr⟩ := h.ex
  have hl := hr.len hP
  refine at_hp hA H (c10 k t ⟨hH, hP, by omega, hst.1, by omega⟩ H.entry) fun a' c' l' pl' st' W' hA' _ hch hΦ H' _ => ?_
  obtain ⟨q1, q2, q3, q4, q5, q6⟩ := hΦ
  have hr' := hr.put (x := (k, t)) q4
  rw [hr.there hP]
  refine hK st' W' hA' (hch.mono fun b hb hf => (H.fp b hb hf).resolve_right id) ⟨_, _, _, _, _, H', q1, q2, hr'⟩ q5 ?_
  rw [hr'.len q2]
  exact q6
theorem at_drop {K : Ending → World → Prop} (k : Int) (hA : At w [] W) (h : HpS w W g s st) (hs : s.length ≤ 900) (hst : 0 ≤ st ∧ st < 1152921504606846976)
    (hK : ∀ st' W', At w [] W' → Chg (fun b => w.heap.size ≤ b) W W' → HpS w W' g (dropR k s) st' → st ≤ st' → st' ≤ st + 2 * lev (s.length - 1) → K (.returned (.bool (decide (plc k s ≥ 0)))) W') : Calls Try.prog 14 #[hpV g, .int .i64 k] W K := by
  obtain ⟨a, c, r, l, pl, H, hH, hP, hr⟩ := h.ex
  have hl := hr.len hP
  refine at_hp hA H (c14 k ⟨hH, hP, by omega, hst.1, by omega⟩ H.entry) fun a' c' l' pl' st' W' hA' _ hch hΦ H' _ => ?_
  obtain ⟨q1, q2, q3, q4, q5, q6, _⟩ := hΦ
  rw [hr.there hP]
  refine hK st' W' hA' (hch.mono fun b hb hf => (H.fp b hb hf).resolve_right id) ⟨_, _, _, _, _, H', q1, q2, hr.drop q4⟩ q5 ?_
  rw [hl]
  exact q6
theorem at_pop {K : Ending → World → Prop} (hA : At w [] W) (h : HpS w W g s st) (hs : s.length ≤ 900) (hst : 0 ≤ st ∧ st < 1152921504606846976)
    (hK : ∀ st' W', At w [] W' → Chg (fun b => w.heap.size ≤ b) W W' → HpS w W' g s.tail st' → st ≤ st' → st' ≤ st + 2 * lev (s.length - 1) → K (.returned (peekV s)) W') : Calls Try.prog 11 #[hpV g] W K := by
  obtain ⟨a, c, r, l, pl, H, hH, hP, hr⟩ := h.ex
  have hl := hr.len hP
  refine at_hp hA H (c11 ⟨hH, hP, by omega, hst.1, by omega⟩ H.entry) fun a' c' l' pl' st' W' hA' _ hch hΦ H' _ => ?_
  rw [peek_rel hr hH hP]
  unfold PopP at hΦ
  rw [hr.top hH hP] at hΦ
  cases s with
  | nil =>
    obtain ⟨e1, e2, e3⟩ := hΦ
    exact hK st' W' hA' (hch.mono fun b hb hf => (H.fp b hb hf).resolve_right id) ⟨_, _, _, _, _, H', by rw [e1]; exact hH, by rw [e1, e2]; exact hP, by rw [e1]; exact hr⟩ (by omega) (by omega)
  | cons x s =>
    obtain ⟨q1, q2, q3, q4, q5, q6, _⟩ := hΦ
    refine hK st' W' hA' (hch.mono fun b hb hf => (H.fp b hb hf).resolve_right id) ⟨_, _, _, _, _, H', q1, q2, hr.pop hP q4⟩ q5 ?_
    rw [hl]
    exact q6
theorem at_long {K : Ending → World → Prop} (hA : At w [] W) (h : HpS w W g s st)
    (hK : ∀ W', At w [] W' → Bel W W' → HpS w W' g s st → K (.returned (.int .i64 (s.length : Int))) W') : Calls Try.prog 13 #[hpV g] W K := by
  obtain ⟨a, c, r, l, pl, H, hH, hP, hr⟩ := h.ex
  refine at_callb hA (c13 H.entry) fun W' hA' _ hb => ?_
  rw [← hr.len hP]
  exact hK W' hA' hb ⟨_, _, _, _, _, H.call hb, hH, hP, hr⟩
theorem at_peek {K : Ending → World → Prop} (hA : At w [] W) (h : HpS w W g s st)
    (hK : ∀ W', At w [] W' → Bel W W' → HpS w W' g s st → K (.returned (peekV s)) W') : Calls Try.prog 18 #[hpV g] W K := by
  obtain ⟨a, c, r, l, pl, H, hH, hP, hr⟩ := h.ex
  refine at_callb hA (c18 H.entry) fun W' hA' _ hb => ?_
  rw [peek_rel hr hH hP]
  exact hK W' hA' hb ⟨_, _, _, _, _, H.call hb, hH, hP, hr⟩
theorem at_steps {K : Ending → World → Prop} (hA : At w [] W) (h : HpS w W g s st)
    (hK : ∀ W', At w [] W' → Bel W W' → HpS w W' g s st → K (.returned (.int .i64 st)) W') : Calls Try.prog 16 #[hpV g] W K := by
  obtain ⟨a, c, r, l, pl, H, hH, hP, hr⟩ := h.ex
  refine at_callb hA (c16 H.entry) fun W' hA' _ hb => ?_
  exact hK W' hA' hb ⟨_, _, _, _, _, H.call hb, hH, hP, hr⟩
/-- A key's time, by the sorted list. -/
def atS (k : Int) (s : List It) : Value := if plc k s < 0 then .tuple #[.int .i64 0, .bool false] else .tuple #[.int .i64 ((s[(plc k s).toNat]?).getD (0, 0)).2, .bool true]
theorem at_at {K : Ending → World → Prop} (k : Int) (hA : At w [] W) (h : HpS w W g s st)
    (hK : ∀ W', At w [] W' → Bel W W' → HpS w W' g s st → K (.returned (atS k s)) W') : Calls Try.prog 19 #[hpV g, .int .i64 k] W K := by
  obtain ⟨a, c, r, l, pl, H, hH, hP, hr⟩ := h.ex
  refine at_callb hA (c19 k hP H.entry) fun W' hA' _ hb => ?_
  have e : atV k l pl = atS k s := by
    have hth := hr.there hP (k := k)
    unfold atV atS
    rcases plc_cases k s with ⟨e, hn⟩ | ⟨i, t, e, hi⟩
    · rw [e] at hth
      rw [e, if_pos (by decide)]
      cases hm : mget k pl with
      | none => rfl
      | some v => rw [hm] at hth; cases hth
    · rw [e] at hth
      rw [e, if_neg (by omega)]
      cases hm : mget k pl with
      | none => rw [hm, decide_eq_true (by omega)] at hth; cases hth
      | some v =>
        obtain ⟨j, t2, rfl, hj⟩ := hP.some_of hm
        have := hr.uniq hP (List.mem_of_getElem? hi) ((hr.mem _).2 (List.mem_of_getElem? hj)) rfl
        cases this
        simp [hi, hj]
  rw [e]
  exact hK W' hA' hb ⟨_, _, _, _, _, H.call hb, hH, hP, hr⟩

theorem lev1 : lev 0 = 0 := lev_zero
theorem c12 (w : World) : Ret Try.prog 12 #[] w (.bool true) := by
  intro R h
  refine f12_calls w R ?_
  unfold f12_vc
  refine at_new (At.refl w) fun g W hA _ H => ⟨_, rfl, ?_⟩
  have p1 : putR (7, 30) [] = [(7, 30)] := rfl
  have p2 : putR (8, 20) [(7, 30)] = [(8, 20), (7, 30)] := by decide
  have p3 : putR (7, 10) [(8, 20), (7, 30)] = [(7, 10), (8, 20)] := by decide
  refine at_put 7 30 hA H (by decide) (by decide) fun st1 W hA _ H h1 h2 => ⟨_, rfl, ?_⟩
  have hl := lev_le 1
  rw [p1] at H h2
  simp [lev_zero] at h2
  refine at_put 8 20 hA H (by decide) (by omega) fun st2 W hA _ H h3 h4 => ⟨_, rfl, ?_⟩
  rw [p2] at H h4
  simp at h4
  refine at_put 7 10 hA H (by decide) (by omega) fun st3 W hA _ H h5 h6 => ⟨_, rfl, ?_⟩
  rw [p3] at H h6
  simp at h6
  refine at_pop hA H (by decide) (by omega) fun st4 W hA _ H _ _ => ⟨7, 10, true, rfl, ?_⟩
  refine brB (fun _ => brB (fun _ => ⟨fun _ => brE (fun _ => brE (fun _ => brB (fun _ => ?_) (fun e => by cases e)) (fun e => absurd rfl e)) (fun e => absurd rfl e), (fun e => absurd e (by decide))⟩) (fun e => absurd e (by decide))) (fun e => absurd e (by decide))
  exact at_long hA H fun W hA _ _ => ⟨_, rfl, leaf h hA rfl⟩
end Go.Vc.H

/- Keys put in one after another. No program in sight. -/
namespace Go.Vc.H
open Go Go.Vc

def bl (K T : Nat → Int) : Nat → List It
  | 0 => []
  | i + 1 => putR (K i, T i) (bl K T i)
def fv (K T : Nat → Int) (k : Int) : Nat → Option Int
  | 0 => none
  | i + 1 => if K i = k then some (T i) else fv K T k i
def ct (K : Nat → Int) : Nat → Nat
  | 0 => 0
  | i + 1 => ct K i + if ∀ q, q < i → K q ≠ K i then 1 else 0
theorem ct_le (K : Nat → Int) : ∀ i, ct K i ≤ i
  | 0 => Nat.le_refl _
  | i + 1 => by
    have := ct_le K i
    rw [ct]
    split <;> omega
theorem mem_bl {K T : Nat → Int} {k t : Int} : ∀ {i : Nat}, (k, t) ∈ bl K T i ↔ fv K T k i = some t
  | 0 => by simp [bl, fv]
  | i + 1 => by
    rw [bl, fv, putR, mem_ins, mem_dropR, mem_bl]
    by_cases h : K i = k
    · subst h
      rw [if_pos rfl]
      simp
      exact eq_comm
    · rw [if_neg h]
      constructor
      · rintro (e | e)
        · cases e; exact absurd rfl h
        · exact e.1
      · intro e
        exact .inr ⟨e, fun e => h e.symm⟩
theorem srt_bl {K T : Nat → Int} : ∀ i, Srt (bl K T i)
  | 0 => List.Pairwise.nil
  | i + 1 => srt_ins (srt_dropR (srt_bl i)) fun y hy => ((mem_dropR y).1 hy).2
theorem fv_some {K T : Nat → Int} {k : Int} : ∀ {i : Nat}, (∃ t, fv K T k i = some t) ↔ ∃ q, q < i ∧ K q = k
  | 0 => by simp [fv]
  | i + 1 => by
    rw [fv]
    by_cases h : K i = k
    · rw [if_pos h]
      exact ⟨fun _ => ⟨i, by omega, h⟩, fun _ => ⟨_, rfl⟩⟩
    · rw [if_neg h, fv_some]
      constructor
      · rintro ⟨q, hq, e⟩
        exact ⟨q, by omega, e⟩
      · rintro ⟨q, hq, e⟩
        refine ⟨q, ?_, e⟩
        have : q ≠ i := fun e2 => h (e2 ▸ e)
        omega
abbrev Nk (s : List It) : Prop := (s.map (·.1)).Nodup
theorem nk_drop {k : Int} {s : List It} (h : Nk s) : Nk (dropR k s) := h.sublist ((List.filter_sublist).map _)
theorem nk_ins {x : It} : ∀ {s : List It}, Nk s → (∀ y ∈ s, y.1 ≠ x.1) → Nk (ins x s)
  | [], _, _ => by simp [ins, Nk]
  | z :: t, h, hk => by
    rw [ins]
    split
    · simp only [Nk, List.map_cons, List.nodup_cons] at h ⊢
      refine ⟨fun hm => ?_, h⟩
      rcases List.mem_cons.1 hm with e | hm
      · exact hk z (by simp) e.symm
      · obtain ⟨y, hy, e⟩ := List.mem_map.1 hm
        exact hk y (by simp [hy]) e
    · simp only [Nk, List.map_cons, List.nodup_cons] at h ⊢
      refine ⟨fun hm => ?_, nk_ins h.2 fun y hy => hk y (by simp [hy])⟩
      obtain ⟨y, hy, e⟩ := List.mem_map.1 hm
      rcases mem_ins.1 hy with e2 | hm
      · rw [e2] at e
        exact hk z (by simp) e.symm
      · exact h.1 (List.mem_map.2 ⟨y, hm, e⟩)
theorem len_ins {x : It} : ∀ (s : List It), (ins x s).length = s.length + 1
  | [] => rfl
  | z :: t => by
    rw [ins]
    split
    · rfl
    · rw [List.length_cons, len_ins t, List.length_cons]
theorem len_drop {k : Int} : ∀ {s : List It}, Nk s → (dropR k s).length = if ∃ y ∈ s, y.1 = k then s.length - 1 else s.length
  | [], _ => by simp [dropR]
  | z :: t, h => by
    simp only [Nk, List.map_cons, List.nodup_cons] at h
    have ih := len_drop (k := k) h.2
    unfold dropR at ih ⊢
    rw [List.filter_cons]
    by_cases hz : z.1 = k
    · have hn : ¬ ∃ y ∈ t, y.1 = k := by
        rintro ⟨y, hy, e⟩
        exact h.1 (List.mem_map.2 ⟨y, hy, by rw [e, hz]⟩)
      rw [if_neg hn] at ih
      rw [if_neg (by simp [hz]), ih, if_pos ⟨z, by simp, hz⟩]
      simp
    · rw [if_pos (by simp [hz]), List.length_cons, ih]
      by_cases he : ∃ y ∈ t, y.1 = k
      · have : 0 < t.length := by obtain ⟨y, hy, _⟩ := he; exact List.length_pos_of_mem hy
        rw [if_pos he, if_pos (by obtain ⟨y, hy, e⟩ := he; exact ⟨y, by simp [hy], e⟩), List.length_cons]
        omega
      · rw [if_neg he, if_neg]
        · rfl
        · rintro ⟨y, hy, e⟩
          rcases List.mem_cons.1 hy with e2 | hm
          · exact hz (e2 ▸ e)
          · exact he ⟨y, hm, e⟩
theorem nk_bl {K T : Nat → Int} : ∀ i, Nk (bl K T i)
  | 0 => by simp [bl, Nk]
  | i + 1 => nk_ins (nk_drop (nk_bl i)) fun y hy => ((mem_dropR y).1 hy).2
theorem len_bl {K T : Nat → Int} : ∀ i, (bl K T i).length = ct K i
  | 0 => rfl
  | i + 1 => by
    rw [bl, putR, len_ins, len_drop (nk_bl i), ct, len_bl i]
    by_cases h : ∀ q, q < i → K q ≠ K i
    · rw [if_pos h, if_neg]
      rintro ⟨y, hy, e⟩
      obtain ⟨q, hq, e2⟩ := fv_some.1 ⟨y.2, mem_bl.1 (show (y.1, y.2) ∈ bl K T i from hy)⟩
      exact h q hq (by rw [e2, e])
    · have : ∃ y ∈ bl K T i, y.1 = K i := by
        have : ∃ q, q < i ∧ K q = K i := by
          refine Classical.byContradiction fun hn => h fun q hq e => hn ⟨q, hq, e⟩
        obtain ⟨t, ht⟩ := fv_some (T := T).2 this
        exact ⟨(K i, t), mem_bl.2 ht, rfl⟩
      rw [if_neg h, if_pos this]
      have : 0 < (bl K T i).length := by obtain ⟨y, hy, _⟩ := this; exact List.length_pos_of_mem hy
      rw [len_bl i] at this
      omega

/-! ### Digits -/
def dg (n : Nat) : Nat := if n = 0 then 0 else dg (n / 2) + 1
termination_by n
theorem dg_pos {n : Nat} (h : 0 < n) : dg n = dg (n / 2) + 1 := by rw [dg, if_neg (by omega)]
theorem dg_zero : dg 0 = 0 := by unfold dg; rfl
theorem lev_dg (n : Nat) : lev n ≤ dg (n + 1) := by
  induction n using Nat.strongRecOn with
  | _ n ih =>
    rcases Nat.eq_zero_or_pos n with h0 | hp
    · subst h0; rw [lev_zero]; exact Nat.zero_le _
    · rw [lev_pos hp, dg_pos (by omega)]
      have := ih ((n - 1) / 2) (by omega)
      rw [show (n - 1) / 2 + 1 = (n + 1) / 2 by omega] at this
      omega
theorem dg_le (n : Nat) : dg n ≤ n := by
  induction n using Nat.strongRecOn with
  | _ n ih =>
    rcases Nat.eq_zero_or_pos n with h0 | hp
    · subst h0; rw [dg_zero]; exact Nat.le_refl _
    · rw [dg_pos hp]
      have := ih (n / 2) (by omega)
      omega
end Go.Vc.H

/- A map's entry made, then filled: two steps that are a set. -/
namespace Go.Vc
open Go Go.RowKit

section
variable {κ α : Type} {P : Program} {w W : World} {M : Nat → Prop} {gs : List Nat} {r : Nat} {kt : TypeId} {kf : κ → Value} {vf : α → Value} {m : List (κ × α)}

/-- An own map with an entry that is to be filled. -/
structure OwnE (w : World) (M : Nat → Prop) (gs : List Nat) (W : World) (r : Nat) (kf : κ → Value) (vf : α → Value) (m : List (κ × α)) (j : Nat) (k : κ) (stamp : Nat) : Prop where
  mine : w.heap.size ≤ r ∨ M r
  apart : r ∉ gs
  obj : ∃ (es : Array MapEntry) (clock : Nat), W.heap[r]? = some (.map es clock) ∧ EntR kf vf es.toList m ∧ (es.toList.map (·.born)).Nodup ∧ (∀ e ∈ es.toList, e.born < clock) ∧ ∃ e, es[j]? = some e ∧ e.born = stamp
  key : ∃ v, m[j]? = some (k, v)
theorem OwnE.lt {j : Nat} {k : κ} {stamp : Nat} (h : OwnE w M gs W r kf vf m j k stamp) : r < W.heap.size := by
  obtain ⟨es, clock, hr, _⟩ := h.obj
  exact (Array.getElem?_eq_some_iff.1 hr).1

theorem opw_mapEntry [DecidableEq κ] {t et : TypeId} {k : κ} {z : α} {K : Value → World → Prop} (Ko : KeyOk P kt kf) (ht : P.underlying t = some (.map kt et)) (hz : pureRun P (zeroValue et) = some (vf z)) (hA : AtF w M gs W) (ho : OwnM w M gs W r kf vf m)
    (h : ∀ w' m1 j v0 stamp, AtF w M gs w' → Keeps gs W w' → Chg (fun b => b = r) W w' → OwnE w M gs w' r kf vf m1 j k stamp → (∀ v, m1.set j (k, v) = mset k v m) → K (.tuple #[vf v0, .int .i64 (stamp : Int)]) w') : OpW P (valueS (Instr.mapEntry t (.map (some r)) (kf k))) W K := by
  have hl := ho.lt
  obtain ⟨es, clock, hr, he, hn, hb⟩ := ho.obj
  unfold OpW
  cases hm : midx k m with
  | none =>
    have hrun : (Instr.mapEntry t (.map (some r)) (kf k)).run P W = .ok (.tuple #[vf z, .int .i64 (clock : Int)]) { W with heap := W.heap.setIfInBounds r (.map (es.push { key := kf k, val := vf z, born := clock }) (clock + 1)) } := by
      unfold Instr.mapEntry
      rw [run_bind_ok (run_underlying ht W)]
      simp only
      rw [run_bind_ok (run_getObj_m hr)]
      simp only
      rw [run_bind_ok (Ko.chk false k W), run_bind_ok (findKey_run Ko k W he), hm]
      simp only [Option.bind_none]
      rw [run_bind_ok (pureRun_run hz W), run_bind_ok (run_setObj_m hr _)]
      rfl
    rw [run_valueS hrun]
    have hlen := EntR.len he
    refine h _ (m ++ [(k, z)]) m.length z clock (hA.setObjF ho.mine) (keeps_setObj ho.apart) chg_setObj ⟨ho.mine, ho.apart, ⟨_, _, setObj_heap hl _, ?_, ?_, ?_, ⟨{ key := kf k, val := vf z, born := clock }, ?_, rfl⟩⟩, ⟨z, by simp⟩⟩ fun v => by rw [mset_new hm]; simp
    · rw [Array.toList_push]
      unfold EntR at he ⊢
      rw [List.map_append, List.map_append, he]
      rfl
    · rw [Array.toList_push, List.map_append]
      refine List.nodup_append.2 ⟨hn, by simp, fun a ha b hb' => ?_⟩
      simp at hb'
      obtain ⟨e, hem, rfl⟩ := List.mem_map.1 ha
      have := hb e hem
      omega
    · intro e hem
      rw [Array.toList_push] at hem
      rcases List.mem_append.1 hem with h1 | h1
      · have := hb e h1; omega
      · simp at h1; subst h1; simp
    · rw [← hlen, Array.length_toList]; simp
  | some j =>
    obtain ⟨v0, hv0⟩ := midx_key hm
    obtain ⟨e0, he0, hk0, hv00⟩ := EntR.at_ he hv0
    have he0' : es[j]? = some e0 := by simpa using he0
    have hks : (Instr.keyThatStays (kf k) (kf k)).run P W = .ok (kf k) W := by
      unfold Instr.keyThatStays
      rw [if_pos (Ko.bits k)]
      rfl
    have hrun : (Instr.mapEntry t (.map (some r)) (kf k)).run P W = .ok (.tuple #[vf v0, .int .i64 (e0.born : Int)]) { W with heap := W.heap.setIfInBounds r (.map (es.modify j fun e => { e with key := kf k }) clock) } := by
      unfold Instr.mapEntry
      rw [run_bind_ok (run_underlying ht W)]
      simp only
      rw [run_bind_ok (run_getObj_m hr)]
      simp only
      rw [run_bind_ok (Ko.chk false k W), run_bind_ok (findKey_run Ko k W he), hm]
      simp only [Option.bind_some, hv0, Option.map_some, he0', Option.getD_some, hk0]
      rw [run_bind_ok hks, run_bind_ok (run_setObj_m hr _)]
      rfl
    have hmod : es.modify j (fun e => { e with key := kf k }) = es := by
      apply Array.ext_getElem?
      intro i
      rw [Array.getElem?_modify]
      split
      · rename_i hij
        subst hij
        rw [he0']
        simp only [Option.map_some, Option.some.injEq]
        rw [← hk0]
      · rfl
    rw [run_valueS hrun, hmod]
    exact h _ m j v0 e0.born (hA.setObjF ho.mine) (keeps_setObj ho.apart) chg_setObj ⟨ho.mine, ho.apart, ⟨_, _, setObj_heap hl _, he, hn, hb, ⟨e0, he0', rfl⟩⟩, ⟨v0, hv0⟩⟩ fun v => (mset_at hm).symm

theorem opw_entryStore {t : TypeId} {k : κ} {j stamp : Nat} {v : α} {K : Value → World → Prop} (hA : AtF w M gs W) (ho : OwnE w M gs W r kf vf m j k stamp)
    (h : ∀ w', AtF w M gs w' → Keeps gs W w' → Chg (fun b => b = r) W w' → OwnM w M gs w' r kf vf (m.set j (k, v)) → K undef w') : OpW P (skipS (Instr.entryStore t (.map (some r)) (.int .i64 (stamp : Int)) (vf v))) W K := by
  have hl := ho.lt
  obtain ⟨es, clock, hr, he, hn, hb, e0, he0, hst⟩ := ho.obj
  obtain ⟨v0, hv0⟩ := ho.key
  obtain ⟨e1, he1, hk1, _⟩ := EntR.at_ he hv0
  have he1' : es[j]? = some e1 := by simpa using he1
  rw [he0] at he1'
  cases he1'
  have hjl := (Array.getElem?_eq_some_iff.1 he0).1
  have hfind : es.findIdx? (fun e => (e.born : Int) == (stamp : Int)) = some j := by
    rw [Array.findIdx?_eq_some_iff_getElem]
    refine ⟨hjl, ?_, fun q hq => ?_⟩
    · have := (Array.getElem?_eq_some_iff.1 he0).2
      simp [this, hst]
    · have hql : q < es.size := by omega
      have h2 : (es.toList.map (·.born))[q]'(by simpa using hql) ≠ (es.toList.map (·.born))[j]'(by simpa using hjl) := (List.pairwise_iff_getElem.1 hn) q j (by simpa using hql) (by simpa using hjl) hq
      have h3 := (Array.getElem?_eq_some_iff.1 he0).2
      simp only [List.getElem_map, Array.getElem_toList, h3, hst] at h2
      simp only [beq_iff_eq]
      intro e
      exact h2 (by omega)
  have hrun : (Instr.entryStore t (.map (some r)) (.int .i64 (stamp : Int)) (vf v)).run P W = .ok () { W with heap := W.heap.setIfInBounds r (.map (es.modify j fun e => { e with val := vf v }) clock) } := by
    unfold Instr.entryStore
    simp only
    rw [run_bind_ok (run_getObj_m hr)]
    simp only
    have hi : (asInt (.int .i64 (stamp : Int))).run P W = .ok (stamp : Int) W := rfl
    rw [run_bind_ok hi]
    simp only [hfind]
    exact run_setObj_m hr _
  unfold OpW skipS
  rw [run_bind_ok hrun]
  refine h _ (hA.setObjF ho.mine) (keeps_setObj ho.apart) chg_setObj ⟨ho.mine, ho.apart, _, clock, setObj_heap hl _, ?_, ?_, ?_⟩
  · unfold EntR at he ⊢
    rw [List.map_set, ← he]
    apply List.ext_getElem?
    intro i
    simp only [List.getElem?_map, Array.getElem?_toList, Array.getElem?_modify, List.getElem?_set, List.length_map, Array.length_toList]
    by_cases hij : j = i
    · subst hij
      have h3 := (Array.getElem?_eq_some_iff.1 he0).2
      simp [hjl, h3, hk1]
    · simp [hij]
  · have : (es.modify j fun e => { e with val := vf v }).toList.map (·.born) = es.toList.map (·.born) := by
      apply List.ext_getElem?
      intro i
      simp only [List.getElem?_map, Array.getElem?_toList, Array.getElem?_modify]
      by_cases hij : j = i
      · subst hij; simp [he0]
      · simp [hij]
    rw [this]
    exact hn
  · intro e hem
    obtain ⟨i, hi⟩ := List.mem_iff_getElem?.1 hem
    simp only [Array.getElem?_toList, Array.getElem?_modify] at hi
    by_cases hij : j = i
    · subst hij
      simp [he0] at hi
      subst hi
      exact hb e0 (List.mem_of_getElem? (i := j) (by simpa using he0))
    · simp [hij] at hi
      exact hb e (List.mem_of_getElem? (i := i) (by simpa using hi))
end
end Go.Vc

/- A range over a map: its iterator, the next round, the entry. -/
namespace Go.Vc
open Go Go.RowKit

theorem EntR_split {κ α : Type} {kf : κ → Value} {vf : α → Value} {A B : List MapEntry} {e : MapEntry} {rest : List (κ × α)} (h : EntR kf vf (A ++ e :: B) rest) :
    ∃ r1 x r2, rest = r1 ++ x :: r2 ∧ EntR kf vf (A ++ B) (r1 ++ r2) ∧ e.key = kf x.1 ∧ e.val = vf x.2 := by
  unfold EntR at h
  rw [List.map_append, List.map_cons] at h
  obtain ⟨r1, r', rfl, h1, h2⟩ := List.map_eq_append_iff.1 h.symm
  obtain ⟨x, r2, rfl, h3, h4⟩ := List.map_eq_cons_iff.1 h2
  refine ⟨r1, x, r2, rfl, ?_, (Prod.mk.inj h3).1.symm, (Prod.mk.inj h3).2.symm⟩
  unfold EntR
  rw [List.map_append, List.map_append, h1, h4]

theorem leftOf_push {es : Array MapEntry} {seen : Array Nat} {A B : List MapEntry} {e : MapEntry} (hn : (es.toList.map (·.born)).Nodup) (h : (leftOf es seen).toList = A ++ e :: B) :
    (leftOf es (seen.push e.born)).toList = A ++ B := by
  have h1 : (leftOf es (seen.push e.born)).toList = ((leftOf es seen).toList).filter (fun x => x.born != e.born) := by
    unfold leftOf
    rw [Array.toList_filter, Array.toList_filter, List.filter_filter]
    congr 1
    funext x
    by_cases hx : x.born = e.born
    · simp [hx]
    · simp [hx]
  have h2 : ((A ++ e :: B).map (·.born)).Nodup := by
    rw [← h]
    unfold leftOf
    rw [Array.toList_filter]
    exact hn.sublist (List.filter_sublist.map _)
  rw [h1, h, List.filter_append, List.filter_cons]
  rw [List.map_append, List.map_cons, List.nodup_append] at h2
  obtain ⟨h3, h4, h5⟩ := h2
  rw [List.nodup_cons] at h4
  have eA : A.filter (fun x => x.born != e.born) = A := List.filter_eq_self.2 fun x hx => by
    have := h5 x.born (List.mem_map.2 ⟨x, hx, rfl⟩) e.born (List.mem_cons_self ..)
    simpa using this
  have eB : B.filter (fun x => x.born != e.born) = B := List.filter_eq_self.2 fun x hx => by
    have : x.born ≠ e.born := fun he => h4.1 (he ▸ List.mem_map.2 ⟨x, hx, rfl⟩)
    simpa using this
  rw [eA, eB]
  simp

section
variable {κ α : Type} {P : Program} {w W W' : World} {M N : Nat → Prop} {gs gs' ds : List Nat} {q r : Nat} {kf : κ → Value} {vf : α → Value} {m rest : List (κ × α)} {cur : Option (κ × α)}

/-- An iterator over a map: what is left to come, and the entry at hand. -/
structure Itr (w : World) (M : Nat → Prop) (gs : List Nat) (W : World) (q r : Nat) (kf : κ → Value) (vf : α → Value) (m rest : List (κ × α)) (cur : Option (κ × α)) : Prop where
  mine : w.heap.size ≤ q ∨ M q
  apart : q ∉ gs
  obj : ∃ (es : Array MapEntry) (clock since c0 : Nat) (seen : Array Nat), W.heap[r]? = some (.map es clock) ∧ EntR kf vf es.toList m ∧ (es.toList.map (·.born)).Nodup ∧ (∀ e ∈ es.toList, e.born < clock) ∧
    W.heap[q]? = some (.mapIter (some r) since seen c0) ∧ (∀ e ∈ es.toList, e.born < since) ∧ since ≤ c0 ∧ since ≤ clock ∧ EntR kf vf (leftOf es seen).toList rest ∧
    (∀ x, cur = some x → c0 = clock ∧ ∃ e ∈ es.toList, seen.back? = some e.born ∧ e.key = kf x.1 ∧ e.val = vf x.2)

theorem Itr.lts (h : Itr w M gs W q r kf vf m rest cur) : q < W.heap.size ∧ r < W.heap.size ∧ q ≠ r := by
  obtain ⟨es, clock, since, c0, seen, h1, _, _, _, h2, _⟩ := h.obj
  refine ⟨(Array.getElem?_eq_some_iff.1 h2).1, (Array.getElem?_eq_some_iff.1 h1).1, fun e => ?_⟩
  subst e
  rw [h1] at h2
  cases h2
theorem Itr.keep (h : Itr w M gs W q r kf vf m rest cur) (hq : W'.heap[q]? = W.heap[q]?) (hr : W'.heap[r]? = W.heap[r]?) : Itr w M gs W' q r kf vf m rest cur := by
  obtain ⟨es, clock, since, c0, seen, h1, h2, h3, h4, h5, h6⟩ := h.obj
  exact ⟨h.mine, h.apart, es, clock, since, c0, seen, by rw [hr]; exact h1, h2, h3, h4, by rw [hq]; exact h5, h6⟩
theorem Itr.chg (h : Itr w M gs W q r kf vf m rest cur) (hc : Chg N W W') (hq : ¬ N q) (hr : ¬ N r) : Itr w M gs W' q r kf vf m rest cur :=
  h.keep (hc.block q h.lts.1 hq) (hc.block r h.lts.2.1 hr)
theorem Itr.call (h : Itr w M gs W q r kf vf m rest cur) (hb : Bel W W') : Itr w M gs W' q r kf vf m rest cur := h.keep (hb.block h.lts.1) (hb.block h.lts.2.1)
theorem Itr.more (h : Itr w M gs W q r kf vf m rest cur) (hg : ∀ g ∈ gs', g ∉ gs → W.heap.size ≤ g) : Itr w M gs' W q r kf vf m rest cur :=
  ⟨h.mine, fun hr => by
    by_cases hk : q ∈ gs
    · exact h.apart hk
    · have := hg q hr hk
      have := h.lts.1
      omega, h.obj⟩
theorem Itr.evo (h : Itr w M gs W q r kf vf m rest cur) (hd : ∀ d ∈ ds, d ≠ q ∧ d ≠ r) (hb : Evo ds W W') : Itr w M gs W' q r kf vf m rest cur :=
  h.chg (Chg.of_evo hb) (fun hm => (hd q hm).1 rfl) (fun hm => (hd r hm).2 rfl)
theorem Itr.ownM (h : Itr w M gs W q r kf vf m rest cur) {w0 : World} {M0 : Nat → Prop} {gs0 : List Nat} (hm : w0.heap.size ≤ r ∨ M0 r) (ha : r ∉ gs0) : OwnM w0 M0 gs0 W r kf vf m := by
  obtain ⟨es, clock, since, c0, seen, h1, h2, h3, h4, _⟩ := h.obj
  exact ⟨hm, ha, es, clock, h1, h2, h3, h4⟩

/-- How many entries are left to come. -/
def itLeft (W : World) (q r : Nat) : Nat := match W.heap[q]?, W.heap[r]? with
  | some (.mapIter _ _ seen _), some (.map es _) => (leftOf es seen).size
  | _, _ => 0
theorem Itr.left (h : Itr w M gs W q r kf vf m rest cur) : itLeft W q r = rest.length := by
  obtain ⟨es, clock, since, c0, seen, h1, h2, h3, h4, h5, _, _, _, h6, _⟩ := h.obj
  unfold itLeft
  rw [h1, h5]
  simp only
  have := congrArg List.length h6
  simpa using this
theorem Itr.base {w' : World} {M' : Nat → Prop} (h : Itr w M gs W q r kf vf m rest cur) (hm : w'.heap.size ≤ q ∨ M' q) (ha : q ∉ gs') : Itr w' M' gs' W q r kf vf m rest cur := ⟨hm, ha, h.obj⟩
theorem Evo.bel (h : Evo ds W W') (hd : ∀ d ∈ ds, W.heap.size ≤ d) : Bel W W' := ⟨⟨h.os, h.tape, h.output, h.size, fun b hb => h.block b hb fun hm => by have := hd b hm; omega⟩, h.drawn⟩

theorem opw_range {t kt et : TypeId} {w0 : World} {M0 : Nat → Prop} {gs0 : List Nat} {K : Value → World → Prop} (ht : P.underlying t = some (.map kt et)) (hA : AtF w M gs W) (ho : OwnM w0 M0 gs0 W r kf vf m)
    (h : ∀ q w', W.heap.size = q → AtF w M gs w' → Keeps gs W w' → Bel W w' → Itr w M gs w' q r kf vf m m none → K (.pointer (some ⟨q, 0, none⟩)) w') : OpW P (valueS (Instr.range t (.map (some r)))) W K := by
  have hl := ho.lt
  obtain ⟨es, clock, hr, he, hn, hb⟩ := ho.obj
  unfold OpW
  rw [run_valueS (run_range_map (P := P) W t kt et r es clock ht hr)]
  refine h _ _ rfl (hA.call (below_alloc _)) (hA.keeps (below_alloc _)) (below_alloc _) ⟨.inl hA.size, fun hm => ?_, es, clock, clock, clock, #[], ?_, he, hn, hb, heap_alloc_new W _, hb, Nat.le_refl _, Nat.le_refl _, ?_, fun x hx => by cases hx⟩
  · have := hA.under _ hm
    omega
  · rw [heap_alloc_old W _ hl, hr]
  · have : leftOf es #[] = es := by unfold leftOf; simp
    rw [this]
    exact he

theorem opw_next {ty : TypeId} {K : Value → World → Prop} (hA : AtF w M gs W) (hi : Itr w M gs W q r kf vf m rest cur) (h0 : rest = [] → K (.tuple #[.bool false]) W)
    (h1 : ∀ x r1 r2 w', rest = r1 ++ x :: r2 → AtF w M gs w' → Keeps gs W w' → Chg (fun b => b = q) W w' → Itr w M gs w' q r kf vf m (r1 ++ r2) (some x) → K (.tuple #[.bool true, kf x.1, vf x.2]) w') :
    OpW P (valueS (Instr.next (.pointer (some ⟨q, 0, none⟩)) false ty)) W K := by
  have hlt := hi.lts
  obtain ⟨es, clock, since, c0, seen, e1, e2, e3, e4, e5, e6, e7, e8, e9, _⟩ := hi.obj
  rcases run_next_at (P := P) W ty q r since c0 seen es clock e5 e1 e6 e7 with ⟨hz, hrun⟩ | ⟨e, hel, w1, hw1, hrun⟩
  · unfold OpW
    rw [run_valueS hrun]
    refine h0 ?_
    have : (leftOf es seen).toList = [] := List.eq_nil_of_length_eq_zero (by simpa using hz)
    rw [this] at e9
    unfold EntR at e9
    exact List.map_eq_nil_iff.1 e9.symm
  · obtain ⟨A, B, hAB⟩ := List.append_of_mem hel
    have hps := leftOf_push e3 hAB
    rw [hAB] at e9
    obtain ⟨x, r1, r2, hr0, he0, hk, hv⟩ : ∃ x r1 r2, rest = r1 ++ x :: r2 ∧ EntR kf vf (A ++ B) (r1 ++ r2) ∧ e.key = kf x.1 ∧ e.val = vf x.2 := by
      obtain ⟨r1, x, r2, a, b, c, d⟩ := EntR_split e9
      exact ⟨x, r1, r2, a, b, c, d⟩
    have hmem : e ∈ es.toList := by
      unfold leftOf at hel
      rw [Array.toList_filter] at hel
      exact (List.mem_filter.1 hel).1
    have hh : w1.heap = W.heap ∧ w1.os = W.os ∧ w1.tape = W.tape ∧ w1.output = W.output ∧ W.drawn ≤ w1.drawn := by
      rcases hw1 with rfl | rfl
      · exact ⟨rfl, rfl, rfl, rfl, Nat.le_refl _⟩
      · exact ⟨rfl, rfl, rfl, rfl, Nat.le_succ _⟩
    obtain ⟨a1, a2, a3, a4, a5⟩ := hh
    have hch : Chg (fun b => b = q) W (Go.ChangeMaps.setBlock w1 q (.mapIter (some r) since (seen.push e.born) clock)) :=
      ⟨a2, a3, a4, by simp [Go.ChangeMaps.setBlock, a1], fun b _ hb => by simp [Go.ChangeMaps.setBlock, a1, Ne.symm hb], a5⟩
    unfold OpW
    rw [run_valueS hrun, hk, hv]
    refine h1 x r1 r2 _ hr0 (hA.step hch fun b _ hb => hb ▸ hi.mine) (hA.keepsC hch fun g hg hb => hi.apart (hb ▸ hg)) hch ⟨hi.mine, hi.apart, es, clock, since, clock, seen.push e.born, ?_, e2, e3, e4, ?_, e6, e8, e8, ?_, fun y hy => ?_⟩
    · rw [hch.block r hlt.2.1 (Ne.symm hlt.2.2), e1]
    · have : q < w1.heap.size := by rw [a1]; exact hlt.1
      simp [Go.ChangeMaps.setBlock, this]
    · rw [hps]; exact he0
    · cases hy
      exact ⟨rfl, e, hmem, by simp, hk, hv⟩

theorem opw_entry {x : κ × α} {K : Value → World → Prop} (hi : Itr w M gs W q r kf vf m rest (some x)) (h : K (.tuple #[kf x.1, vf x.2]) W) : OpW P (valueS (Instr.entry (.pointer (some ⟨q, 0, none⟩)))) W K := by
  obtain ⟨es, clock, since, c0, seen, e1, e2, e3, e4, e5, e6, e7, e8, e9, e10⟩ := hi.obj
  obtain ⟨rfl, e, hem, hback, hk, hv⟩ := e10 x rfl
  obtain ⟨s, rfl⟩ := Array.back?_eq_some_iff.1 hback
  unfold OpW
  rw [run_valueS (run_entry_at (P := P) W q r since s es c0 e e5 e1 hem e3), hk, hv]
  exact h
end
end Go.Vc

/- A heap with its sorted list and the blocks that are its own. -/
set_option maxRecDepth 20000
namespace Go.Vc.A
open Go Go.Vc Go.RowKit Go.Proofs Go.Vc.H Vcc

variable {w W W' : World} {M N F : Nat → Prop} {gs : List Nat} {g c r : Nat} {a : Option Addr} {l pl s : List It} {st : Int}

theorem HpR_gs (h : HpR w M [] W g a c r l pl st) (hg : ∀ x ∈ gs, ¬ fpH g a r x) : HpR w M gs W g a c r l pl st :=
  ⟨h.blk, h.mine, fun hx => hg g hx (.inl rfl), h.items.base h.items.mine (fun x hx hk => hg x hx (.inr (.inr (by rw [← hk]; exact ownB)))), ⟨h.map.mine, fun hx => hg r hx (.inr (.inl rfl)), h.map.obj⟩⟩
theorem HpR_nogs (h : HpR w M gs W g a c r l pl st) : HpR w M [] W g a c r l pl st :=
  ⟨h.blk, h.mine, by simp, h.items.base h.items.mine (by simp), ⟨h.map.mine, by simp, h.map.obj⟩⟩

/-- A heap, its sorted list, its blocks. -/
structure HpF (w : World) (M : Nat → Prop) (W : World) (g : Nat) (s : List It) (st : Int) (F : Nat → Prop) : Prop where
  ex : ∃ a c r l pl, HpR w M [] W g a c r l pl st ∧ Heap l ∧ PlOk l pl ∧ H.Rel s l ∧ F = fpH g a r

theorem HpF.lt (h : HpF w M W g s st F) : ∀ b, F b → b < W.heap.size := by
  obtain ⟨a, c, r, l, pl, H, _, _, _, rfl⟩ := h.ex
  exact H.lt
theorem HpF.mine (h : HpF w M W g s st F) : ∀ b, F b → w.heap.size ≤ b ∨ M b := fun b hb => by
  have hl := h.lt b hb
  obtain ⟨a, c, r, l, pl, H, _, _, _, rfl⟩ := h.ex
  exact H.fp b hl hb
theorem HpF.base {w' : World} {M' : Nat → Prop} (h : HpF w M W g s st F) (hm : ∀ b, F b → w'.heap.size ≤ b ∨ M' b) : HpF w' M' W g s st F := by
  obtain ⟨a, c, r, l, pl, H, h1, h2, h3, rfl⟩ := h.ex
  exact ⟨a, c, r, l, pl, ⟨H.blk, hm g (.inl rfl), H.apart, H.items.base (fun k hk => hm k (.inr (.inr (by rw [← hk]; exact ownB)))) (by simp), ⟨hm r (.inr (.inl rfl)), H.map.apart, H.map.obj⟩⟩, h1, h2, h3, rfl⟩
theorem HpF.keep (h : HpF w M W g s st F) (hc : ∀ b, F b → W'.heap[b]? = W.heap[b]?) : HpF w M W' g s st F := by
  obtain ⟨a, c, r, l, pl, H, h1, h2, h3, rfl⟩ := h.ex
  exact ⟨a, c, r, l, pl, H.keep hc, h1, h2, h3, rfl⟩
theorem HpF.chg (h : HpF w M W g s st F) (hc : Chg N W W') (hn : ∀ b, F b → ¬ N b) : HpF w M W' g s st F := h.keep fun b hb => hc.block b (h.lt b hb) (hn b hb)
theorem HpF.call (h : HpF w M W g s st F) (hb : Bel W W') : HpF w M W' g s st F := h.keep fun b hf => hb.block (h.lt b hf)

theorem at_newF {K : Ending → World → Prop} (hA : AtF w M gs W) (hK : ∀ g F W', AtF w M gs W' → Keeps gs W W' → Bel W W' → HpF w M W' g [] 0 F → (∀ b, F b → W.heap.size ≤ b) → K (.returned (hpV g)) W') : Calls Try.prog 9 #[] W K :=
  at_callq hA (c9 W).retQ fun v W' hA' hk hb ⟨g, r, hv, H⟩ => by
    subst hv
    refine hK g (fpH g none r) W' hA' hk hb ⟨_, _, _, _, _, ⟨H.blk, .inl (Nat.le_trans hA.size (H.mine.resolve_right id)), H.apart, OwnF.nil, ⟨.inl (Nat.le_trans hA.size (H.map.mine.resolve_right id)), H.map.apart, H.map.obj⟩⟩, heap_nil, PlOk.nil, rel_nil, rfl⟩ ?_
    rintro b (rfl | rfl | hb)
    · exact H.mine.resolve_right id
    · exact H.map.mine.resolve_right id
    · cases hb

theorem at_putF {K : Ending → World → Prop} (k t : Int) (hA : AtF w M gs W) (h : HpF w M W g s st F) (hgs : ∀ x ∈ gs, ¬ F x) (hs : s.length ≤ 900) (hst : 0 ≤ st ∧ st < 1152921504606846976)
    (hK : ∀ st' F' W', AtF w M gs W' → Keeps gs W W' → Chg F W W' → HpF w M W' g (putR (k, t) s) st' F' → (∀ b, F' b → F b ∨ W.heap.size ≤ b) → st ≤ st' → st' ≤ st + 2000 → K (.returned (.bool !decide (plc k s ≥ 0))) W') : Calls Try.prog 10 #[hpV g, .int .i64 k, .int .i64 t] W K := by
  obtain ⟨a, c, r, l, pl, H, hH, hP, hr, rfl⟩ := h.ex
  have hl := hr.len hP
  refine at_hp hA (HpR_gs H hgs) (c10 k t ⟨hH, hP, by omega, hst.1, by omega⟩ H.entry) fun a' c' l' pl' st' W' hA' hk hch hΦ H' hfp => ?_
  obtain ⟨q1, q2, q3, q4, q5, q6⟩ := hΦ
  have hr' := hr.put (x := (k, t)) q4
  rw [hr.there hP]
  refine hK st' _ W' hA' hk hch ⟨_, _, _, _, _, HpR_nogs H', q1, q2, hr', rfl⟩ (fun b hb => (hfp b hb).symm) q5 ?_
  have := lev_le (l'.length - 1)
  have h1 := hr'.len q2
  have h2 : (putR (k, t) s).length ≤ s.length + 1 := by
    rw [putR, len_ins]
    have := dropR_len k s
    simp only
    omega
  omega
theorem at_dropF {K : Ending → World → Prop} (k : Int) (hA : AtF w M gs W) (h : HpF w M W g s st F) (hgs : ∀ x ∈ gs, ¬ F x) (hs : s.length ≤ 900) (hst : 0 ≤ st ∧ st < 1152921504606846976)
    (hK : ∀ st' F' W', AtF w M gs W' → Keeps gs W W' → Chg F W W' → HpF w M W' g (dropR k s) st' F' → (∀ b, F' b → F b ∨ W.heap.size ≤ b) → st ≤ st' → st' ≤ st + 2000 → K (.returned (.bool (decide (plc k s ≥ 0)))) W') : Calls Try.prog 14 #[hpV g, .int .i64 k] W K := by
  obtain ⟨a, c, r, l, pl, H, hH, hP, hr, rfl⟩ := h.ex
  have hl := hr.len hP
  refine at_hp hA (HpR_gs H hgs) (c14 k ⟨hH, hP, by omega, hst.1, by omega⟩ H.entry) fun a' c' l' pl' st' W' hA' hk hch hΦ H' hfp => ?_
  obtain ⟨q1, q2, q3, q4, q5, q6, _⟩ := hΦ
  rw [hr.there hP]
  refine hK st' _ W' hA' hk hch ⟨_, _, _, _, _, HpR_nogs H', q1, q2, hr.drop q4, rfl⟩ (fun b hb => (hfp b hb).symm) q5 ?_
  have := lev_le (l.length - 1)
  omega
theorem HpF.peek (h : HpF w M W g s st F) : Ret Try.prog 18 #[hpV g] W (peekV s) := by
  obtain ⟨a, c, r, l, pl, H, hH, hP, hr, rfl⟩ := h.ex
  rw [← peek_rel hr hH hP]
  exact c18 H.entry
theorem HpF.at_ (k : Int) (h : HpF w M W g s st F) : Ret Try.prog 19 #[hpV g, .int .i64 k] W (atS k s) := by
  obtain ⟨a, c, r, l, pl, H, hH, hP, hr, rfl⟩ := h.ex
  have e : atV k l pl = atS k s := by
    have hth := hr.there hP (k := k)
    unfold atV atS
    rcases plc_cases k s with ⟨e, hn⟩ | ⟨i, t, e, hi⟩
    · rw [e] at hth
      rw [e, if_pos (by decide)]
      cases hm : mget k pl with
      | none => rfl
      | some v => rw [hm] at hth; cases hth
    · rw [e] at hth
      rw [e, if_neg (by omega)]
      cases hm : mget k pl with
      | none => rw [hm, decide_eq_true (by omega)] at hth; cases hth
      | some v =>
        obtain ⟨j, t2, rfl, hj⟩ := hP.some_of hm
        have := hr.uniq hP (List.mem_of_getElem? hi) ((hr.mem _).2 (List.mem_of_getElem? hj)) rfl
        cases this
        simp [hi, hj]
  rw [← e]
  exact c19 k hP H.entry
/-- Items' keys are apart. -/
theorem HpF.nk (h : HpF w M W g s st F) : Nk s := by
  obtain ⟨a, c, r, l, pl, H, hH, hP, hr, rfl⟩ := h.ex
  unfold Nk
  rw [List.Nodup, List.pairwise_map]
  refine (List.pairwise_iff_getElem.2 fun i j hi hj hij e => ?_)
  have h1 := hr.uniq hP (List.getElem_mem hi) (List.getElem_mem hj) e
  have h2 := (List.pairwise_iff_getElem.1 hr.srt) i j hi hj hij
  rw [h1] at h2
  exact ahead_irrefl _ h2
theorem HpF.srt (h : HpF w M W g s st F) : Srt s := by
  obtain ⟨a, c, r, l, pl, H, hH, hP, hr, rfl⟩ := h.ex
  exact hr.srt
end Go.Vc.A

