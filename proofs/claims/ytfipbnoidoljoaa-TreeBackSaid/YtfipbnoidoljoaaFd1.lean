/- The formulas of functions, printed by a program (VcTool.lean): each is what the generator's formula comes to, by the kernel's reckoning; whoever proves one has the function's contract. -/
import Derived.Test.YtfipbnoidoljoaaVcFn
import Derived.Test.YtfipbnoidoljoaaProg
set_option maxRecDepth 100000
set_option maxHeartbeats 1000000
set_option linter.unusedVariables false
namespace Vcd1
open Go Go.Vc Go.RowKit
/-! manciple/manciplelaw08.TreePlays$1 -/
def h11 : Hints := ⟨[], [], [], [], [], [], [], [], []⟩
def f11_vc (a : Int) (b : Int) (cap0 : Value) (w : World) (R : Ending → World → Prop) : Prop :=
 ∃ (x1 : Int),
 Reads Proofs.Try.prog [] (Instr.loadAt 3 cap0) w (Value.int IntKind.i64 x1) ∧
 Calls Proofs.Try.prog 12 #[Value.int IntKind.i64 x1, Value.int IntKind.i64 a, Value.int IntKind.i64 b] w fun (e2 : Ending) (w3 : World) =>
 ∃ (x4 : Int), e2 = Ending.returned (Value.int IntKind.i64 x4) ∧ R (Ending.returned (Value.int IntKind.i64 x4)) w3
theorem f11_eq (a : Int) (b : Int) (cap0 : Value) (w : World) (R : Ending → World → Prop) : (fnF Go.Proofs.Try.prog h11 Go.Proofs.Try.f11 [Value.int IntKind.i64 a, Value.int IntKind.i64 b, cap0] w R).den = f11_vc a b cap0 w R := by kernel_rfl
theorem f11_calls (a : Int) (b : Int) (cap0 : Value) (w : World) (R : Ending → World → Prop) (h : f11_vc a b cap0 w R) : Calls Go.Proofs.Try.prog 11 (List.toArray [Value.int IntKind.i64 a, Value.int IntKind.i64 b, cap0]) w R :=
 fn_sound (H := h11) (fn := Go.Proofs.Try.f11) (by kernel_rfl) (by kernel_rfl) (by kernel_rfl) ((f11_eq a b cap0 w R).mpr h)


/-! manciple/mancipleref08.Order -/
def h12 : Hints := ⟨[], [], [17, 27, 30, 9], [], [], [], [], [], []⟩
def f12_vc (m : Int) (a : Int) (b : Int) (w : World) (R : Ending → World → Prop) : Prop :=
 (decide (m > 1) = true →
 Calls Proofs.Try.prog 59 #[Value.int IntKind.i64 a, Value.int IntKind.i64 m] w fun (e1 : Ending) (w2 : World) =>
 ∃ (x3 : Int),
 e1 = Ending.returned (Value.int IntKind.i64 x3) ∧
 Calls Proofs.Try.prog 59 #[Value.int IntKind.i64 b, Value.int IntKind.i64 m] w2 fun (e4 : Ending) (w5 : World) =>
 ∃ (x6 : Int),
 e4 = Ending.returned (Value.int IntKind.i64 x6) ∧
 ((x3 != x6) = true →
 Calls Proofs.Try.prog 59 #[Value.int IntKind.i64 a, Value.int IntKind.i64 m] w5 fun (e7 : Ending) (w8 : World) =>
 ∃ (x9 : Int),
 e7 = Ending.returned (Value.int IntKind.i64 x9) ∧
 Calls Proofs.Try.prog 59 #[Value.int IntKind.i64 b, Value.int IntKind.i64 m] w8 fun (e10 : Ending) (w11 : World) =>
 ∃ (x12 : Int), e10 = Ending.returned (Value.int IntKind.i64 x12) ∧ R (Ending.returned (Value.int IntKind.i64 (IntKind.i64.wrap (x9 - x12)))) w11) ∧
 ((x3 != x6) = false →
 (decide (a < b) = true → R (Ending.returned (Value.int IntKind.i64 (-1))) w5) ∧
 (decide (a < b) = false → (decide (a > b) = true → R (Ending.returned (Value.int IntKind.i64 1)) w5) ∧ (decide (a > b) = false → R (Ending.returned (Value.int IntKind.i64 0)) w5)))) ∧
 (decide (m > 1) = false →
 (decide (a < b) = true → R (Ending.returned (Value.int IntKind.i64 (-1))) w) ∧
 (decide (a < b) = false → (decide (a > b) = true → R (Ending.returned (Value.int IntKind.i64 1)) w) ∧ (decide (a > b) = false → R (Ending.returned (Value.int IntKind.i64 0)) w)))
theorem f12_eq (m : Int) (a : Int) (b : Int) (w : World) (R : Ending → World → Prop) : (fnF Go.Proofs.Try.prog h12 Go.Proofs.Try.f12 [Value.int IntKind.i64 m, Value.int IntKind.i64 a, Value.int IntKind.i64 b] w R).den = f12_vc m a b w R := by kernel_rfl
theorem f12_calls (m : Int) (a : Int) (b : Int) (w : World) (R : Ending → World → Prop) (h : f12_vc m a b w R) : Calls Go.Proofs.Try.prog 12 (List.toArray [Value.int IntKind.i64 m, Value.int IntKind.i64 a, Value.int IntKind.i64 b]) w R :=
 fn_sound (H := h12) (fn := Go.Proofs.Try.f12) (by kernel_rfl) (by kernel_rfl) (by kernel_rfl) ((f12_eq m a b w R).mpr h)


/-! manciple/mancipleref08.Place -/
def h13 : Hints := ⟨[], [14], [9, 17], [], [], [(2, ⟨[(5, .int .i64)], []⟩)], [], [], []⟩
def f13_vc (la : Option Addr) (ln : Nat) (lc : Nat) (k : Int) (w : World) (R : Ending → World → Prop) : Prop :=
 ∃ (J1 : Int × Unit → World → Prop),
 ∃ (J2 : Int × Unit → World → Nat),
 J1 (0, ()) w ∧
 ∀ (x3 : Int) (w4 : World),
 J1 (x3, ()) w4 →
 (decide (x3 < (↑ln : Int)) = true →
 ∃ (ad5 : Addr),
 Gives Proofs.Try.prog (Instr.indexAt 27 (Value.slice la ln lc) (Value.int IntKind.i64 x3)) (Value.pointer (some ad5)) ∧
 ∃ (x6 : Int),
 Reads Proofs.Try.prog [] (Instr.loadAt 3 (Value.pointer (some ad5))) w4 (Value.int IntKind.i64 x6) ∧
 ((x6 == k) = true → R (Ending.returned (Value.int IntKind.i64 x3)) w4) ∧ ((x6 == k) = false → J1 (IntKind.i64.wrap (x3 + 1), ()) w4 ∧ J2 (IntKind.i64.wrap (x3 + 1), ()) w4 < J2 (x3, ()) w4)) ∧
 (decide (x3 < (↑ln : Int)) = false → R (Ending.returned (Value.int IntKind.i64 (-1))) w4)
theorem f13_eq (la : Option Addr) (ln : Nat) (lc : Nat) (k : Int) (w : World) (R : Ending → World → Prop) : (fnF Go.Proofs.Try.prog h13 Go.Proofs.Try.f13 [Value.slice la ln lc, Value.int IntKind.i64 k] w R).den = f13_vc la ln lc k w R := by kernel_rfl
theorem f13_calls (la : Option Addr) (ln : Nat) (lc : Nat) (k : Int) (w : World) (R : Ending → World → Prop) (h : f13_vc la ln lc k w R) : Calls Go.Proofs.Try.prog 13 (List.toArray [Value.slice la ln lc, Value.int IntKind.i64 k]) w R :=
 fn_sound (H := h13) (fn := Go.Proofs.Try.f13) (by kernel_rfl) (by kernel_rfl) (by kernel_rfl) ((f13_eq la ln lc k w R).mpr h)


/-! (*manciple/tree.Tree[int]).Has -/
def h14 : Hints := ⟨[], [], [], [], [], [], [], [], []⟩
def f14_vc (t : Option Addr) (k : Int) (w : World) (R : Ending → World → Prop) : Prop :=
 Calls Proofs.Try.prog 20 #[Value.pointer t, Value.int IntKind.i64 k] w fun (e1 : Ending) (w2 : World) => ∃ (x3 : Int), e1 = Ending.returned (Value.int IntKind.i64 x3) ∧ R (Ending.returned (Value.bool (decide (x3 ≥ 0)))) w2
theorem f14_eq (t : Option Addr) (k : Int) (w : World) (R : Ending → World → Prop) : (fnF Go.Proofs.Try.prog h14 Go.Proofs.Try.f14 [Value.pointer t, Value.int IntKind.i64 k] w R).den = f14_vc t k w R := by kernel_rfl
theorem f14_calls (t : Option Addr) (k : Int) (w : World) (R : Ending → World → Prop) (h : f14_vc t k w R) : Calls Go.Proofs.Try.prog 14 (List.toArray [Value.pointer t, Value.int IntKind.i64 k]) w R :=
 fn_sound (H := h14) (fn := Go.Proofs.Try.f14) (by kernel_rfl) (by kernel_rfl) (by kernel_rfl) ((f14_eq t k w R).mpr h)


/-! (*manciple/tree.Tree[int]).Drop -/
def h15 : Hints := ⟨[], [13, 22], [9], [], [], [], [], [], []⟩
def f15_vc (t : Option Addr) (k : Int) (w : World) (R : Ending → World → Prop) : Prop :=
 Calls Proofs.Try.prog 60 #[Value.pointer t] w fun (e1 : Ending) (w2 : World) =>
 ∃ (b3 : Bool),
 e1 = Ending.returned (Value.bool b3) ∧
 ((!b3) = true → R (Ending.returned (Value.bool false)) w2) ∧
 ((!b3) = false →
 ∃ (ad4 : Addr),
 t = some ad4 ∧
 ∃ (a5 : Option Addr),
 Reads Proofs.Try.prog [] (Instr.loadAt 43 (Value.pointer (some (Addr.mk ad4.block (ad4.off + 1) none)))) w2 (Value.pointer a5) ∧
 Calls Proofs.Try.prog 61 #[Value.pointer t, Value.pointer a5, Value.int IntKind.i64 k] w2 fun (e6 : Ending) (w7 : World) =>
 ∃ (a8 : Option Addr),
 ∃ (b9 : Bool),
 e6 = Ending.returned (Value.tuple #[Value.pointer a8, Value.bool b9]) ∧
 ∃ (ad10 : Addr),
 t = some ad10 ∧
 OpW Proofs.Try.prog (skipS (Instr.storeAt 43 (Value.pointer (some (Addr.mk ad10.block (ad10.off + 1) none))) (Value.pointer a8))) w7 fun (v11 : Value) (w12 : World) => R (Ending.returned (Value.bool b9)) w12)
theorem f15_eq (t : Option Addr) (k : Int) (w : World) (R : Ending → World → Prop) : (fnF Go.Proofs.Try.prog h15 Go.Proofs.Try.f15 [Value.pointer t, Value.int IntKind.i64 k] w R).den = f15_vc t k w R := by kernel_rfl
theorem f15_calls (t : Option Addr) (k : Int) (w : World) (R : Ending → World → Prop) (h : f15_vc t k w R) : Calls Go.Proofs.Try.prog 15 (List.toArray [Value.pointer t, Value.int IntKind.i64 k]) w R :=
 fn_sound (H := h15) (fn := Go.Proofs.Try.f15) (by kernel_rfl) (by kernel_rfl) (by kernel_rfl) ((f15_eq t k w R).mpr h)


/-! manciple/mancipleref08.Drop -/
def h16 : Hints := ⟨[], [15, 22], [10, 18], [], [], [(3, ⟨[(5, .sl), (6, .int .i64)], []⟩)], [], [], []⟩
def f16_vc (la : Option Addr) (ln : Nat) (lc : Nat) (k : Int) (w : World) (R : Ending → World → Prop) : Prop :=
 ∃ (J1 : (Option Addr × Nat × Nat) × Int × Unit → World → Prop),
 ∃ (J2 : (Option Addr × Nat × Nat) × Int × Unit → World → Nat),
 J1 ((none, 0, 0), 0, ()) w ∧
 ∀ (a3 : Option Addr) (n4 n5 : Nat) (x6 : Int) (w7 : World),
 J1 ((a3, n4, n5), x6, ()) w7 →
 (decide (x6 < (↑ln : Int)) = true →
 ∃ (ad8 : Addr),
 Gives Proofs.Try.prog (Instr.indexAt 27 (Value.slice la ln lc) (Value.int IntKind.i64 x6)) (Value.pointer (some ad8)) ∧
 ∃ (x9 : Int),
 Reads Proofs.Try.prog [] (Instr.loadAt 3 (Value.pointer (some ad8))) w7 (Value.int IntKind.i64 x9) ∧
 ((x9 != k) = true →
 ∃ (ad10 : Addr),
 Gives Proofs.Try.prog (Instr.indexAt 27 (Value.slice la ln lc) (Value.int IntKind.i64 x6)) (Value.pointer (some ad10)) ∧
 ∃ (x11 : Int),
 Reads Proofs.Try.prog [] (Instr.loadAt 3 (Value.pointer (some ad10))) w7 (Value.int IntKind.i64 x11) ∧
 OpW Proofs.Try.prog (valueS (Instr.buildSlice 27 1 #[(0, Value.int IntKind.i64 x11)])) w7 fun (v12 : Value) (w13 : World) =>
 ∃ (a14 : Option Addr),
 ∃ (n15 : Nat),
 ∃ (n16 : Nat),
 v12 = Value.slice a14 n15 n16 ∧
 OpW Proofs.Try.prog (builtin Builtin.append #[27, 27] 27 #[false, false] #[Value.slice a3 n4 n5, Value.slice a14 n15 n16]) w13 fun (v17 : Value) (w18 : World) =>
 ∃ (a19 : Option Addr),
 ∃ (n20 : Nat),
 ∃ (n21 : Nat),
 v17 = Value.slice a19 n20 n21 ∧ J1 ((a19, n20, n21), IntKind.i64.wrap (x6 + 1), ()) w18 ∧ J2 ((a19, n20, n21), IntKind.i64.wrap (x6 + 1), ()) w18 < J2 ((a3, n4, n5), x6, ()) w7) ∧
 ((x9 != k) = false → J1 ((a3, n4, n5), IntKind.i64.wrap (x6 + 1), ()) w7 ∧ J2 ((a3, n4, n5), IntKind.i64.wrap (x6 + 1), ()) w7 < J2 ((a3, n4, n5), x6, ()) w7)) ∧
 (decide (x6 < (↑ln : Int)) = false → R (Ending.returned (Value.slice a3 n4 n5)) w7)
theorem f16_eq (la : Option Addr) (ln : Nat) (lc : Nat) (k : Int) (w : World) (R : Ending → World → Prop) : (fnF Go.Proofs.Try.prog h16 Go.Proofs.Try.f16 [Value.slice la ln lc, Value.int IntKind.i64 k] w R).den = f16_vc la ln lc k w R := by kernel_rfl
theorem f16_calls (la : Option Addr) (ln : Nat) (lc : Nat) (k : Int) (w : World) (R : Ending → World → Prop) (h : f16_vc la ln lc k w R) : Calls Go.Proofs.Try.prog 16 (List.toArray [Value.slice la ln lc, Value.int IntKind.i64 k]) w R :=
 fn_sound (H := h16) (fn := Go.Proofs.Try.f16) (by kernel_rfl) (by kernel_rfl) (by kernel_rfl) ((f16_eq la ln lc k w R).mpr h)


/-! (*manciple/tree.Tree[int]).Put -/
def h17 : Hints := ⟨[], [13, 22], [9], [], [], [], [], [], []⟩
def f17_vc (t : Option Addr) (k : Int) (w : World) (R : Ending → World → Prop) : Prop :=
 Calls Proofs.Try.prog 60 #[Value.pointer t] w fun (e1 : Ending) (w2 : World) =>
 ∃ (b3 : Bool),
 e1 = Ending.returned (Value.bool b3) ∧
 ((!b3) = true → R (Ending.returned (Value.bool false)) w2) ∧
 ((!b3) = false →
 ∃ (ad4 : Addr),
 t = some ad4 ∧
 ∃ (a5 : Option Addr),
 Reads Proofs.Try.prog [] (Instr.loadAt 43 (Value.pointer (some (Addr.mk ad4.block (ad4.off + 1) none)))) w2 (Value.pointer a5) ∧
 Calls Proofs.Try.prog 62 #[Value.pointer t, Value.pointer a5, Value.int IntKind.i64 k] w2 fun (e6 : Ending) (w7 : World) =>
 ∃ (a8 : Option Addr),
 ∃ (b9 : Bool),
 e6 = Ending.returned (Value.tuple #[Value.pointer a8, Value.bool b9]) ∧
 ∃ (ad10 : Addr),
 t = some ad10 ∧
 OpW Proofs.Try.prog (skipS (Instr.storeAt 43 (Value.pointer (some (Addr.mk ad10.block (ad10.off + 1) none))) (Value.pointer a8))) w7 fun (v11 : Value) (w12 : World) => R (Ending.returned (Value.bool b9)) w12)
theorem f17_eq (t : Option Addr) (k : Int) (w : World) (R : Ending → World → Prop) : (fnF Go.Proofs.Try.prog h17 Go.Proofs.Try.f17 [Value.pointer t, Value.int IntKind.i64 k] w R).den = f17_vc t k w R := by kernel_rfl
theorem f17_calls (t : Option Addr) (k : Int) (w : World) (R : Ending → World → Prop) (h : f17_vc t k w R) : Calls Go.Proofs.Try.prog 17 (List.toArray [Value.pointer t, Value.int IntKind.i64 k]) w R :=
 fn_sound (H := h17) (fn := Go.Proofs.Try.f17) (by kernel_rfl) (by kernel_rfl) (by kernel_rfl) ((f17_eq t k w R).mpr h)


/-! manciple/mancipleref08.Put -/
def h18 : Hints := ⟨[], [23, 34, 41], [13, 27, 37, 46, 18], [], [], [(4, ⟨[(7, .sl), (8, .bool), (9, .int .i64)], []⟩)], [], [], []⟩
def f18_vc (m : Int) (la : Option Addr) (ln : Nat) (lc : Nat) (k : Int) (w : World) (R : Ending → World → Prop) : Prop :=
 ∃ (J1 : (Option Addr × Nat × Nat) × Bool × Int × Unit → World → Prop),
 ∃ (J2 : (Option Addr × Nat × Nat) × Bool × Int × Unit → World → Nat),
 J1 ((none, 0, 0), false, 0, ()) w ∧
 ∀ (a3 : Option Addr) (n4 n5 : Nat) (b6 : Bool) (x7 : Int) (w8 : World),
 J1 ((a3, n4, n5), b6, x7, ()) w8 →
 (decide (x7 < (↑ln : Int)) = true →
 ((!b6) = true →
 ∃ (ad9 : Addr),
 Gives Proofs.Try.prog (Instr.indexAt 27 (Value.slice la ln lc) (Value.int IntKind.i64 x7)) (Value.pointer (some ad9)) ∧
 ∃ (x10 : Int),
 Reads Proofs.Try.prog [] (Instr.loadAt 3 (Value.pointer (some ad9))) w8 (Value.int IntKind.i64 x10) ∧
 Calls Proofs.Try.prog 12 #[Value.int IntKind.i64 m, Value.int IntKind.i64 k, Value.int IntKind.i64 x10] w8 fun (e11 : Ending) (w12 : World) =>
 ∃ (x13 : Int),
 e11 = Ending.returned (Value.int IntKind.i64 x13) ∧
 (decide (x13 ≤ 0) = true →
 OpW Proofs.Try.prog (valueS (Instr.buildSlice 27 1 #[(0, Value.int IntKind.i64 k)])) w12 fun (v14 : Value) (w15 : World) =>
 ∃ (a16 : Option Addr),
 ∃ (n17 : Nat),
 ∃ (n18 : Nat),
 v14 = Value.slice a16 n17 n18 ∧
 OpW Proofs.Try.prog (builtin Builtin.append #[27, 27] 27 #[false, false] #[Value.slice a3 n4 n5, Value.slice a16 n17 n18]) w15 fun (v19 : Value) (w20 : World) =>
 ∃ (a21 : Option Addr),
 ∃ (n22 : Nat),
 ∃ (n23 : Nat),
 v19 = Value.slice a21 n22 n23 ∧
 ∃ (ad24 : Addr),
 Gives Proofs.Try.prog (Instr.indexAt 27 (Value.slice la ln lc) (Value.int IntKind.i64 x7)) (Value.pointer (some ad24)) ∧
 ∃ (x25 : Int),
 Reads Proofs.Try.prog [] (Instr.loadAt 3 (Value.pointer (some ad24))) w20 (Value.int IntKind.i64 x25) ∧
 ((x25 == k) = true →
 J1 ((a21, n22, n23), true, IntKind.i64.wrap (x7 + 1), ()) w20 ∧ J2 ((a21, n22, n23), true, IntKind.i64.wrap (x7 + 1), ()) w20 < J2 ((a3, n4, n5), b6, x7, ()) w8) ∧
 ((x25 == k) = false →
 ∃ (ad26 : Addr),
 Gives Proofs.Try.prog (Instr.indexAt 27 (Value.slice la ln lc) (Value.int IntKind.i64 x7)) (Value.pointer (some ad26)) ∧
 ∃ (x27 : Int),
 Reads Proofs.Try.prog [] (Instr.loadAt 3 (Value.pointer (some ad26))) w20 (Value.int IntKind.i64 x27) ∧
 OpW Proofs.Try.prog (valueS (Instr.buildSlice 27 1 #[(0, Value.int IntKind.i64 x27)])) w20 fun (v28 : Value) (w29 : World) =>
 ∃ (a30 : Option Addr),
 ∃ (n31 : Nat),
 ∃ (n32 : Nat),
 v28 = Value.slice a30 n31 n32 ∧
 OpW Proofs.Try.prog (builtin Builtin.append #[27, 27] 27 #[false, false] #[Value.slice a21 n22 n23, Value.slice a30 n31 n32]) w29
 fun (v33 : Value) (w34 : World) =>
 ∃ (a35 : Option Addr),
 ∃ (n36 : Nat),
 ∃ (n37 : Nat),
 v33 = Value.slice a35 n36 n37 ∧
 J1 ((a35, n36, n37), true, IntKind.i64.wrap (x7 + 1), ()) w34 ∧
 J2 ((a35, n36, n37), true, IntKind.i64.wrap (x7 + 1), ()) w34 < J2 ((a3, n4, n5), b6, x7, ()) w8)) ∧
 (decide (x13 ≤ 0) = false →
 ∃ (ad38 : Addr),
 Gives Proofs.Try.prog (Instr.indexAt 27 (Value.slice la ln lc) (Value.int IntKind.i64 x7)) (Value.pointer (some ad38)) ∧
 ∃ (x39 : Int),
 Reads Proofs.Try.prog [] (Instr.loadAt 3 (Value.pointer (some ad38))) w12 (Value.int IntKind.i64 x39) ∧
 OpW Proofs.Try.prog (valueS (Instr.buildSlice 27 1 #[(0, Value.int IntKind.i64 x39)])) w12 fun (v40 : Value) (w41 : World) =>
 ∃ (a42 : Option Addr),
 ∃ (n43 : Nat),
 ∃ (n44 : Nat),
 v40 = Value.slice a42 n43 n44 ∧
 OpW Proofs.Try.prog (builtin Builtin.append #[27, 27] 27 #[false, false] #[Value.slice a3 n4 n5, Value.slice a42 n43 n44]) w41 fun (v45 : Value) (w46 : World) =>
 ∃ (a47 : Option Addr),
 ∃ (n48 : Nat),
 ∃ (n49 : Nat),
 v45 = Value.slice a47 n48 n49 ∧
 J1 ((a47, n48, n49), b6, IntKind.i64.wrap (x7 + 1), ()) w46 ∧ J2 ((a47, n48, n49), b6, IntKind.i64.wrap (x7 + 1), ()) w46 < J2 ((a3, n4, n5), b6, x7, ()) w8)) ∧
 ((!b6) = false →
 ∃ (ad50 : Addr),
 Gives Proofs.Try.prog (Instr.indexAt 27 (Value.slice la ln lc) (Value.int IntKind.i64 x7)) (Value.pointer (some ad50)) ∧
 ∃ (x51 : Int),
 Reads Proofs.Try.prog [] (Instr.loadAt 3 (Value.pointer (some ad50))) w8 (Value.int IntKind.i64 x51) ∧
 OpW Proofs.Try.prog (valueS (Instr.buildSlice 27 1 #[(0, Value.int IntKind.i64 x51)])) w8 fun (v52 : Value) (w53 : World) =>
 ∃ (a54 : Option Addr),
 ∃ (n55 : Nat),
 ∃ (n56 : Nat),
 v52 = Value.slice a54 n55 n56 ∧
 OpW Proofs.Try.prog (builtin Builtin.append #[27, 27] 27 #[false, false] #[Value.slice a3 n4 n5, Value.slice a54 n55 n56]) w53 fun (v57 : Value) (w58 : World) =>
 ∃ (a59 : Option Addr),
 ∃ (n60 : Nat),
 ∃ (n61 : Nat),
 v57 = Value.slice a59 n60 n61 ∧ J1 ((a59, n60, n61), b6, IntKind.i64.wrap (x7 + 1), ()) w58 ∧ J2 ((a59, n60, n61), b6, IntKind.i64.wrap (x7 + 1), ()) w58 < J2 ((a3, n4, n5), b6, x7, ()) w8)) ∧
 (decide (x7 < (↑ln : Int)) = false →
 ((!b6) = true →
 OpW Proofs.Try.prog (valueS (Instr.buildSlice 27 1 #[(0, Value.int IntKind.i64 k)])) w8 fun (v62 : Value) (w63 : World) =>
 ∃ (a64 : Option Addr),
 ∃ (n65 : Nat),
 ∃ (n66 : Nat),
 v62 = Value.slice a64 n65 n66 ∧
 OpW Proofs.Try.prog (builtin Builtin.append #[27, 27] 27 #[false, false] #[Value.slice a3 n4 n5, Value.slice a64 n65 n66]) w63 fun (v67 : Value) (w68 : World) =>
 ∃ (a69 : Option Addr), ∃ (n70 : Nat), ∃ (n71 : Nat), v67 = Value.slice a69 n70 n71 ∧ R (Ending.returned (Value.slice a69 n70 n71)) w68) ∧
 ((!b6) = false → R (Ending.returned (Value.slice a3 n4 n5)) w8))
theorem f18_eq (m : Int) (la : Option Addr) (ln : Nat) (lc : Nat) (k : Int) (w : World) (R : Ending → World → Prop) : (fnF Go.Proofs.Try.prog h18 Go.Proofs.Try.f18 [Value.int IntKind.i64 m, Value.slice la ln lc, Value.int IntKind.i64 k] w R).den = f18_vc m la ln lc k w R := by kernel_rfl
theorem f18_calls (m : Int) (la : Option Addr) (ln : Nat) (lc : Nat) (k : Int) (w : World) (R : Ending → World → Prop) (h : f18_vc m la ln lc k w R) : Calls Go.Proofs.Try.prog 18 (List.toArray [Value.int IntKind.i64 m, Value.slice la ln lc, Value.int IntKind.i64 k]) w R :=
 fn_sound (H := h18) (fn := Go.Proofs.Try.f18) (by kernel_rfl) (by kernel_rfl) (by kernel_rfl) ((f18_eq m la ln lc k w R).mpr h)


/-! (*manciple/tree.Tree[int]).Long -/
def h19 : Hints := ⟨[], [7], [5], [], [], [], [], [], []⟩
def f19_vc (t : Option Addr) (w : World) (R : Ending → World → Prop) : Prop :=
 Calls Proofs.Try.prog 60 #[Value.pointer t] w fun (e1 : Ending) (w2 : World) =>
 ∃ (b3 : Bool),
 e1 = Ending.returned (Value.bool b3) ∧
 ((!b3) = true → R (Ending.returned (Value.int IntKind.i64 0)) w2) ∧
 ((!b3) = false →
 ∃ (ad4 : Addr),
 t = some ad4 ∧
 ∃ (a5 : Option Addr),
 Reads Proofs.Try.prog [] (Instr.loadAt 43 (Value.pointer (some (Addr.mk ad4.block (ad4.off + 1) none)))) w2 (Value.pointer a5) ∧
 Calls Proofs.Try.prog 63 #[Value.pointer a5] w2 fun (e6 : Ending) (w7 : World) => ∃ (x8 : Int), e6 = Ending.returned (Value.int IntKind.i64 x8) ∧ R (Ending.returned (Value.int IntKind.i64 x8)) w7)
theorem f19_eq (t : Option Addr) (w : World) (R : Ending → World → Prop) : (fnF Go.Proofs.Try.prog h19 Go.Proofs.Try.f19 [Value.pointer t] w R).den = f19_vc t w R := by kernel_rfl
theorem f19_calls (t : Option Addr) (w : World) (R : Ending → World → Prop) (h : f19_vc t w R) : Calls Go.Proofs.Try.prog 19 (List.toArray [Value.pointer t]) w R :=
 fn_sound (H := h19) (fn := Go.Proofs.Try.f19) (by kernel_rfl) (by kernel_rfl) (by kernel_rfl) ((f19_eq t w R).mpr h)


/-! (*manciple/tree.Tree[int]).Place -/
def h20 : Hints := ⟨[], [12, 16, 18, 23, 26, 38, 46, 53, 29], [10, 16, 34, 41], [(6, [0, 1, 2, 3, 4, 5, 6, 7, 8, 9, 10])], [], [(5, ⟨[(5, .int .i64), (6, .ptr)], []⟩)], [], [], []⟩
def f20_vc (t : Option Addr) (k : Int) (w : World) (R : Ending → World → Prop) : Prop :=
 Calls Proofs.Try.prog 60 #[Value.pointer t] w fun (e1 : Ending) (w2 : World) =>
 ∃ (b3 : Bool),
 e1 = Ending.returned (Value.bool b3) ∧
 ((!b3) = true → R (Ending.returned (Value.int IntKind.i64 (-1))) w2) ∧
 ((!b3) = false →
 ∃ (ad4 : Addr),
 t = some ad4 ∧
 ∃ (a5 : Option Addr),
 Reads Proofs.Try.prog [] (Instr.loadAt 43 (Value.pointer (some (Addr.mk ad4.block (ad4.off + 1) none)))) w2 (Value.pointer a5) ∧
 ∃ (J6 : Int × Option Addr × Unit → World → Prop),
 ∃ (J7 : Int × Option Addr × Unit → World → Nat),
 J6 (0, a5, ()) w2 ∧
 ∀ (x8 : Int) (a9 : Option Addr) (w10 : World),
 J6 (x8, a9, ()) w10 →
 ∃ (b11 : Bool),
 Gives Proofs.Try.prog (binOpS BinOp.neq 43 (Operand.tmp 15) (Operand.const (Value.pointer none)) (Value.pointer a9) (Value.pointer none)) (Value.bool b11) ∧
 (b11 = true →
 ∃ (ad12 : Addr),
 t = some ad12 ∧
 ∃ (v13 : Value),
 Reads Proofs.Try.prog [] (Instr.loadAt 26 (Value.pointer (some ad12))) w10 v13 ∧
 ∃ (ad14 : Addr),
 a9 = some ad14 ∧
 ∃ (x15 : Int),
 Reads Proofs.Try.prog [] (Instr.loadAt 3 (Value.pointer (some ad14))) w10 (Value.int IntKind.i64 x15) ∧
 ∀ (w16 : World),
 Bel w10 w16 →
 OpW Proofs.Try.prog (invokeS v13 #[Value.int IntKind.i64 k, Value.int IntKind.i64 x15]) w16 fun (v17 : Value) (w18 : World) =>
 ∃ (x19 : Int),
 v17 = Value.int IntKind.i64 x19 ∧
 (decide (x19 < 0) = true →
 ∃ (ad20 : Addr),
 a9 = some ad20 ∧
 ∃ (a21 : Option Addr),
 Reads Proofs.Try.prog [] (Instr.loadAt 43 (Value.pointer (some (Addr.mk ad20.block (ad20.off + 1) none)))) w18 (Value.pointer a21) ∧
 J6 (x8, a21, ()) w18 ∧ J7 (x8, a21, ()) w18 < J7 (x8, a9, ()) w10) ∧
 (decide (x19 < 0) = false →
 (decide (x19 > 0) = true →
 ∃ (ad22 : Addr),
 a9 = some ad22 ∧
 ∃ (a23 : Option Addr),
 Reads Proofs.Try.prog [] (Instr.loadAt 43 (Value.pointer (some (Addr.mk ad22.block (ad22.off + 1) none)))) w18 (Value.pointer a23) ∧
 Calls Proofs.Try.prog 63 #[Value.pointer a23] w18 fun (e24 : Ending) (w25 : World) =>
 ∃ (x26 : Int),
 e24 = Ending.returned (Value.int IntKind.i64 x26) ∧
 ∃ (ad27 : Addr),
 a9 = some ad27 ∧
 ∃ (a28 : Option Addr),
 Reads Proofs.Try.prog [] (Instr.loadAt 43 (Value.pointer (some (Addr.mk ad27.block (ad27.off + 2) none)))) w25 (Value.pointer a28) ∧
 J6 (IntKind.i64.wrap (x8 + IntKind.i64.wrap (x26 + 1)), a28, ()) w25 ∧
 J7 (IntKind.i64.wrap (x8 + IntKind.i64.wrap (x26 + 1)), a28, ()) w25 < J7 (x8, a9, ()) w10) ∧
 (decide (x19 > 0) = false →
 ∃ (ad29 : Addr),
 a9 = some ad29 ∧
 ∃ (a30 : Option Addr),
 Reads Proofs.Try.prog [] (Instr.loadAt 43 (Value.pointer (some (Addr.mk ad29.block (ad29.off + 1) none)))) w18 (Value.pointer a30) ∧
 Calls Proofs.Try.prog 63 #[Value.pointer a30] w18 fun (e31 : Ending) (w32 : World) =>
 ∃ (x33 : Int), e31 = Ending.returned (Value.int IntKind.i64 x33) ∧ R (Ending.returned (Value.int IntKind.i64 (IntKind.i64.wrap (x8 + x33)))) w32))) ∧
 (b11 = false → R (Ending.returned (Value.int IntKind.i64 (-1))) w10))
theorem f20_eq (t : Option Addr) (k : Int) (w : World) (R : Ending → World → Prop) : (fnF Go.Proofs.Try.prog h20 Go.Proofs.Try.f20 [Value.pointer t, Value.int IntKind.i64 k] w R).den = f20_vc t k w R := by kernel_rfl
theorem f20_calls (t : Option Addr) (k : Int) (w : World) (R : Ending → World → Prop) (h : f20_vc t k w R) : Calls Go.Proofs.Try.prog 20 (List.toArray [Value.pointer t, Value.int IntKind.i64 k]) w R :=
 fn_sound (H := h20) (fn := Go.Proofs.Try.f20) (by kernel_rfl) (by kernel_rfl) (by kernel_rfl) ((f20_eq t k w R).mpr h)


/-! (*manciple/tree.Tree[int]).At -/
def h21 : Hints := ⟨[], [18, 26, 30, 38, 44, 49, 56, 60], [23, 35, 42, 11, 15], [], [], [(5, ⟨[(1, .int .i64), (7, .ptr)], []⟩)], [], [], []⟩
def f21_vc (t : Option Addr) (i : Int) (w : World) (R : Ending → World → Prop) : Prop :=
 Calls Proofs.Try.prog 60 #[Value.pointer t] w fun (e1 : Ending) (w2 : World) =>
 ∃ (b3 : Bool),
 e1 = Ending.returned (Value.bool b3) ∧
 ((!b3) = true → R (Ending.returned (Value.tuple #[Value.int IntKind.i64 0, Value.bool false])) w2) ∧
 ((!b3) = false →
 (decide (i < 0) = true → R (Ending.returned (Value.tuple #[Value.int IntKind.i64 0, Value.bool false])) w2) ∧
 (decide (i < 0) = false →
 ∃ (ad4 : Addr),
 t = some ad4 ∧
 ∃ (a5 : Option Addr),
 Reads Proofs.Try.prog [] (Instr.loadAt 43 (Value.pointer (some (Addr.mk ad4.block (ad4.off + 1) none)))) w2 (Value.pointer a5) ∧
 Calls Proofs.Try.prog 63 #[Value.pointer a5] w2 fun (e6 : Ending) (w7 : World) =>
 ∃ (x8 : Int),
 e6 = Ending.returned (Value.int IntKind.i64 x8) ∧
 (decide (i ≥ x8) = true → R (Ending.returned (Value.tuple #[Value.int IntKind.i64 0, Value.bool false])) w7) ∧
 (decide (i ≥ x8) = false →
 ∃ (ad9 : Addr),
 t = some ad9 ∧
 ∃ (a10 : Option Addr),
 Reads Proofs.Try.prog [] (Instr.loadAt 43 (Value.pointer (some (Addr.mk ad9.block (ad9.off + 1) none)))) w7 (Value.pointer a10) ∧
 ∃ (J11 : Int × Option Addr × Unit → World → Prop),
 ∃ (J12 : Int × Option Addr × Unit → World → Nat),
 J11 (i, a10, ()) w7 ∧
 ∀ (x13 : Int) (a14 : Option Addr) (w15 : World),
 J11 (x13, a14, ()) w15 →
 ∃ (ad16 : Addr),
 a14 = some ad16 ∧
 ∃ (a17 : Option Addr),
 Reads Proofs.Try.prog [] (Instr.loadAt 43 (Value.pointer (some (Addr.mk ad16.block (ad16.off + 1) none)))) w15 (Value.pointer a17) ∧
 Calls Proofs.Try.prog 63 #[Value.pointer a17] w15 fun (e18 : Ending) (w19 : World) =>
 ∃ (x20 : Int),
 e18 = Ending.returned (Value.int IntKind.i64 x20) ∧
 ((x20 != x13) = true →
 ∃ (ad21 : Addr),
 a14 = some ad21 ∧
 ∃ (a22 : Option Addr),
 Reads Proofs.Try.prog [] (Instr.loadAt 43 (Value.pointer (some (Addr.mk ad21.block (ad21.off + 1) none)))) w19 (Value.pointer a22) ∧
 Calls Proofs.Try.prog 63 #[Value.pointer a22] w19 fun (e23 : Ending) (w24 : World) =>
 ∃ (x25 : Int),
 e23 = Ending.returned (Value.int IntKind.i64 x25) ∧
 (decide (x13 < x25) = true →
 ∃ (ad26 : Addr),
 a14 = some ad26 ∧
 ∃ (a27 : Option Addr),
 Reads Proofs.Try.prog [] (Instr.loadAt 43 (Value.pointer (some (Addr.mk ad26.block (ad26.off + 1) none)))) w24 (Value.pointer a27) ∧
 J11 (x13, a27, ()) w24 ∧ J12 (x13, a27, ()) w24 < J12 (x13, a14, ()) w15) ∧
 (decide (x13 < x25) = false →
 ∃ (ad28 : Addr),
 a14 = some ad28 ∧
 ∃ (a29 : Option Addr),
 Reads Proofs.Try.prog [] (Instr.loadAt 43 (Value.pointer (some (Addr.mk ad28.block (ad28.off + 1) none)))) w24 (Value.pointer a29) ∧
 Calls Proofs.Try.prog 63 #[Value.pointer a29] w24 fun (e30 : Ending) (w31 : World) =>
 ∃ (x32 : Int),
 e30 = Ending.returned (Value.int IntKind.i64 x32) ∧
 ∃ (ad33 : Addr),
 a14 = some ad33 ∧
 ∃ (a34 : Option Addr),
 Reads Proofs.Try.prog [] (Instr.loadAt 43 (Value.pointer (some (Addr.mk ad33.block (ad33.off + 2) none)))) w31 (Value.pointer a34) ∧
 J11 (IntKind.i64.wrap (x13 - IntKind.i64.wrap (x32 + 1)), a34, ()) w31 ∧
 J12 (IntKind.i64.wrap (x13 - IntKind.i64.wrap (x32 + 1)), a34, ()) w31 < J12 (x13, a14, ()) w15)) ∧
 ((x20 != x13) = false →
 ∃ (ad35 : Addr),
 a14 = some ad35 ∧
 ∃ (x36 : Int),
 Reads Proofs.Try.prog [] (Instr.loadAt 3 (Value.pointer (some ad35))) w19 (Value.int IntKind.i64 x36) ∧
 R (Ending.returned (Value.tuple #[Value.int IntKind.i64 x36, Value.bool true])) w19))))
theorem f21_eq (t : Option Addr) (i : Int) (w : World) (R : Ending → World → Prop) : (fnF Go.Proofs.Try.prog h21 Go.Proofs.Try.f21 [Value.pointer t, Value.int IntKind.i64 i] w R).den = f21_vc t i w R := by kernel_rfl
theorem f21_calls (t : Option Addr) (i : Int) (w : World) (R : Ending → World → Prop) (h : f21_vc t i w R) : Calls Go.Proofs.Try.prog 21 (List.toArray [Value.pointer t, Value.int IntKind.i64 i]) w R :=
 fn_sound (H := h21) (fn := Go.Proofs.Try.f21) (by kernel_rfl) (by kernel_rfl) (by kernel_rfl) ((f21_eq t i w R).mpr h)


/-! (*manciple/tree.Tree[int]).First -/
def h22 : Hints := ⟨[], [], [], [], [], [], [], [], []⟩
def f22_vc (t : Option Addr) (w : World) (R : Ending → World → Prop) : Prop :=
 Calls Proofs.Try.prog 21 #[Value.pointer t, Value.int IntKind.i64 0] w fun (e1 : Ending) (w2 : World) =>
 ∃ (x3 : Int), ∃ (b4 : Bool), e1 = Ending.returned (Value.tuple #[Value.int IntKind.i64 x3, Value.bool b4]) ∧ R (Ending.returned (Value.tuple #[Value.int IntKind.i64 x3, Value.bool b4])) w2
theorem f22_eq (t : Option Addr) (w : World) (R : Ending → World → Prop) : (fnF Go.Proofs.Try.prog h22 Go.Proofs.Try.f22 [Value.pointer t] w R).den = f22_vc t w R := by kernel_rfl
theorem f22_calls (t : Option Addr) (w : World) (R : Ending → World → Prop) (h : f22_vc t w R) : Calls Go.Proofs.Try.prog 22 (List.toArray [Value.pointer t]) w R :=
 fn_sound (H := h22) (fn := Go.Proofs.Try.f22) (by kernel_rfl) (by kernel_rfl) (by kernel_rfl) ((f22_eq t w R).mpr h)


/-! manciple/manciplelaw08.same -/
def h23 : Hints := ⟨[], [19, 23], [10, 14, 25], [(6, [0, 1, 2, 3, 4, 5, 6, 7, 8])], [], [(4, ⟨[(5, .int .i64)], []⟩)], [], [], []⟩
def f23_vc (aa : Option Addr) (an : Nat) (ac : Nat) (ba : Option Addr) (bn : Nat) (bc : Nat) (w : World) (R : Ending → World → Prop) : Prop :=
 (((↑an : Int) != (↑bn : Int)) = true → R (Ending.returned (Value.bool false)) w) ∧
 (((↑an : Int) != (↑bn : Int)) = false →
 ∃ (J1 : Int × Unit → World → Prop),
 ∃ (J2 : Int × Unit → World → Nat),
 J1 (0, ()) w ∧
 ∀ (x3 : Int) (w4 : World),
 J1 (x3, ()) w4 →
 (decide (x3 < (↑an : Int)) = true →
 ∃ (ad5 : Addr),
 Gives Proofs.Try.prog (Instr.indexAt 27 (Value.slice aa an ac) (Value.int IntKind.i64 x3)) (Value.pointer (some ad5)) ∧
 ∃ (x6 : Int),
 Reads Proofs.Try.prog [] (Instr.loadAt 3 (Value.pointer (some ad5))) w4 (Value.int IntKind.i64 x6) ∧
 ∃ (ad7 : Addr),
 Gives Proofs.Try.prog (Instr.indexAt 27 (Value.slice ba bn bc) (Value.int IntKind.i64 x3)) (Value.pointer (some ad7)) ∧
 ∃ (x8 : Int),
 Reads Proofs.Try.prog [] (Instr.loadAt 3 (Value.pointer (some ad7))) w4 (Value.int IntKind.i64 x8) ∧
 ((x6 != x8) = true → ∀ (w9 : World), Bel w4 w9 → R (Ending.returned (Value.bool false)) w9) ∧
 ((x6 != x8) = false → ∀ (w10 : World), Bel w4 w10 → J1 (IntKind.i64.wrap (x3 + 1), ()) w10 ∧ J2 (IntKind.i64.wrap (x3 + 1), ()) w10 < J2 (x3, ()) w4)) ∧
 (decide (x3 < (↑an : Int)) = false → R (Ending.returned (Value.bool true)) w4))
theorem f23_eq (aa : Option Addr) (an : Nat) (ac : Nat) (ba : Option Addr) (bn : Nat) (bc : Nat) (w : World) (R : Ending → World → Prop) : (fnF Go.Proofs.Try.prog h23 Go.Proofs.Try.f23 [Value.slice aa an ac, Value.slice ba bn bc] w R).den = f23_vc aa an ac ba bn bc w R := by kernel_rfl
theorem f23_calls (aa : Option Addr) (an : Nat) (ac : Nat) (ba : Option Addr) (bn : Nat) (bc : Nat) (w : World) (R : Ending → World → Prop) (h : f23_vc aa an ac ba bn bc w R) : Calls Go.Proofs.Try.prog 23 (List.toArray [Value.slice aa an ac, Value.slice ba bn bc]) w R :=
 fn_sound (H := h23) (fn := Go.Proofs.Try.f23) (by kernel_rfl) (by kernel_rfl) (by kernel_rfl) ((f23_eq aa an ac ba bn bc w R).mpr h)


/-! (*manciple/tree.Tree[int]).All -/
def h24 : Hints := ⟨[], [7], [5], [], [], [], [], [], []⟩
def f24_vc (t : Option Addr) (w : World) (R : Ending → World → Prop) : Prop :=
 OpW Proofs.Try.prog (valueS (Instr.alloc 27 true (Value.tuple #[]))) w fun (v1 : Value) (w2 : World) =>
 ∃ (ad3 : Addr),
 v1 = Value.pointer (some ad3) ∧
 Calls Proofs.Try.prog 60 #[Value.pointer t] w2 fun (e4 : Ending) (w5 : World) =>
 ∃ (b6 : Bool),
 e4 = Ending.returned (Value.bool b6) ∧
 (b6 = true →
 ∃ (ad7 : Addr),
 t = some ad7 ∧
 ∃ (a8 : Option Addr),
 Reads Proofs.Try.prog [] (Instr.loadAt 43 (Value.pointer (some (Addr.mk ad7.block (ad7.off + 1) none)))) w5 (Value.pointer a8) ∧
 Calls Proofs.Try.prog 64 #[Value.pointer a8, Value.func (Fn.func 65) #[] #[Value.pointer (some ad3)]] w5 fun (e9 : Ending) (w10 : World) =>
 e9 = Ending.returned (Value.tuple #[]) ∧
 ∃ (a11 : Option Addr), ∃ (n12 : Nat), ∃ (n13 : Nat), Reads Proofs.Try.prog [] (Instr.loadAt 27 (Value.pointer (some ad3))) w10 (Value.slice a11 n12 n13) ∧ R (Ending.returned (Value.slice a11 n12 n13)) w10) ∧
 (b6 = false → ∃ (a14 : Option Addr), ∃ (n15 : Nat), ∃ (n16 : Nat), Reads Proofs.Try.prog [] (Instr.loadAt 27 (Value.pointer (some ad3))) w5 (Value.slice a14 n15 n16) ∧ R (Ending.returned (Value.slice a14 n15 n16)) w5)
theorem f24_eq (t : Option Addr) (w : World) (R : Ending → World → Prop) : (fnF Go.Proofs.Try.prog h24 Go.Proofs.Try.f24 [Value.pointer t] w R).den = f24_vc t w R := by kernel_rfl
theorem f24_calls (t : Option Addr) (w : World) (R : Ending → World → Prop) (h : f24_vc t w R) : Calls Go.Proofs.Try.prog 24 (List.toArray [Value.pointer t]) w R :=
 fn_sound (H := h24) (fn := Go.Proofs.Try.f24) (by kernel_rfl) (by kernel_rfl) (by kernel_rfl) ((f24_eq t w R).mpr h)


/-! manciple/manciplelaw08.works -/
def h25 : Hints := ⟨[], [], [23, 27, 30, 34, 38, 41, 46], [], [], [], [], [], []⟩
def f25_vc  (w : World) (R : Ending → World → Prop) : Prop :=
 Calls Proofs.Try.prog 10 #[Value.func (Fn.func 66) #[] #[]] w fun (e1 : Ending) (w2 : World) =>
 ∃ (a3 : Option Addr),
 e1 = Ending.returned (Value.pointer a3) ∧
 Calls Proofs.Try.prog 17 #[Value.pointer a3, Value.int IntKind.i64 5] w2 fun (e4 : Ending) (w5 : World) =>
 ∃ (b6 : Bool),
 e4 = Ending.returned (Value.bool b6) ∧
 Calls Proofs.Try.prog 17 #[Value.pointer a3, Value.int IntKind.i64 5] w5 fun (e7 : Ending) (w8 : World) =>
 ∃ (b9 : Bool),
 e7 = Ending.returned (Value.bool b9) ∧
 Calls Proofs.Try.prog 17 #[Value.pointer a3, Value.int IntKind.i64 1] w8 fun (e10 : Ending) (w11 : World) =>
 ∃ (b12 : Bool),
 e10 = Ending.returned (Value.bool b12) ∧
 Calls Proofs.Try.prog 15 #[Value.pointer a3, Value.int IntKind.i64 9] w11 fun (e13 : Ending) (w14 : World) =>
 ∃ (b15 : Bool),
 e13 = Ending.returned (Value.bool b15) ∧
 Calls Proofs.Try.prog 21 #[Value.pointer a3, Value.int IntKind.i64 1] w14 fun (e16 : Ending) (w17 : World) =>
 ∃ (x18 : Int),
 ∃ (b19 : Bool),
 e16 = Ending.returned (Value.tuple #[Value.int IntKind.i64 x18, Value.bool b19]) ∧
 (b6 = true →
 ((!b9) = true →
 (b12 = true →
 ((!b15) = true →
 ((x18 == 5) = true →
 (b19 = true →
 Calls Proofs.Try.prog 20 #[Value.pointer a3, Value.int IntKind.i64 5] w17 fun (e20 : Ending) (w21 : World) =>
 ∃ (x22 : Int),
 e20 = Ending.returned (Value.int IntKind.i64 x22) ∧
 ((x22 == 1) = true →
 Calls Proofs.Try.prog 19 #[Value.pointer a3] w21 fun (e23 : Ending) (w24 : World) =>
 ∃ (x25 : Int), e23 = Ending.returned (Value.int IntKind.i64 x25) ∧ R (Ending.returned (Value.bool (x25 == 2))) w24) ∧
 ((x22 == 1) = false → R (Ending.returned (Value.bool false)) w21)) ∧
 (b19 = false → R (Ending.returned (Value.bool false)) w17)) ∧
 ((x18 == 5) = false → R (Ending.returned (Value.bool false)) w17)) ∧
 ((!b15) = false → R (Ending.returned (Value.bool false)) w17)) ∧
 (b12 = false → R (Ending.returned (Value.bool false)) w17)) ∧
 ((!b9) = false → R (Ending.returned (Value.bool false)) w17)) ∧
 (b6 = false → R (Ending.returned (Value.bool false)) w17)
theorem f25_eq  (w : World) (R : Ending → World → Prop) : (fnF Go.Proofs.Try.prog h25 Go.Proofs.Try.f25 [] w R).den = f25_vc  w R := by kernel_rfl
theorem f25_calls  (w : World) (R : Ending → World → Prop) (h : f25_vc  w R) : Calls Go.Proofs.Try.prog 25 (List.toArray []) w R :=
 fn_sound (H := h25) (fn := Go.Proofs.Try.f25) (by kernel_rfl) (by kernel_rfl) (by kernel_rfl) ((f25_eq  w R).mpr h)


/-! manciple/manciplelaw08.TreeBack$1 -/
def h26 : Hints := ⟨[], [], [7, 10], [], [], [], [], [], []⟩
def f26_vc (a : Int) (b : Int) (w : World) (R : Ending → World → Prop) : Prop :=
 (decide (a < b) = true → R (Ending.returned (Value.int IntKind.i64 (-1))) w) ∧
 (decide (a < b) = false → (decide (a > b) = true → R (Ending.returned (Value.int IntKind.i64 1)) w) ∧ (decide (a > b) = false → R (Ending.returned (Value.int IntKind.i64 0)) w))
theorem f26_eq (a : Int) (b : Int) (w : World) (R : Ending → World → Prop) : (fnF Go.Proofs.Try.prog h26 Go.Proofs.Try.f26 [Value.int IntKind.i64 a, Value.int IntKind.i64 b] w R).den = f26_vc a b w R := by kernel_rfl
theorem f26_calls (a : Int) (b : Int) (w : World) (R : Ending → World → Prop) (h : f26_vc a b w R) : Calls Go.Proofs.Try.prog 26 (List.toArray [Value.int IntKind.i64 a, Value.int IntKind.i64 b]) w R :=
 fn_sound (H := h26) (fn := Go.Proofs.Try.f26) (by kernel_rfl) (by kernel_rfl) (by kernel_rfl) ((f26_eq a b w R).mpr h)


/-! manciple/mancipleref08.rest -/
def h59 : Hints := ⟨[], [8], [10], [], [], [], [], [], []⟩
def f59_vc (a : Int) (m : Int) (w : World) (R : Ending → World → Prop) : Prop :=
 ∃ (x1 : Int),
 Gives Proofs.Try.prog (binOpS BinOp.rem 3 (Operand.tmp 6) (Operand.tmp 7) (Value.int IntKind.i64 a) (Value.int IntKind.i64 m)) (Value.int IntKind.i64 x1) ∧
 (decide (x1 < 0) = true → R (Ending.returned (Value.int IntKind.i64 (IntKind.i64.wrap (x1 + m)))) w) ∧ (decide (x1 < 0) = false → R (Ending.returned (Value.int IntKind.i64 x1)) w)
theorem f59_eq (a : Int) (m : Int) (w : World) (R : Ending → World → Prop) : (fnF Go.Proofs.Try.prog h59 Go.Proofs.Try.f59 [Value.int IntKind.i64 a, Value.int IntKind.i64 m] w R).den = f59_vc a m w R := by kernel_rfl
theorem f59_calls (a : Int) (m : Int) (w : World) (R : Ending → World → Prop) (h : f59_vc a m w R) : Calls Go.Proofs.Try.prog 59 (List.toArray [Value.int IntKind.i64 a, Value.int IntKind.i64 m]) w R :=
 fn_sound (H := h59) (fn := Go.Proofs.Try.f59) (by kernel_rfl) (by kernel_rfl) (by kernel_rfl) ((f59_eq a m w R).mpr h)


/-! (*manciple/tree.Tree[int]).made -/
def h60 : Hints := ⟨[], [4, 7, 10], [5], [], [], [], [], [], []⟩
def f60_vc (t : Option Addr) (w : World) (R : Ending → World → Prop) : Prop :=
 ∃ (b1 : Bool),
 Gives Proofs.Try.prog (binOpS BinOp.neq 23 (Operand.tmp 3) (Operand.const (Value.pointer none)) (Value.pointer t) (Value.pointer none)) (Value.bool b1) ∧
 (b1 = true →
 ∃ (ad2 : Addr),
 t = some ad2 ∧
 ∃ (v3 : Value),
 Reads Proofs.Try.prog [] (Instr.loadAt 26 (Value.pointer (some ad2))) w v3 ∧
 ∃ (b4 : Bool), Gives Proofs.Try.prog (binOpS BinOp.neq 26 (Operand.tmp 9) (Operand.const Value.nilFunc) v3 Value.nilFunc) (Value.bool b4) ∧ R (Ending.returned (Value.bool b4)) w) ∧
 (b1 = false → R (Ending.returned (Value.bool false)) w)
theorem f60_eq (t : Option Addr) (w : World) (R : Ending → World → Prop) : (fnF Go.Proofs.Try.prog h60 Go.Proofs.Try.f60 [Value.pointer t] w R).den = f60_vc t w R := by kernel_rfl
theorem f60_calls (t : Option Addr) (w : World) (R : Ending → World → Prop) (h : f60_vc t w R) : Calls Go.Proofs.Try.prog 60 (List.toArray [Value.pointer t]) w R :=
 fn_sound (H := h60) (fn := Go.Proofs.Try.f60) (by kernel_rfl) (by kernel_rfl) (by kernel_rfl) ((f60_eq t w R).mpr h)


/-! (*manciple/tree.Tree[int]).drop -/
def h61 : Hints := ⟨[], [11, 13, 18, 21, 43, 50, 59, 66, 70, 73, 75, 80, 83, 85, 26, 32, 34], [11, 36, 52, 68, 78], [(4, [0, 1, 2, 3, 4, 5, 6, 7, 8, 9, 10])], [], [], [], [], []⟩
def f61_vc (t : Option Addr) (n : Option Addr) (k : Int) (w : World) (R : Ending → World → Prop) : Prop :=
 ∃ (b1 : Bool),
 Gives Proofs.Try.prog (binOpS BinOp.eql 43 (Operand.tmp 10) (Operand.const (Value.pointer none)) (Value.pointer n) (Value.pointer none)) (Value.bool b1) ∧
 (b1 = true → R (Ending.returned (Value.tuple #[Value.pointer none, Value.bool false])) w) ∧
 (b1 = false →
 ∃ (ad2 : Addr),
 t = some ad2 ∧
 ∃ (v3 : Value),
 Reads Proofs.Try.prog [] (Instr.loadAt 26 (Value.pointer (some ad2))) w v3 ∧
 ∃ (ad4 : Addr),
 n = some ad4 ∧
 ∃ (x5 : Int),
 Reads Proofs.Try.prog [] (Instr.loadAt 3 (Value.pointer (some ad4))) w (Value.int IntKind.i64 x5) ∧
 ∀ (w6 : World),
 Bel w w6 →
 OpW Proofs.Try.prog (invokeS v3 #[Value.int IntKind.i64 k, Value.int IntKind.i64 x5]) w6 fun (v7 : Value) (w8 : World) =>
 ∃ (x9 : Int),
 v7 = Value.int IntKind.i64 x9 ∧
 (decide (x9 < 0) = true →
 ∃ (ad10 : Addr),
 n = some ad10 ∧
 ∃ (a11 : Option Addr),
 Reads Proofs.Try.prog [] (Instr.loadAt 43 (Value.pointer (some (Addr.mk ad10.block (ad10.off + 1) none)))) w8 (Value.pointer a11) ∧
 Calls Proofs.Try.prog 61 #[Value.pointer t, Value.pointer a11, Value.int IntKind.i64 k] w8 fun (e12 : Ending) (w13 : World) =>
 ∃ (a14 : Option Addr),
 ∃ (b15 : Bool),
 e12 = Ending.returned (Value.tuple #[Value.pointer a14, Value.bool b15]) ∧
 ∃ (ad16 : Addr),
 n = some ad16 ∧
 OpW Proofs.Try.prog (skipS (Instr.storeAt 43 (Value.pointer (some (Addr.mk ad16.block (ad16.off + 1) none))) (Value.pointer a14))) w13 fun (v17 : Value) (w18 : World) =>
 Calls Proofs.Try.prog 107 #[Value.pointer n] w18 fun (e19 : Ending) (w20 : World) =>
 ∃ (a21 : Option Addr), e19 = Ending.returned (Value.pointer a21) ∧ R (Ending.returned (Value.tuple #[Value.pointer a21, Value.bool b15])) w20) ∧
 (decide (x9 < 0) = false →
 (decide (x9 > 0) = true →
 ∃ (ad22 : Addr),
 n = some ad22 ∧
 ∃ (a23 : Option Addr),
 Reads Proofs.Try.prog [] (Instr.loadAt 43 (Value.pointer (some (Addr.mk ad22.block (ad22.off + 2) none)))) w8 (Value.pointer a23) ∧
 Calls Proofs.Try.prog 61 #[Value.pointer t, Value.pointer a23, Value.int IntKind.i64 k] w8 fun (e24 : Ending) (w25 : World) =>
 ∃ (a26 : Option Addr),
 ∃ (b27 : Bool),
 e24 = Ending.returned (Value.tuple #[Value.pointer a26, Value.bool b27]) ∧
 ∃ (ad28 : Addr),
 n = some ad28 ∧
 OpW Proofs.Try.prog (skipS (Instr.storeAt 43 (Value.pointer (some (Addr.mk ad28.block (ad28.off + 2) none))) (Value.pointer a26))) w25 fun (v29 : Value) (w30 : World) =>
 Calls Proofs.Try.prog 107 #[Value.pointer n] w30 fun (e31 : Ending) (w32 : World) =>
 ∃ (a33 : Option Addr), e31 = Ending.returned (Value.pointer a33) ∧ R (Ending.returned (Value.tuple #[Value.pointer a33, Value.bool b27])) w32) ∧
 (decide (x9 > 0) = false →
 ∃ (ad34 : Addr),
 n = some ad34 ∧
 ∃ (a35 : Option Addr),
 Reads Proofs.Try.prog [] (Instr.loadAt 43 (Value.pointer (some (Addr.mk ad34.block (ad34.off + 1) none)))) w8 (Value.pointer a35) ∧
 ∃ (b36 : Bool),
 Gives Proofs.Try.prog (binOpS BinOp.eql 43 (Operand.tmp 72) (Operand.const (Value.pointer none)) (Value.pointer a35) (Value.pointer none)) (Value.bool b36) ∧
 (b36 = true →
 ∃ (ad37 : Addr),
 n = some ad37 ∧
 ∃ (a38 : Option Addr),
 Reads Proofs.Try.prog [] (Instr.loadAt 43 (Value.pointer (some (Addr.mk ad37.block (ad37.off + 2) none)))) w8 (Value.pointer a38) ∧
 R (Ending.returned (Value.tuple #[Value.pointer a38, Value.bool true])) w8) ∧
 (b36 = false →
 ∃ (ad39 : Addr),
 n = some ad39 ∧
 ∃ (a40 : Option Addr),
 Reads Proofs.Try.prog [] (Instr.loadAt 43 (Value.pointer (some (Addr.mk ad39.block (ad39.off + 2) none)))) w8 (Value.pointer a40) ∧
 ∃ (b41 : Bool),
 Gives Proofs.Try.prog (binOpS BinOp.eql 43 (Operand.tmp 82) (Operand.const (Value.pointer none)) (Value.pointer a40) (Value.pointer none)) (Value.bool b41) ∧
 (b41 = true →
 ∃ (ad42 : Addr),
 n = some ad42 ∧
 ∃ (a43 : Option Addr),
 Reads Proofs.Try.prog [] (Instr.loadAt 43 (Value.pointer (some (Addr.mk ad42.block (ad42.off + 1) none)))) w8 (Value.pointer a43) ∧
 R (Ending.returned (Value.tuple #[Value.pointer a43, Value.bool true])) w8) ∧
 (b41 = false →
 ∃ (ad44 : Addr),
 n = some ad44 ∧
 ∃ (a45 : Option Addr),
 Reads Proofs.Try.prog [] (Instr.loadAt 43 (Value.pointer (some (Addr.mk ad44.block (ad44.off + 2) none)))) w8 (Value.pointer a45) ∧
 Calls Proofs.Try.prog 106 #[Value.pointer a45] w8 fun (e46 : Ending) (w47 : World) =>
 ∃ (a48 : Option Addr),
 ∃ (x49 : Int),
 e46 = Ending.returned (Value.tuple #[Value.pointer a48, Value.int IntKind.i64 x49]) ∧
 ∃ (ad50 : Addr),
 n = some ad50 ∧
 OpW Proofs.Try.prog (skipS (Instr.storeAt 43 (Value.pointer (some (Addr.mk ad50.block (ad50.off + 2) none))) (Value.pointer a48))) w47
 fun (v51 : Value) (w52 : World) =>
 ∃ (ad53 : Addr),
 n = some ad53 ∧
 OpW Proofs.Try.prog (skipS (Instr.storeAt 3 (Value.pointer (some ad53)) (Value.int IntKind.i64 x49))) w52 fun (v54 : Value) (w55 : World) =>
 Calls Proofs.Try.prog 107 #[Value.pointer n] w55 fun (e56 : Ending) (w57 : World) =>
 ∃ (a58 : Option Addr),
 e56 = Ending.returned (Value.pointer a58) ∧ R (Ending.returned (Value.tuple #[Value.pointer a58, Value.bool true])) w57)))))
theorem f61_eq (t : Option Addr) (n : Option Addr) (k : Int) (w : World) (R : Ending → World → Prop) : (fnF Go.Proofs.Try.prog h61 Go.Proofs.Try.f61 [Value.pointer t, Value.pointer n, Value.int IntKind.i64 k] w R).den = f61_vc t n k w R := by kernel_rfl
theorem f61_calls (t : Option Addr) (n : Option Addr) (k : Int) (w : World) (R : Ending → World → Prop) (h : f61_vc t n k w R) : Calls Go.Proofs.Try.prog 61 (List.toArray [Value.pointer t, Value.pointer n, Value.int IntKind.i64 k]) w R :=
 fn_sound (H := h61) (fn := Go.Proofs.Try.f61) (by kernel_rfl) (by kernel_rfl) (by kernel_rfl) ((f61_eq t n k w R).mpr h)


/-! (*manciple/tree.Tree[int]).put -/
def h62 : Hints := ⟨[], [11, 16, 21, 24, 32, 39, 48, 55], [11, 25, 41], [(4, [0, 1, 2, 3, 4, 5, 6, 7, 8, 9, 10])], [], [], [], [], []⟩
def f62_vc (t : Option Addr) (n : Option Addr) (k : Int) (w : World) (R : Ending → World → Prop) : Prop :=
 ∃ (b1 : Bool),
 Gives Proofs.Try.prog (binOpS BinOp.eql 43 (Operand.tmp 10) (Operand.const (Value.pointer none)) (Value.pointer n) (Value.pointer none)) (Value.bool b1) ∧
 (b1 = true →
 OpW Proofs.Try.prog (valueS (Instr.box 116 (Value.agg #[Value.int IntKind.i64 k, Value.pointer none, Value.pointer none, Value.int IntKind.i64 1, Value.int IntKind.i64 1]))) w fun (v2 : Value) (w3 : World) =>
 ∃ (ad4 : Addr), v2 = Value.pointer (some ad4) ∧ R (Ending.returned (Value.tuple #[Value.pointer (some ad4), Value.bool true])) w3) ∧
 (b1 = false →
 ∃ (ad5 : Addr),
 t = some ad5 ∧
 ∃ (v6 : Value),
 Reads Proofs.Try.prog [] (Instr.loadAt 26 (Value.pointer (some ad5))) w v6 ∧
 ∃ (ad7 : Addr),
 n = some ad7 ∧
 ∃ (x8 : Int),
 Reads Proofs.Try.prog [] (Instr.loadAt 3 (Value.pointer (some ad7))) w (Value.int IntKind.i64 x8) ∧
 ∀ (w9 : World),
 Bel w w9 →
 OpW Proofs.Try.prog (invokeS v6 #[Value.int IntKind.i64 k, Value.int IntKind.i64 x8]) w9 fun (v10 : Value) (w11 : World) =>
 ∃ (x12 : Int),
 v10 = Value.int IntKind.i64 x12 ∧
 (decide (x12 < 0) = true →
 ∃ (ad13 : Addr),
 n = some ad13 ∧
 ∃ (a14 : Option Addr),
 Reads Proofs.Try.prog [] (Instr.loadAt 43 (Value.pointer (some (Addr.mk ad13.block (ad13.off + 1) none)))) w11 (Value.pointer a14) ∧
 Calls Proofs.Try.prog 62 #[Value.pointer t, Value.pointer a14, Value.int IntKind.i64 k] w11 fun (e15 : Ending) (w16 : World) =>
 ∃ (a17 : Option Addr),
 ∃ (b18 : Bool),
 e15 = Ending.returned (Value.tuple #[Value.pointer a17, Value.bool b18]) ∧
 ∃ (ad19 : Addr),
 n = some ad19 ∧
 OpW Proofs.Try.prog (skipS (Instr.storeAt 43 (Value.pointer (some (Addr.mk ad19.block (ad19.off + 1) none))) (Value.pointer a17))) w16 fun (v20 : Value) (w21 : World) =>
 Calls Proofs.Try.prog 107 #[Value.pointer n] w21 fun (e22 : Ending) (w23 : World) =>
 ∃ (a24 : Option Addr), e22 = Ending.returned (Value.pointer a24) ∧ R (Ending.returned (Value.tuple #[Value.pointer a24, Value.bool b18])) w23) ∧
 (decide (x12 < 0) = false →
 (decide (x12 > 0) = true →
 ∃ (ad25 : Addr),
 n = some ad25 ∧
 ∃ (a26 : Option Addr),
 Reads Proofs.Try.prog [] (Instr.loadAt 43 (Value.pointer (some (Addr.mk ad25.block (ad25.off + 2) none)))) w11 (Value.pointer a26) ∧
 Calls Proofs.Try.prog 62 #[Value.pointer t, Value.pointer a26, Value.int IntKind.i64 k] w11 fun (e27 : Ending) (w28 : World) =>
 ∃ (a29 : Option Addr),
 ∃ (b30 : Bool),
 e27 = Ending.returned (Value.tuple #[Value.pointer a29, Value.bool b30]) ∧
 ∃ (ad31 : Addr),
 n = some ad31 ∧
 OpW Proofs.Try.prog (skipS (Instr.storeAt 43 (Value.pointer (some (Addr.mk ad31.block (ad31.off + 2) none))) (Value.pointer a29))) w28 fun (v32 : Value) (w33 : World) =>
 Calls Proofs.Try.prog 107 #[Value.pointer n] w33 fun (e34 : Ending) (w35 : World) =>
 ∃ (a36 : Option Addr), e34 = Ending.returned (Value.pointer a36) ∧ R (Ending.returned (Value.tuple #[Value.pointer a36, Value.bool b30])) w35) ∧
 (decide (x12 > 0) = false →
 Calls Proofs.Try.prog 107 #[Value.pointer n] w11 fun (e37 : Ending) (w38 : World) =>
 ∃ (a39 : Option Addr), e37 = Ending.returned (Value.pointer a39) ∧ R (Ending.returned (Value.tuple #[Value.pointer a39, Value.bool false])) w38)))
theorem f62_eq (t : Option Addr) (n : Option Addr) (k : Int) (w : World) (R : Ending → World → Prop) : (fnF Go.Proofs.Try.prog h62 Go.Proofs.Try.f62 [Value.pointer t, Value.pointer n, Value.int IntKind.i64 k] w R).den = f62_vc t n k w R := by kernel_rfl
theorem f62_calls (t : Option Addr) (n : Option Addr) (k : Int) (w : World) (R : Ending → World → Prop) (h : f62_vc t n k w R) : Calls Go.Proofs.Try.prog 62 (List.toArray [Value.pointer t, Value.pointer n, Value.int IntKind.i64 k]) w R :=
 fn_sound (H := h62) (fn := Go.Proofs.Try.f62) (by kernel_rfl) (by kernel_rfl) (by kernel_rfl) ((f62_eq t n k w R).mpr h)


/-! (*manciple/tree.node[int]).size -/
def h63 : Hints := ⟨[], [4, 6], [4], [], [], [], [], [], []⟩
def f63_vc (n : Option Addr) (w : World) (R : Ending → World → Prop) : Prop :=
 ∃ (b1 : Bool),
 Gives Proofs.Try.prog (binOpS BinOp.eql 43 (Operand.tmp 3) (Operand.const (Value.pointer none)) (Value.pointer n) (Value.pointer none)) (Value.bool b1) ∧
 (b1 = true → R (Ending.returned (Value.int IntKind.i64 0)) w) ∧
 (b1 = false →
 ∃ (ad2 : Addr), n = some ad2 ∧ ∃ (x3 : Int), Reads Proofs.Try.prog [] (Instr.loadAt 3 (Value.pointer (some (Addr.mk ad2.block (ad2.off + 3) none)))) w (Value.int IntKind.i64 x3) ∧ R (Ending.returned (Value.int IntKind.i64 x3)) w)
theorem f63_eq (n : Option Addr) (w : World) (R : Ending → World → Prop) : (fnF Go.Proofs.Try.prog h63 Go.Proofs.Try.f63 [Value.pointer n] w R).den = f63_vc n w R := by kernel_rfl
theorem f63_calls (n : Option Addr) (w : World) (R : Ending → World → Prop) (h : f63_vc n w R) : Calls Go.Proofs.Try.prog 63 (List.toArray [Value.pointer n]) w R :=
 fn_sound (H := h63) (fn := Go.Proofs.Try.f63) (by kernel_rfl) (by kernel_rfl) (by kernel_rfl) ((f63_eq n w R).mpr h)


/-! (*manciple/tree.node[int]).each -/
def h64 : Hints := ⟨[], [5, 7, 14, 17, 19], [5], [], [], [], [], [], []⟩
def f64_vc (n : Option Addr) (do' : Value) (w : World) (R : Ending → World → Prop) : Prop :=
 ∃ (b1 : Bool),
 Gives Proofs.Try.prog (binOpS BinOp.neq 43 (Operand.tmp 4) (Operand.const (Value.pointer none)) (Value.pointer n) (Value.pointer none)) (Value.bool b1) ∧
 (b1 = true →
 ∃ (ad2 : Addr),
 n = some ad2 ∧
 ∃ (a3 : Option Addr),
 Reads Proofs.Try.prog [] (Instr.loadAt 43 (Value.pointer (some (Addr.mk ad2.block (ad2.off + 1) none)))) w (Value.pointer a3) ∧
 Calls Proofs.Try.prog 64 #[Value.pointer a3, do'] w fun (e4 : Ending) (w5 : World) =>
 e4 = Ending.returned (Value.tuple #[]) ∧
 ∃ (ad6 : Addr),
 n = some ad6 ∧
 ∃ (x7 : Int),
 Reads Proofs.Try.prog [] (Instr.loadAt 3 (Value.pointer (some ad6))) w5 (Value.int IntKind.i64 x7) ∧
 OpW Proofs.Try.prog (invokeS do' #[Value.int IntKind.i64 x7]) w5 fun (v8 : Value) (w9 : World) =>
 v8 = Value.tuple #[] ∧
 ∃ (ad10 : Addr),
 n = some ad10 ∧
 ∃ (a11 : Option Addr),
 Reads Proofs.Try.prog [] (Instr.loadAt 43 (Value.pointer (some (Addr.mk ad10.block (ad10.off + 2) none)))) w9 (Value.pointer a11) ∧
 Calls Proofs.Try.prog 64 #[Value.pointer a11, do'] w9 fun (e12 : Ending) (w13 : World) => e12 = Ending.returned (Value.tuple #[]) ∧ R (Ending.returned (Value.tuple #[])) w13) ∧
 (b1 = false → R (Ending.returned (Value.tuple #[])) w)
theorem f64_eq (n : Option Addr) (do' : Value) (w : World) (R : Ending → World → Prop) : (fnF Go.Proofs.Try.prog h64 Go.Proofs.Try.f64 [Value.pointer n, do'] w R).den = f64_vc n do' w R := by kernel_rfl
theorem f64_calls (n : Option Addr) (do' : Value) (w : World) (R : Ending → World → Prop) (h : f64_vc n do' w R) : Calls Go.Proofs.Try.prog 64 (List.toArray [Value.pointer n, do']) w R :=
 fn_sound (H := h64) (fn := Go.Proofs.Try.f64) (by kernel_rfl) (by kernel_rfl) (by kernel_rfl) ((f64_eq n do' w R).mpr h)


/-! (*manciple/tree.Tree[int]).All$1 -/
def h65 : Hints := ⟨[], [], [], [], [], [], [], [], []⟩
def f65_vc (k : Int) (cap0 : Value) (w : World) (R : Ending → World → Prop) : Prop :=
 ∃ (a1 : Option Addr),
 ∃ (n2 : Nat),
 ∃ (n3 : Nat),
 Reads Proofs.Try.prog [] (Instr.loadAt 27 cap0) w (Value.slice a1 n2 n3) ∧
 OpW Proofs.Try.prog (valueS (Instr.buildSlice 27 1 #[(0, Value.int IntKind.i64 k)])) w fun (v4 : Value) (w5 : World) =>
 ∃ (a6 : Option Addr),
 ∃ (n7 : Nat),
 ∃ (n8 : Nat),
 v4 = Value.slice a6 n7 n8 ∧
 OpW Proofs.Try.prog (builtin Builtin.append #[27, 27] 27 #[false, false] #[Value.slice a1 n2 n3, Value.slice a6 n7 n8]) w5 fun (v9 : Value) (w10 : World) =>
 ∃ (a11 : Option Addr),
 ∃ (n12 : Nat),
 ∃ (n13 : Nat), v9 = Value.slice a11 n12 n13 ∧ OpW Proofs.Try.prog (skipS (Instr.storeAt 27 cap0 (Value.slice a11 n12 n13))) w10 fun (v14 : Value) (w15 : World) => R (Ending.returned (Value.tuple #[])) w15
theorem f65_eq (k : Int) (cap0 : Value) (w : World) (R : Ending → World → Prop) : (fnF Go.Proofs.Try.prog h65 Go.Proofs.Try.f65 [Value.int IntKind.i64 k, cap0] w R).den = f65_vc k cap0 w R := by kernel_rfl
theorem f65_calls (k : Int) (cap0 : Value) (w : World) (R : Ending → World → Prop) (h : f65_vc k cap0 w R) : Calls Go.Proofs.Try.prog 65 (List.toArray [Value.int IntKind.i64 k, cap0]) w R :=
 fn_sound (H := h65) (fn := Go.Proofs.Try.f65) (by kernel_rfl) (by kernel_rfl) (by kernel_rfl) ((f65_eq k cap0 w R).mpr h)


/-! manciple/manciplelaw08.works$1 -/
def h66 : Hints := ⟨[], [], [], [], [], [], [], [], []⟩
def f66_vc (a : Int) (b : Int) (w : World) (R : Ending → World → Prop) : Prop :=
 R (Ending.returned (Value.int IntKind.i64 (IntKind.i64.wrap (a - b)))) w
theorem f66_eq (a : Int) (b : Int) (w : World) (R : Ending → World → Prop) : (fnF Go.Proofs.Try.prog h66 Go.Proofs.Try.f66 [Value.int IntKind.i64 a, Value.int IntKind.i64 b] w R).den = f66_vc a b w R := by kernel_rfl
theorem f66_calls (a : Int) (b : Int) (w : World) (R : Ending → World → Prop) (h : f66_vc a b w R) : Calls Go.Proofs.Try.prog 66 (List.toArray [Value.int IntKind.i64 a, Value.int IntKind.i64 b]) w R :=
 fn_sound (H := h66) (fn := Go.Proofs.Try.f66) (by kernel_rfl) (by kernel_rfl) (by kernel_rfl) ((f66_eq a b w R).mpr h)


/-! (*manciple/tree.node[int]).least -/
def h106 : Hints := ⟨[], [6, 9, 11, 15, 21, 27], [9], [(2, [0, 1, 2, 3, 4, 5, 6, 7, 8, 9])], [], [], [], [], []⟩
def f106_vc (n : Option Addr) (w : World) (R : Ending → World → Prop) : Prop :=
 ∃ (ad1 : Addr),
 n = some ad1 ∧
 ∃ (a2 : Option Addr),
 Reads Proofs.Try.prog [] (Instr.loadAt 43 (Value.pointer (some (Addr.mk ad1.block (ad1.off + 1) none)))) w (Value.pointer a2) ∧
 ∃ (b3 : Bool),
 Gives Proofs.Try.prog (binOpS BinOp.eql 43 (Operand.tmp 8) (Operand.const (Value.pointer none)) (Value.pointer a2) (Value.pointer none)) (Value.bool b3) ∧
 (b3 = true →
 ∃ (ad4 : Addr),
 n = some ad4 ∧
 ∃ (a5 : Option Addr),
 Reads Proofs.Try.prog [] (Instr.loadAt 43 (Value.pointer (some (Addr.mk ad4.block (ad4.off + 2) none)))) w (Value.pointer a5) ∧
 ∃ (ad6 : Addr),
 n = some ad6 ∧
 ∃ (x7 : Int),
 Reads Proofs.Try.prog [] (Instr.loadAt 3 (Value.pointer (some ad6))) w (Value.int IntKind.i64 x7) ∧
 ∀ (w8 : World), Bel w w8 → R (Ending.returned (Value.tuple #[Value.pointer a5, Value.int IntKind.i64 x7])) w8) ∧
 (b3 = false →
 ∃ (ad9 : Addr),
 n = some ad9 ∧
 ∃ (a10 : Option Addr),
 Reads Proofs.Try.prog [] (Instr.loadAt 43 (Value.pointer (some (Addr.mk ad9.block (ad9.off + 1) none)))) w (Value.pointer a10) ∧
 Calls Proofs.Try.prog 106 #[Value.pointer a10] w fun (e11 : Ending) (w12 : World) =>
 ∃ (a13 : Option Addr),
 ∃ (x14 : Int),
 e11 = Ending.returned (Value.tuple #[Value.pointer a13, Value.int IntKind.i64 x14]) ∧
 ∃ (ad15 : Addr),
 n = some ad15 ∧
 OpW Proofs.Try.prog (skipS (Instr.storeAt 43 (Value.pointer (some (Addr.mk ad15.block (ad15.off + 1) none))) (Value.pointer a13))) w12 fun (v16 : Value) (w17 : World) =>
 Calls Proofs.Try.prog 107 #[Value.pointer n] w17 fun (e18 : Ending) (w19 : World) =>
 ∃ (a20 : Option Addr), e18 = Ending.returned (Value.pointer a20) ∧ R (Ending.returned (Value.tuple #[Value.pointer a20, Value.int IntKind.i64 x14])) w19)
theorem f106_eq (n : Option Addr) (w : World) (R : Ending → World → Prop) : (fnF Go.Proofs.Try.prog h106 Go.Proofs.Try.f106 [Value.pointer n] w R).den = f106_vc n w R := by kernel_rfl
theorem f106_calls (n : Option Addr) (w : World) (R : Ending → World → Prop) (h : f106_vc n w R) : Calls Go.Proofs.Try.prog 106 (List.toArray [Value.pointer n]) w R :=
 fn_sound (H := h106) (fn := Go.Proofs.Try.f106) (by kernel_rfl) (by kernel_rfl) (by kernel_rfl) ((f106_eq n w R).mpr h)


/-! (*manciple/tree.node[int]).even -/
def h107 : Hints := ⟨[], [5, 10, 19, 22, 27, 30, 37, 41, 49, 52, 57, 60, 67, 71], [15, 34, 45, 64], [(1, [0, 1, 2, 3, 5, 6, 7, 8, 4, 9, 10, 11]), (3, [0, 1, 2, 3, 4, 5, 6, 8, 9, 10, 11, 12, 13, 14, 7, 15, 16]), (7, [0, 1, 2, 3, 4, 5, 6, 8, 9, 10, 11, 12, 13, 14, 7, 15, 16])], [], [], [], [], []⟩
def f107_vc (n : Option Addr) (w : World) (R : Ending → World → Prop) : Prop :=
 ∃ (ad1 : Addr),
 n = some ad1 ∧
 ∃ (a2 : Option Addr),
 Reads Proofs.Try.prog [] (Instr.loadAt 43 (Value.pointer (some (Addr.mk ad1.block (ad1.off + 1) none)))) w (Value.pointer a2) ∧
 ∃ (ad3 : Addr),
 n = some ad3 ∧
 ∃ (a4 : Option Addr),
 Reads Proofs.Try.prog [] (Instr.loadAt 43 (Value.pointer (some (Addr.mk ad3.block (ad3.off + 2) none)))) w (Value.pointer a4) ∧
 ∀ (w5 : World),
 Bel w w5 →
 Calls Proofs.Try.prog 128 #[Value.pointer a2] w5 fun (e6 : Ending) (w7 : World) =>
 ∃ (x8 : Int),
 e6 = Ending.returned (Value.int IntKind.i64 x8) ∧
 Reads Proofs.Try.prog [] (Instr.loadAt 43 (Value.pointer (some (Addr.mk ad3.block (ad3.off + 2) none)))) w7 (Value.pointer a4) ∧
 Calls Proofs.Try.prog 128 #[Value.pointer a4] w7 fun (e9 : Ending) (w10 : World) =>
 ∃ (x11 : Int),
 e9 = Ending.returned (Value.int IntKind.i64 x11) ∧
 (decide (IntKind.i64.wrap (x8 - x11) > 1) = true →
 ∃ (ad12 : Addr),
 n = some ad12 ∧
 ∃ (a13 : Option Addr),
 Reads Proofs.Try.prog [] (Instr.loadAt 43 (Value.pointer (some (Addr.mk ad12.block (ad12.off + 1) none)))) w10 (Value.pointer a13) ∧
 ∃ (ad14 : Addr),
 a13 = some ad14 ∧
 ∃ (a15 : Option Addr),
 Reads Proofs.Try.prog [] (Instr.loadAt 43 (Value.pointer (some (Addr.mk ad14.block (ad14.off + 1) none)))) w10 (Value.pointer a15) ∧
 ∃ (ad16 : Addr),
 n = some ad16 ∧
 ∃ (a17 : Option Addr),
 Reads Proofs.Try.prog [] (Instr.loadAt 43 (Value.pointer (some (Addr.mk ad16.block (ad16.off + 1) none)))) w10 (Value.pointer a17) ∧
 ∃ (ad18 : Addr),
 a17 = some ad18 ∧
 ∃ (a19 : Option Addr),
 Reads Proofs.Try.prog [] (Instr.loadAt 43 (Value.pointer (some (Addr.mk ad18.block (ad18.off + 2) none)))) w10 (Value.pointer a19) ∧
 ∀ (w20 : World),
 Bel w10 w20 →
 Calls Proofs.Try.prog 128 #[Value.pointer a15] w20 fun (e21 : Ending) (w22 : World) =>
 ∃ (x23 : Int),
 e21 = Ending.returned (Value.int IntKind.i64 x23) ∧
 Reads Proofs.Try.prog [] (Instr.loadAt 43 (Value.pointer (some (Addr.mk ad18.block (ad18.off + 2) none)))) w22 (Value.pointer a19) ∧
 Reads Proofs.Try.prog [] (Instr.loadAt 43 (Value.pointer (some (Addr.mk ad16.block (ad16.off + 1) none)))) w22 (Value.pointer a17) ∧
 Reads Proofs.Try.prog [] (Instr.loadAt 43 (Value.pointer (some (Addr.mk ad12.block (ad12.off + 1) none)))) w22 (Value.pointer a13) ∧
 Calls Proofs.Try.prog 128 #[Value.pointer a19] w22 fun (e24 : Ending) (w25 : World) =>
 ∃ (x26 : Int),
 e24 = Ending.returned (Value.int IntKind.i64 x26) ∧
 Reads Proofs.Try.prog [] (Instr.loadAt 43 (Value.pointer (some (Addr.mk ad16.block (ad16.off + 1) none)))) w25 (Value.pointer a17) ∧
 Reads Proofs.Try.prog [] (Instr.loadAt 43 (Value.pointer (some (Addr.mk ad12.block (ad12.off + 1) none)))) w25 (Value.pointer a13) ∧
 (decide (x23 < x26) = true →
 ∃ (ad27 : Addr),
 n = some ad27 ∧
 ∃ (a28 : Option Addr),
 Reads Proofs.Try.prog [] (Instr.loadAt 43 (Value.pointer (some (Addr.mk ad27.block (ad27.off + 1) none)))) w25 (Value.pointer a28) ∧
 Calls Proofs.Try.prog 129 #[Value.pointer a28] w25 fun (e29 : Ending) (w30 : World) =>
 ∃ (a31 : Option Addr),
 e29 = Ending.returned (Value.pointer a31) ∧
 ∃ (ad32 : Addr),
 n = some ad32 ∧
 OpW Proofs.Try.prog
 (skipS (Instr.storeAt 43 (Value.pointer (some (Addr.mk ad32.block (ad32.off + 1) none))) (Value.pointer a31))) w30
 fun (v33 : Value) (w34 : World) =>
 Calls Proofs.Try.prog 130 #[Value.pointer n] w34 fun (e35 : Ending) (w36 : World) =>
 ∃ (a37 : Option Addr), e35 = Ending.returned (Value.pointer a37) ∧ R (Ending.returned (Value.pointer a37)) w36) ∧
 (decide (x23 < x26) = false →
 Calls Proofs.Try.prog 130 #[Value.pointer n] w25 fun (e38 : Ending) (w39 : World) =>
 ∃ (a40 : Option Addr), e38 = Ending.returned (Value.pointer a40) ∧ R (Ending.returned (Value.pointer a40)) w39)) ∧
 (decide (IntKind.i64.wrap (x8 - x11) > 1) = false →
 (decide (IntKind.i64.wrap (x8 - x11) < -1) = true →
 ∃ (ad41 : Addr),
 n = some ad41 ∧
 ∃ (a42 : Option Addr),
 Reads Proofs.Try.prog [] (Instr.loadAt 43 (Value.pointer (some (Addr.mk ad41.block (ad41.off + 2) none)))) w10 (Value.pointer a42) ∧
 ∃ (ad43 : Addr),
 a42 = some ad43 ∧
 ∃ (a44 : Option Addr),
 Reads Proofs.Try.prog [] (Instr.loadAt 43 (Value.pointer (some (Addr.mk ad43.block (ad43.off + 2) none)))) w10 (Value.pointer a44) ∧
 ∃ (ad45 : Addr),
 n = some ad45 ∧
 ∃ (a46 : Option Addr),
 Reads Proofs.Try.prog [] (Instr.loadAt 43 (Value.pointer (some (Addr.mk ad45.block (ad45.off + 2) none)))) w10 (Value.pointer a46) ∧
 ∃ (ad47 : Addr),
 a46 = some ad47 ∧
 ∃ (a48 : Option Addr),
 Reads Proofs.Try.prog [] (Instr.loadAt 43 (Value.pointer (some (Addr.mk ad47.block (ad47.off + 1) none)))) w10 (Value.pointer a48) ∧
 ∀ (w49 : World),
 Bel w10 w49 →
 Calls Proofs.Try.prog 128 #[Value.pointer a44] w49 fun (e50 : Ending) (w51 : World) =>
 ∃ (x52 : Int),
 e50 = Ending.returned (Value.int IntKind.i64 x52) ∧
 Reads Proofs.Try.prog [] (Instr.loadAt 43 (Value.pointer (some (Addr.mk ad47.block (ad47.off + 1) none)))) w51 (Value.pointer a48) ∧
 Reads Proofs.Try.prog [] (Instr.loadAt 43 (Value.pointer (some (Addr.mk ad45.block (ad45.off + 2) none)))) w51 (Value.pointer a46) ∧
 Reads Proofs.Try.prog [] (Instr.loadAt 43 (Value.pointer (some (Addr.mk ad41.block (ad41.off + 2) none)))) w51 (Value.pointer a42) ∧
 Calls Proofs.Try.prog 128 #[Value.pointer a48] w51 fun (e53 : Ending) (w54 : World) =>
 ∃ (x55 : Int),
 e53 = Ending.returned (Value.int IntKind.i64 x55) ∧
 Reads Proofs.Try.prog [] (Instr.loadAt 43 (Value.pointer (some (Addr.mk ad45.block (ad45.off + 2) none)))) w54 (Value.pointer a46) ∧
 Reads Proofs.Try.prog [] (Instr.loadAt 43 (Value.pointer (some (Addr.mk ad41.block (ad41.off + 2) none)))) w54 (Value.pointer a42) ∧
 (decide (x52 < x55) = true →
 ∃ (ad56 : Addr),
 n = some ad56 ∧
 ∃ (a57 : Option Addr),
 Reads Proofs.Try.prog [] (Instr.loadAt 43 (Value.pointer (some (Addr.mk ad56.block (ad56.off + 2) none)))) w54
 (Value.pointer a57) ∧
 Calls Proofs.Try.prog 130 #[Value.pointer a57] w54 fun (e58 : Ending) (w59 : World) =>
 ∃ (a60 : Option Addr),
 e58 = Ending.returned (Value.pointer a60) ∧
 ∃ (ad61 : Addr),
 n = some ad61 ∧
 OpW Proofs.Try.prog
 (skipS (Instr.storeAt 43 (Value.pointer (some (Addr.mk ad61.block (ad61.off + 2) none))) (Value.pointer a60))) w59
 fun (v62 : Value) (w63 : World) =>
 Calls Proofs.Try.prog 129 #[Value.pointer n] w63 fun (e64 : Ending) (w65 : World) =>
 ∃ (a66 : Option Addr), e64 = Ending.returned (Value.pointer a66) ∧ R (Ending.returned (Value.pointer a66)) w65) ∧
 (decide (x52 < x55) = false →
 Calls Proofs.Try.prog 129 #[Value.pointer n] w54 fun (e67 : Ending) (w68 : World) =>
 ∃ (a69 : Option Addr), e67 = Ending.returned (Value.pointer a69) ∧ R (Ending.returned (Value.pointer a69)) w68)) ∧
 (decide (IntKind.i64.wrap (x8 - x11) < -1) = false →
 Calls Proofs.Try.prog 131 #[Value.pointer n] w10 fun (e70 : Ending) (w71 : World) => ∃ (a72 : Option Addr), e70 = Ending.returned (Value.pointer a72) ∧ R (Ending.returned (Value.pointer a72)) w71))
theorem f107_eq (n : Option Addr) (w : World) (R : Ending → World → Prop) : (fnF Go.Proofs.Try.prog h107 Go.Proofs.Try.f107 [Value.pointer n] w R).den = f107_vc n w R := by kernel_rfl
theorem f107_calls (n : Option Addr) (w : World) (R : Ending → World → Prop) (h : f107_vc n w R) : Calls Go.Proofs.Try.prog 107 (List.toArray [Value.pointer n]) w R :=
 fn_sound (H := h107) (fn := Go.Proofs.Try.f107) (by kernel_rfl) (by kernel_rfl) (by kernel_rfl) ((f107_eq n w R).mpr h)


/-! (*manciple/tree.node[int]).depth -/
def h128 : Hints := ⟨[], [4, 6], [4], [], [], [], [], [], []⟩
def f128_vc (n : Option Addr) (w : World) (R : Ending → World → Prop) : Prop :=
 ∃ (b1 : Bool),
 Gives Proofs.Try.prog (binOpS BinOp.eql 43 (Operand.tmp 3) (Operand.const (Value.pointer none)) (Value.pointer n) (Value.pointer none)) (Value.bool b1) ∧
 (b1 = true → R (Ending.returned (Value.int IntKind.i64 0)) w) ∧
 (b1 = false →
 ∃ (ad2 : Addr), n = some ad2 ∧ ∃ (x3 : Int), Reads Proofs.Try.prog [] (Instr.loadAt 3 (Value.pointer (some (Addr.mk ad2.block (ad2.off + 4) none)))) w (Value.int IntKind.i64 x3) ∧ R (Ending.returned (Value.int IntKind.i64 x3)) w)
theorem f128_eq (n : Option Addr) (w : World) (R : Ending → World → Prop) : (fnF Go.Proofs.Try.prog h128 Go.Proofs.Try.f128 [Value.pointer n] w R).den = f128_vc n w R := by kernel_rfl
theorem f128_calls (n : Option Addr) (w : World) (R : Ending → World → Prop) (h : f128_vc n w R) : Calls Go.Proofs.Try.prog 128 (List.toArray [Value.pointer n]) w R :=
 fn_sound (H := h128) (fn := Go.Proofs.Try.f128) (by kernel_rfl) (by kernel_rfl) (by kernel_rfl) ((f128_eq n w R).mpr h)


/-! (*manciple/tree.node[int]).riseRight -/
def h129 : Hints := ⟨[], [5, 11, 15, 17], [], [], [], [], [], [], []⟩
def f129_vc (n : Option Addr) (w : World) (R : Ending → World → Prop) : Prop :=
 ∃ (ad1 : Addr),
 n = some ad1 ∧
 ∃ (a2 : Option Addr),
 Reads Proofs.Try.prog [] (Instr.loadAt 43 (Value.pointer (some (Addr.mk ad1.block (ad1.off + 2) none)))) w (Value.pointer a2) ∧
 ∃ (ad3 : Addr),
 a2 = some ad3 ∧
 ∃ (a4 : Option Addr),
 Reads Proofs.Try.prog [] (Instr.loadAt 43 (Value.pointer (some (Addr.mk ad3.block (ad3.off + 1) none)))) w (Value.pointer a4) ∧
 ∃ (ad5 : Addr),
 n = some ad5 ∧
 OpW Proofs.Try.prog (skipS (Instr.storeAt 43 (Value.pointer (some (Addr.mk ad5.block (ad5.off + 2) none))) (Value.pointer a4))) w fun (v6 : Value) (w7 : World) =>
 ∃ (ad8 : Addr),
 a2 = some ad8 ∧
 OpW Proofs.Try.prog (skipS (Instr.storeAt 43 (Value.pointer (some (Addr.mk ad8.block (ad8.off + 1) none))) (Value.pointer n))) w7 fun (v9 : Value) (w10 : World) =>
 Calls Proofs.Try.prog 131 #[Value.pointer n] w10 fun (e11 : Ending) (w12 : World) =>
 ∃ (a13 : Option Addr),
 e11 = Ending.returned (Value.pointer a13) ∧
 Calls Proofs.Try.prog 131 #[Value.pointer a2] w12 fun (e14 : Ending) (w15 : World) => ∃ (a16 : Option Addr), e14 = Ending.returned (Value.pointer a16) ∧ R (Ending.returned (Value.pointer a16)) w15
theorem f129_eq (n : Option Addr) (w : World) (R : Ending → World → Prop) : (fnF Go.Proofs.Try.prog h129 Go.Proofs.Try.f129 [Value.pointer n] w R).den = f129_vc n w R := by kernel_rfl
theorem f129_calls (n : Option Addr) (w : World) (R : Ending → World → Prop) (h : f129_vc n w R) : Calls Go.Proofs.Try.prog 129 (List.toArray [Value.pointer n]) w R :=
 fn_sound (H := h129) (fn := Go.Proofs.Try.f129) (by kernel_rfl) (by kernel_rfl) (by kernel_rfl) ((f129_eq n w R).mpr h)


/-! (*manciple/tree.node[int]).riseLeft -/
def h130 : Hints := ⟨[], [5, 11, 15, 17], [], [], [], [], [], [], []⟩
def f130_vc (n : Option Addr) (w : World) (R : Ending → World → Prop) : Prop :=
 ∃ (ad1 : Addr),
 n = some ad1 ∧
 ∃ (a2 : Option Addr),
 Reads Proofs.Try.prog [] (Instr.loadAt 43 (Value.pointer (some (Addr.mk ad1.block (ad1.off + 1) none)))) w (Value.pointer a2) ∧
 ∃ (ad3 : Addr),
 a2 = some ad3 ∧
 ∃ (a4 : Option Addr),
 Reads Proofs.Try.prog [] (Instr.loadAt 43 (Value.pointer (some (Addr.mk ad3.block (ad3.off + 2) none)))) w (Value.pointer a4) ∧
 ∃ (ad5 : Addr),
 n = some ad5 ∧
 OpW Proofs.Try.prog (skipS (Instr.storeAt 43 (Value.pointer (some (Addr.mk ad5.block (ad5.off + 1) none))) (Value.pointer a4))) w fun (v6 : Value) (w7 : World) =>
 ∃ (ad8 : Addr),
 a2 = some ad8 ∧
 OpW Proofs.Try.prog (skipS (Instr.storeAt 43 (Value.pointer (some (Addr.mk ad8.block (ad8.off + 2) none))) (Value.pointer n))) w7 fun (v9 : Value) (w10 : World) =>
 Calls Proofs.Try.prog 131 #[Value.pointer n] w10 fun (e11 : Ending) (w12 : World) =>
 ∃ (a13 : Option Addr),
 e11 = Ending.returned (Value.pointer a13) ∧
 Calls Proofs.Try.prog 131 #[Value.pointer a2] w12 fun (e14 : Ending) (w15 : World) => ∃ (a16 : Option Addr), e14 = Ending.returned (Value.pointer a16) ∧ R (Ending.returned (Value.pointer a16)) w15
theorem f130_eq (n : Option Addr) (w : World) (R : Ending → World → Prop) : (fnF Go.Proofs.Try.prog h130 Go.Proofs.Try.f130 [Value.pointer n] w R).den = f130_vc n w R := by kernel_rfl
theorem f130_calls (n : Option Addr) (w : World) (R : Ending → World → Prop) (h : f130_vc n w R) : Calls Go.Proofs.Try.prog 130 (List.toArray [Value.pointer n]) w R :=
 fn_sound (H := h130) (fn := Go.Proofs.Try.f130) (by kernel_rfl) (by kernel_rfl) (by kernel_rfl) ((f130_eq n w R).mpr h)


/-! (*manciple/tree.node[int]).set -/
def h131 : Hints := ⟨[], [5, 10, 16, 20, 25, 31], [], [(1, [0, 1, 2, 3, 4, 6, 7, 8, 9, 5, 10, 11, 12, 13, 14, 15]), (2, [0, 1, 2, 3, 4, 6, 7, 8, 9, 5, 10, 11, 12, 13, 14, 15])], [], [], [], [], []⟩
def f131_vc (n : Option Addr) (w : World) (R : Ending → World → Prop) : Prop :=
 ∃ (ad1 : Addr),
 n = some ad1 ∧
 ∃ (a2 : Option Addr),
 Reads Proofs.Try.prog [] (Instr.loadAt 43 (Value.pointer (some (Addr.mk ad1.block (ad1.off + 1) none)))) w (Value.pointer a2) ∧
 ∃ (ad3 : Addr),
 n = some ad3 ∧
 ∃ (a4 : Option Addr),
 Reads Proofs.Try.prog [] (Instr.loadAt 43 (Value.pointer (some (Addr.mk ad3.block (ad3.off + 2) none)))) w (Value.pointer a4) ∧
 ∀ (w5 : World),
 Bel w w5 →
 Calls Proofs.Try.prog 63 #[Value.pointer a2] w5 fun (e6 : Ending) (w7 : World) =>
 ∃ (x8 : Int),
 e6 = Ending.returned (Value.int IntKind.i64 x8) ∧
 Reads Proofs.Try.prog [] (Instr.loadAt 43 (Value.pointer (some (Addr.mk ad3.block (ad3.off + 2) none)))) w7 (Value.pointer a4) ∧
 Calls Proofs.Try.prog 63 #[Value.pointer a4] w7 fun (e9 : Ending) (w10 : World) =>
 ∃ (x11 : Int),
 e9 = Ending.returned (Value.int IntKind.i64 x11) ∧
 ∃ (ad12 : Addr),
 n = some ad12 ∧
 OpW Proofs.Try.prog (skipS (Instr.storeAt 3 (Value.pointer (some (Addr.mk ad12.block (ad12.off + 3) none))) (Value.int IntKind.i64 (IntKind.i64.wrap (IntKind.i64.wrap (x8 + x11) + 1))))) w10
 fun (v13 : Value) (w14 : World) =>
 ∃ (ad15 : Addr),
 n = some ad15 ∧
 ∃ (a16 : Option Addr),
 Reads Proofs.Try.prog [] (Instr.loadAt 43 (Value.pointer (some (Addr.mk ad15.block (ad15.off + 1) none)))) w14 (Value.pointer a16) ∧
 ∃ (ad17 : Addr),
 n = some ad17 ∧
 ∃ (a18 : Option Addr),
 Reads Proofs.Try.prog [] (Instr.loadAt 43 (Value.pointer (some (Addr.mk ad17.block (ad17.off + 2) none)))) w14 (Value.pointer a18) ∧
 ∀ (w19 : World),
 Bel w14 w19 →
 Calls Proofs.Try.prog 128 #[Value.pointer a16] w19 fun (e20 : Ending) (w21 : World) =>
 ∃ (x22 : Int),
 e20 = Ending.returned (Value.int IntKind.i64 x22) ∧
 Reads Proofs.Try.prog [] (Instr.loadAt 43 (Value.pointer (some (Addr.mk ad17.block (ad17.off + 2) none)))) w21 (Value.pointer a18) ∧
 Calls Proofs.Try.prog 128 #[Value.pointer a18] w21 fun (e23 : Ending) (w24 : World) =>
 ∃ (x25 : Int),
 e23 = Ending.returned (Value.int IntKind.i64 x25) ∧
 ∃ (ad26 : Addr),
 n = some ad26 ∧
 OpW Proofs.Try.prog
 (skipS
 (Instr.storeAt 3 (Value.pointer (some (Addr.mk ad26.block (ad26.off + 4) none)))
 (Value.int IntKind.i64 (IntKind.i64.wrap ((if x25 > x22 then x25 else x22) + 1)))))
 w24 fun (v27 : Value) (w28 : World) => R (Ending.returned (Value.pointer n)) w28
theorem f131_eq (n : Option Addr) (w : World) (R : Ending → World → Prop) : (fnF Go.Proofs.Try.prog h131 Go.Proofs.Try.f131 [Value.pointer n] w R).den = f131_vc n w R := by kernel_rfl
theorem f131_calls (n : Option Addr) (w : World) (R : Ending → World → Prop) (h : f131_vc n w R) : Calls Go.Proofs.Try.prog 131 (List.toArray [Value.pointer n]) w R :=
 fn_sound (H := h131) (fn := Go.Proofs.Try.f131) (by kernel_rfl) (by kernel_rfl) (by kernel_rfl) ((f131_eq n w R).mpr h)

end Vcd1
