/- Own texts of this claim, laid together: FT3, VcInv, Jk1, Jk2, VcSort, JShelf, Jk3, Jk4, Jk5, Jk6, TArg. -/
import Derived.Test.YthfagnpgiciphaaMgf66db6d6
import Derived.Test.YthfagnpgiciphaaProg
import Derived.Shelf.SlSortCmp.NoneTotal
import Derived.Shelf.SlLaysF0
import Derived.Shelf.SlGeneric

/- The formulas of functions, printed by a program (VcTool.lean): each is what the generator's formula comes to, by the kernel's reckoning; whoever proves one has the function's contract. -/
set_option maxRecDepth 100000
set_option maxHeartbeats 1000000
set_option linter.unusedVariables false
namespace Vct
open Go Go.Vc Go.RowKit
/-! manciple/manciplelaw25.Few -/
def h20 : Hints := ⟨[], [14], [8, 23], [], [], [(3, ⟨[(3, .int .i64), (4, .int .i64)], []⟩)], [], [], []⟩
def f20_vc (la : Option Addr) (ln : Nat) (lc : Nat) (w : World) (R : Ending → World → Prop) : Prop :=
 ∃ (J1 : Int × Int × Unit → World → Prop),
 ∃ (J2 : Int × Int × Unit → World → Nat),
 J1 (0, 0, ()) w ∧
 ∀ (x3 x4 : Int) (w5 : World),
 J1 (x3, x4, ()) w5 →
 (decide (x4 < (↑ln : Int)) = true →
 ∃ (ad6 : Addr),
 Gives Proofs.Try.prog (Instr.indexAt 39 (Value.slice la ln lc) (Value.int IntKind.i64 x4)) (Value.pointer (some ad6)) ∧
 ∃ (a7 : Option Addr),
 ∃ (n8 : Nat),
 ∃ (n9 : Nat),
 Reads Proofs.Try.prog [] (Instr.loadAt 23 (Value.pointer (some (Addr.mk (Addr.mk ad6.block (ad6.off + 1) none).block ((Addr.mk ad6.block (ad6.off + 1) none).off + 3) none)))) w5 (Value.slice a7 n8 n9) ∧
 J1 (IntKind.i64.wrap (x3 + (↑n8 : Int)), IntKind.i64.wrap (x4 + 1), ()) w5 ∧ J2 (IntKind.i64.wrap (x3 + (↑n8 : Int)), IntKind.i64.wrap (x4 + 1), ()) w5 < J2 (x3, x4, ()) w5) ∧
 (decide (x4 < (↑ln : Int)) = false → (decide ((↑ln : Int) ≤ 100) = true → R (Ending.returned (Value.bool (decide (x3 ≤ 400)))) w5) ∧ (decide ((↑ln : Int) ≤ 100) = false → R (Ending.returned (Value.bool false)) w5))
theorem f20_eq (la : Option Addr) (ln : Nat) (lc : Nat) (w : World) (R : Ending → World → Prop) : (fnF Go.Proofs.Try.prog h20 Go.Proofs.Try.f20 [Value.slice la ln lc] w R).den = f20_vc la ln lc w R := by kernel_rfl
theorem f20_calls (la : Option Addr) (ln : Nat) (lc : Nat) (w : World) (R : Ending → World → Prop) (h : f20_vc la ln lc w R) : Calls Go.Proofs.Try.prog 20 (List.toArray [Value.slice la ln lc]) w R :=
 fn_sound (H := h20) (fn := Go.Proofs.Try.f20) (by kernel_rfl) (by kernel_rfl) (by kernel_rfl) ((f20_eq la ln lc w R).mpr h)


/-! manciple/tasks.New -/
def h21 : Hints := ⟨[], [], [4], [], [], [], [], [], []⟩
def f21_vc (cap : Int) (w : World) (R : Ending → World → Prop) : Prop :=
 (decide (cap < 1) = true → R (Ending.returned (Value.pointer none)) w) ∧
 (decide (cap < 1) = false →
 OpW Proofs.Try.prog (valueS (Instr.makeMap 69 none)) w fun (v1 : Value) (w2 : World) =>
 ∃ (r3 : Option Nat),
 v1 = Value.map r3 ∧
 OpW Proofs.Try.prog (valueS (Instr.box 71 (Value.agg #[Value.int IntKind.i64 cap, Value.map r3]))) w2 fun (v4 : Value) (w5 : World) =>
 ∃ (ad6 : Addr), v4 = Value.pointer (some ad6) ∧ R (Ending.returned (Value.pointer (some ad6))) w5)
theorem f21_eq (cap : Int) (w : World) (R : Ending → World → Prop) : (fnF Go.Proofs.Try.prog h21 Go.Proofs.Try.f21 [Value.int IntKind.i64 cap] w R).den = f21_vc cap w R := by kernel_rfl
theorem f21_calls (cap : Int) (w : World) (R : Ending → World → Prop) (h : f21_vc cap w R) : Calls Go.Proofs.Try.prog 21 (List.toArray [Value.int IntKind.i64 cap]) w R :=
 fn_sound (H := h21) (fn := Go.Proofs.Try.f21) (by kernel_rfl) (by kernel_rfl) (by kernel_rfl) ((f21_eq cap w R).mpr h)


/-! manciple/manciplelaw25.works -/
def h22 : Hints := ⟨[7], [], [35, 39, 43, 47, 50, 55, 60, 66], [], [], [], [], [], []⟩
def f22_vc  (w : World) (R : Ending → World → Prop) : Prop :=
 Calls Proofs.Try.prog 21 #[Value.int IntKind.i64 2] w fun (e1 : Ending) (w2 : World) =>
 ∃ (a3 : Option Addr),
 e1 = Ending.returned (Value.pointer a3) ∧
 OpW Proofs.Try.prog (valueS (Instr.buildSlice 23 1 #[(0, Value.agg #[Value.int IntKind.i64 0, Value.int IntKind.i64 0, Value.int IntKind.i64 2])])) w2 fun (v4 : Value) (w5 : World) =>
 ∃ (a6 : Option Addr),
 ∃ (n7 : Nat),
 ∃ (n8 : Nat),
 v4 = Value.slice a6 n7 n8 ∧
 Calls Proofs.Try.prog 30 #[Value.pointer a3, Value.agg #[Value.int IntKind.i64 1, Value.int IntKind.i64 7, Value.int IntKind.i64 5, Value.slice a6 n7 n8]] w5 fun (e9 : Ending) (w10 : World) =>
 ∃ (x11 : Int),
 e9 = Ending.returned (Value.int IntKind.i64 x11) ∧
 Calls Proofs.Try.prog 30 #[Value.pointer a3, Value.agg #[Value.int IntKind.i64 2, Value.int IntKind.i64 7, Value.int IntKind.i64 5, Value.slice a6 n7 n8]] w10 fun (e12 : Ending) (w13 : World) =>
 ∃ (x14 : Int),
 e12 = Ending.returned (Value.int IntKind.i64 x14) ∧
 Calls Proofs.Try.prog 30 #[Value.pointer a3, Value.agg #[Value.int IntKind.i64 1, Value.int IntKind.i64 7, Value.int IntKind.i64 5, Value.slice a6 n7 n8]] w13 fun (e15 : Ending) (w16 : World) =>
 ∃ (x17 : Int),
 e15 = Ending.returned (Value.int IntKind.i64 x17) ∧
 Calls Proofs.Try.prog 30 #[Value.pointer a3, Value.agg #[Value.int IntKind.i64 1, Value.int IntKind.i64 8, Value.int IntKind.i64 5, Value.slice a6 n7 n8]] w16 fun (e18 : Ending) (w19 : World) =>
 ∃ (x20 : Int),
 e18 = Ending.returned (Value.int IntKind.i64 x20) ∧
 Calls Proofs.Try.prog 26 #[Value.pointer a3, Value.int IntKind.i64 1, Value.int IntKind.i64 7] w19 fun (e21 : Ending) (w22 : World) =>
 ∃ (x23 : Int),
 ∃ (x24 : Int),
 ∃ (x25 : Int),
 ∃ (a26 : Option Addr),
 ∃ (n27 : Nat),
 ∃ (n28 : Nat),
 ∃ (b29 : Bool),
 e21 = Ending.returned (Value.tuple #[Value.agg #[Value.int IntKind.i64 x23, Value.int IntKind.i64 x24, Value.int IntKind.i64 x25, Value.slice a26 n27 n28], Value.bool b29]) ∧
 ∀ (n30 : Nat),
 w22.heap.size ≤ n30 →
 ((x11 == 0) = true →
 ((x14 == 0) = true →
 ((x17 == 42) = true →
 ((x20 == 32) = true →
 (b29 = true →
 ((x25 == 5) = true →
 ∀ (w31 : World),
 Evo [n30] w22 w31 →
 Under [n30] w31 →
 Calls Proofs.Try.prog 32 #[Value.pointer a3] w31 fun (e32 : Ending) (w33 : World) =>
 ∃ (x34 : Int),
 e32 = Ending.returned (Value.int IntKind.i64 x34) ∧
 Keeps [n30] w31 w33 ∧
 ((x34 == 1) = true →
 Calls Proofs.Try.prog 36 #[Value.pointer a3, Value.int IntKind.i64 2] w33 fun (e35 : Ending) (w36 : World) =>
 ∃ (x37 : Int),
 ∃ (x38 : Int),
 ∃ (x39 : Int),
 ∃ (x40 : Int),
 e35 =
 Ending.returned
 (Value.agg
 #[Value.int IntKind.i64 x37, Value.int IntKind.i64 x38, Value.int IntKind.i64 x39, Value.int IntKind.i64 x40]) ∧
 Keeps [n30] w33 w36 ∧
 ((x37 == 2 && (x38 == 0 && (x39 == 0 && (x40 == 0 && true)))) = true →
 Calls Proofs.Try.prog 35 #[Value.pointer a3, Value.int IntKind.i64 5] w36 fun (e41 : Ending) (w42 : World) =>
 ∃ (a43 : Option Addr),
 ∃ (n44 : Nat),
 ∃ (n45 : Nat),
 e41 = Ending.returned (Value.slice a43 n44 n45) ∧
 Keeps [n30] w36 w42 ∧ R (Ending.returned (Value.bool ((↑n44 : Int) == 1))) w42) ∧
 ((x37 == 2 && (x38 == 0 && (x39 == 0 && (x40 == 0 && true)))) = false → R (Ending.returned (Value.bool false)) w36)) ∧
 ((x34 == 1) = false → R (Ending.returned (Value.bool false)) w33)) ∧
 ((x25 == 5) = false → ∀ (w46 : World), Evo [n30] w22 w46 → Under [n30] w46 → R (Ending.returned (Value.bool false)) w46)) ∧
 (b29 = false → ∀ (w47 : World), Evo [n30] w22 w47 → Under [n30] w47 → R (Ending.returned (Value.bool false)) w47)) ∧
 ((x20 == 32) = false → ∀ (w48 : World), Evo [n30] w22 w48 → Under [n30] w48 → R (Ending.returned (Value.bool false)) w48)) ∧
 ((x17 == 42) = false → ∀ (w49 : World), Evo [n30] w22 w49 → Under [n30] w49 → R (Ending.returned (Value.bool false)) w49)) ∧
 ((x14 == 0) = false → ∀ (w50 : World), Evo [n30] w22 w50 → Under [n30] w50 → R (Ending.returned (Value.bool false)) w50)) ∧
 ((x11 == 0) = false → ∀ (w51 : World), Evo [n30] w22 w51 → Under [n30] w51 → R (Ending.returned (Value.bool false)) w51)
theorem f22_eq  (w : World) (R : Ending → World → Prop) : (fnF Go.Proofs.Try.prog h22 Go.Proofs.Try.f22 [] w R).den = f22_vc  w R := by kernel_rfl
theorem f22_calls  (w : World) (R : Ending → World → Prop) (h : f22_vc  w R) : Calls Go.Proofs.Try.prog 22 (List.toArray []) w R :=
 fn_sound (H := h22) (fn := Go.Proofs.Try.f22) (by kernel_rfl) (by kernel_rfl) (by kernel_rfl) ((f22_eq  w R).mpr h)


/-! (manciple/mancipleref25.M).At -/
def h23 : Hints := ⟨[3], [18, 27], [12, 32, 23], [], [], [(2, ⟨[(7, .int .i64)], []⟩)], [], [], []⟩
def f23_vc (m_0 : Int) (m_1a : Option Addr) (m_1n : Nat) (m_1c : Nat) (frame : Int) (id : Int) (w : World) (R : Ending → World → Prop) : Prop :=
 ∀ (n1 : Nat),
 w.heap.size ≤ n1 →
 ∃ (J2 : Int × Unit → World → Prop),
 ∃ (J3 : Int × Unit → World → Nat),
 (∀ (w4 : World), Bel w w4 → Under [n1] w4 → J2 (0, ()) w4) ∧
 ∀ (x5 : Int) (w6 : World),
 J2 (x5, ()) w6 →
 (decide (x5 < (↑m_1n : Int)) = true →
 ∃ (ad7 : Addr),
 Gives Proofs.Try.prog (Instr.indexAt 44 (Value.slice m_1a m_1n m_1c) (Value.int IntKind.i64 x5)) (Value.pointer (some ad7)) ∧
 ∃ (x8 : Int),
 Reads Proofs.Try.prog [] (Instr.loadAt 2 (Value.pointer (some ad7))) w6 (Value.int IntKind.i64 x8) ∧
 ((x8 == frame) = true →
 ∃ (ad9 : Addr),
 Gives Proofs.Try.prog (Instr.indexAt 44 (Value.slice m_1a m_1n m_1c) (Value.int IntKind.i64 x5)) (Value.pointer (some ad9)) ∧
 ∃ (x10 : Int),
 Reads Proofs.Try.prog [] (Instr.loadAt 2 (Value.pointer (some (Addr.mk ad9.block (ad9.off + 1) none)))) w6 (Value.int IntKind.i64 x10) ∧
 ((x10 == id) = true → R (Ending.returned (Value.int IntKind.i64 x5)) w6) ∧ ((x10 == id) = false → J2 (IntKind.i64.wrap (x5 + 1), ()) w6 ∧ J3 (IntKind.i64.wrap (x5 + 1), ()) w6 < J3 (x5, ()) w6)) ∧
 ((x8 == frame) = false → J2 (IntKind.i64.wrap (x5 + 1), ()) w6 ∧ J3 (IntKind.i64.wrap (x5 + 1), ()) w6 < J3 (x5, ()) w6)) ∧
 (decide (x5 < (↑m_1n : Int)) = false → R (Ending.returned (Value.int IntKind.i64 (-1))) w6)
theorem f23_eq (m_0 : Int) (m_1a : Option Addr) (m_1n : Nat) (m_1c : Nat) (frame : Int) (id : Int) (w : World) (R : Ending → World → Prop) : (fnF Go.Proofs.Try.prog h23 Go.Proofs.Try.f23 [Value.agg #[Value.int IntKind.i64 m_0, Value.slice m_1a m_1n m_1c], Value.int IntKind.i64 frame, Value.int IntKind.i64 id] w R).den = f23_vc m_0 m_1a m_1n m_1c frame id w R := by kernel_rfl
theorem f23_calls (m_0 : Int) (m_1a : Option Addr) (m_1n : Nat) (m_1c : Nat) (frame : Int) (id : Int) (w : World) (R : Ending → World → Prop) (h : f23_vc m_0 m_1a m_1n m_1c frame id w R) : Calls Go.Proofs.Try.prog 23 (List.toArray [Value.agg #[Value.int IntKind.i64 m_0, Value.slice m_1a m_1n m_1c], Value.int IntKind.i64 frame, Value.int IntKind.i64 id]) w R :=
 fn_sound (H := h23) (fn := Go.Proofs.Try.f23) (by kernel_rfl) (by kernel_rfl) (by kernel_rfl) ((f23_eq m_0 m_1a m_1n m_1c frame id w R).mpr h)


/-! (*manciple/tasks.Table).Get -/
def h24 : Hints := ⟨[6, 8], [16], [12, 25], [], [], [], [], [], []⟩
def f24_vc (t : Option Addr) (frame : Int) (id : Int) (w : World) (R : Ending → World → Prop) : Prop :=
 ∀ (n1 : Nat),
 w.heap.size ≤ n1 →
 ∀ (w2 : World),
 Bel w w2 →
 Under [n1] w2 →
 Calls Proofs.Try.prog 81 #[Value.pointer t] w2 fun (e3 : Ending) (w4 : World) =>
 ∃ (b5 : Bool),
 e3 = Ending.returned (Value.bool b5) ∧
 Keeps [n1] w2 w4 ∧
 ((!b5) = true →
 ∀ (w6 : World), Evo [n1] w4 w6 → Under [n1] w6 → R (Ending.returned (Value.tuple #[Value.agg #[Value.int IntKind.i64 0, Value.int IntKind.i64 0, Value.int IntKind.i64 0, Value.slice none 0 0], Value.bool false])) w6) ∧
 ((!b5) = false →
 ∃ (ad7 : Addr),
 t = some ad7 ∧
 ∃ (r8 : Option Nat),
 Reads Proofs.Try.prog [] (Instr.loadAt 69 (Value.pointer (some (Addr.mk ad7.block (ad7.off + 1) none)))) w4 (Value.map r8) ∧
 ∃ (x9 : Int),
 ∃ (x10 : Int),
 ∃ (x11 : Int),
 ∃ (a12 : Option Addr),
 ∃ (n13 : Nat),
 ∃ (n14 : Nat),
 ∃ (b15 : Bool),
 Reads Proofs.Try.prog [] (Instr.lookup 69 (Value.map r8) (Value.agg #[Value.int IntKind.i64 frame, Value.int IntKind.i64 id]) true) w4
 (Value.tuple #[Value.agg #[Value.int IntKind.i64 x9, Value.int IntKind.i64 x10, Value.int IntKind.i64 x11, Value.slice a12 n13 n14], Value.bool b15]) ∧
 ∀ (n16 : Nat),
 w4.heap.size ≤ n16 →
 (b15 = true →
 ∀ (w17 : World),
 Evo [n16] w4 w17 →
 Under [n1, n16] w17 →
 Calls Proofs.Try.prog 79 #[Value.slice a12 n13 n14] w17 fun (e18 : Ending) (w19 : World) =>
 ∃ (a20 : Option Addr),
 ∃ (n21 : Nat),
 ∃ (n22 : Nat),
 e18 = Ending.returned (Value.slice a20 n21 n22) ∧
 Keeps [n1, n16] w17 w19 ∧
 ∀ (w23 : World),
 Evo [n1, n16] w19 w23 →
 Under [n1, n16] w23 →
 R
 (Ending.returned
 (Value.tuple #[Value.agg #[Value.int IntKind.i64 x9, Value.int IntKind.i64 x10, Value.int IntKind.i64 x11, Value.slice a20 n21 n22], Value.bool b15]))
 w23) ∧
 (b15 = false →
 ∀ (w24 : World),
 Evo [n1, n16] w4 w24 →
 Under [n1, n16] w24 →
 R (Ending.returned (Value.tuple #[Value.agg #[Value.int IntKind.i64 x9, Value.int IntKind.i64 x10, Value.int IntKind.i64 x11, Value.slice a12 n13 n14], Value.bool b15])) w24))
theorem f24_eq (t : Option Addr) (frame : Int) (id : Int) (w : World) (R : Ending → World → Prop) : (fnF Go.Proofs.Try.prog h24 Go.Proofs.Try.f24 [Value.pointer t, Value.int IntKind.i64 frame, Value.int IntKind.i64 id] w R).den = f24_vc t frame id w R := by kernel_rfl
theorem f24_calls (t : Option Addr) (frame : Int) (id : Int) (w : World) (R : Ending → World → Prop) (h : f24_vc t frame id w R) : Calls Go.Proofs.Try.prog 24 (List.toArray [Value.pointer t, Value.int IntKind.i64 frame, Value.int IntKind.i64 id]) w R :=
 fn_sound (H := h24) (fn := Go.Proofs.Try.f24) (by kernel_rfl) (by kernel_rfl) (by kernel_rfl) ((f24_eq t frame id w R).mpr h)


/-! manciple/mancipleref25.Same -/
def h25 : Hints := ⟨[], [19, 24, 31, 36, 44, 49, 57, 62], [10, 14, 67, 28, 41, 54], [(6, [0, 1, 2, 3, 4, 5, 6, 7, 8, 9, 10, 11, 12, 13, 14, 15, 16, 17, 18, 19, 20, 21, 22, 23, 24, 25, 26, 27, 28, 29, 30, 31, 32, 33, 34, 35, 36, 37, 38, 39, 40, 41, 42, 43, 44, 45, 46, 47, 48, 49, 50])], [], [(4, ⟨[(5, .int .i64)], []⟩)], [], [], []⟩
def f25_vc (aa : Option Addr) (an : Nat) (ac : Nat) (ba : Option Addr) (bn : Nat) (bc : Nat) (w : World) (R : Ending → World → Prop) : Prop :=
 (((↑an : Int) != (↑bn : Int)) = true → R (Ending.returned (Value.bool false)) w) ∧
 (((↑an : Int) != (↑bn : Int)) = false →
 ∃ (J1 : Int × Unit → World → Prop),
 ∃ (J2 : Int × Unit → World → Nat),
 J1 (0, ()) w ∧
 ∀ (x3 : Int) (w4 : World),
 J1 (x3, ()) w4 →
 (decide (x3 < (↑an : Int)) = true →
 ∃ (ad5 : Addr),
 Gives Proofs.Try.prog (Instr.indexAt 44 (Value.slice aa an ac) (Value.int IntKind.i64 x3)) (Value.pointer (some ad5)) ∧
 ∃ (x6 : Int),
 Reads Proofs.Try.prog [] (Instr.loadAt 2 (Value.pointer (some (Addr.mk ad5.block (ad5.off + 1) none)))) w4 (Value.int IntKind.i64 x6) ∧
 ∃ (ad7 : Addr),
 Gives Proofs.Try.prog (Instr.indexAt 44 (Value.slice ba bn bc) (Value.int IntKind.i64 x3)) (Value.pointer (some ad7)) ∧
 ∃ (x8 : Int),
 Reads Proofs.Try.prog [] (Instr.loadAt 2 (Value.pointer (some (Addr.mk ad7.block (ad7.off + 1) none)))) w4 (Value.int IntKind.i64 x8) ∧
 ((x6 != x8) = true → ∀ (w9 : World), Bel w4 w9 → R (Ending.returned (Value.bool false)) w9) ∧
 ((x6 != x8) = false →
 ∃ (ad10 : Addr),
 Gives Proofs.Try.prog (Instr.indexAt 44 (Value.slice aa an ac) (Value.int IntKind.i64 x3)) (Value.pointer (some ad10)) ∧
 ∃ (x11 : Int),
 Reads Proofs.Try.prog [] (Instr.loadAt 2 (Value.pointer (some ad10))) w4 (Value.int IntKind.i64 x11) ∧
 ∃ (ad12 : Addr),
 Gives Proofs.Try.prog (Instr.indexAt 44 (Value.slice ba bn bc) (Value.int IntKind.i64 x3)) (Value.pointer (some ad12)) ∧
 ∃ (x13 : Int),
 Reads Proofs.Try.prog [] (Instr.loadAt 2 (Value.pointer (some ad12))) w4 (Value.int IntKind.i64 x13) ∧
 ((x11 != x13) = true → ∀ (w14 : World), Bel w4 w14 → R (Ending.returned (Value.bool false)) w14) ∧
 ((x11 != x13) = false →
 ∃ (ad15 : Addr),
 Gives Proofs.Try.prog (Instr.indexAt 44 (Value.slice aa an ac) (Value.int IntKind.i64 x3)) (Value.pointer (some ad15)) ∧
 ∃ (x16 : Int),
 Reads Proofs.Try.prog [] (Instr.loadAt 2 (Value.pointer (some (Addr.mk ad15.block (ad15.off + 2) none)))) w4 (Value.int IntKind.i64 x16) ∧
 ∃ (ad17 : Addr),
 Gives Proofs.Try.prog (Instr.indexAt 44 (Value.slice ba bn bc) (Value.int IntKind.i64 x3)) (Value.pointer (some ad17)) ∧
 ∃ (x18 : Int),
 Reads Proofs.Try.prog [] (Instr.loadAt 2 (Value.pointer (some (Addr.mk ad17.block (ad17.off + 2) none)))) w4 (Value.int IntKind.i64 x18) ∧
 ((x16 != x18) = true → ∀ (w19 : World), Bel w4 w19 → R (Ending.returned (Value.bool false)) w19) ∧
 ((x16 != x18) = false →
 ∃ (ad20 : Addr),
 Gives Proofs.Try.prog (Instr.indexAt 44 (Value.slice aa an ac) (Value.int IntKind.i64 x3)) (Value.pointer (some ad20)) ∧
 ∃ (a21 : Option Addr),
 ∃ (n22 : Nat),
 ∃ (n23 : Nat),
 Reads Proofs.Try.prog [] (Instr.loadAt 23 (Value.pointer (some (Addr.mk ad20.block (ad20.off + 3) none)))) w4 (Value.slice a21 n22 n23) ∧
 ∃ (ad24 : Addr),
 Gives Proofs.Try.prog (Instr.indexAt 44 (Value.slice ba bn bc) (Value.int IntKind.i64 x3)) (Value.pointer (some ad24)) ∧
 ∃ (a25 : Option Addr),
 ∃ (n26 : Nat),
 ∃ (n27 : Nat),
 Reads Proofs.Try.prog [] (Instr.loadAt 23 (Value.pointer (some (Addr.mk ad24.block (ad24.off + 3) none)))) w4 (Value.slice a25 n26 n27) ∧
 ∀ (w28 : World),
 Bel w4 w28 →
 Calls Proofs.Try.prog 82 #[Value.slice a21 n22 n23, Value.slice a25 n26 n27] w28 fun (e29 : Ending) (w30 : World) =>
 ∃ (b31 : Bool),
 e29 = Ending.returned (Value.bool b31) ∧
 Reads Proofs.Try.prog [] (Instr.loadAt 2 (Value.pointer (some (Addr.mk ad17.block (ad17.off + 2) none)))) w30
 (Value.int IntKind.i64 x18) ∧
 Reads Proofs.Try.prog [] (Instr.loadAt 2 (Value.pointer (some (Addr.mk ad15.block (ad15.off + 2) none)))) w30
 (Value.int IntKind.i64 x16) ∧
 Reads Proofs.Try.prog [] (Instr.loadAt 2 (Value.pointer (some ad12))) w30 (Value.int IntKind.i64 x13) ∧
 Reads Proofs.Try.prog [] (Instr.loadAt 2 (Value.pointer (some ad10))) w30 (Value.int IntKind.i64 x11) ∧
 Reads Proofs.Try.prog [] (Instr.loadAt 2 (Value.pointer (some (Addr.mk ad7.block (ad7.off + 1) none)))) w30
 (Value.int IntKind.i64 x8) ∧
 Reads Proofs.Try.prog [] (Instr.loadAt 2 (Value.pointer (some (Addr.mk ad5.block (ad5.off + 1) none)))) w30
 (Value.int IntKind.i64 x6) ∧
 ((!b31) = true → R (Ending.returned (Value.bool false)) w30) ∧
 ((!b31) = false →
 J1 (IntKind.i64.wrap (x3 + 1), ()) w30 ∧ J2 (IntKind.i64.wrap (x3 + 1), ()) w30 < J2 (x3, ()) w4))))) ∧
 (decide (x3 < (↑an : Int)) = false → R (Ending.returned (Value.bool true)) w4))
theorem f25_eq (aa : Option Addr) (an : Nat) (ac : Nat) (ba : Option Addr) (bn : Nat) (bc : Nat) (w : World) (R : Ending → World → Prop) : (fnF Go.Proofs.Try.prog h25 Go.Proofs.Try.f25 [Value.slice aa an ac, Value.slice ba bn bc] w R).den = f25_vc aa an ac ba bn bc w R := by kernel_rfl
theorem f25_calls (aa : Option Addr) (an : Nat) (ac : Nat) (ba : Option Addr) (bn : Nat) (bc : Nat) (w : World) (R : Ending → World → Prop) (h : f25_vc aa an ac ba bn bc w R) : Calls Go.Proofs.Try.prog 25 (List.toArray [Value.slice aa an ac, Value.slice ba bn bc]) w R :=
 fn_sound (H := h25) (fn := Go.Proofs.Try.f25) (by kernel_rfl) (by kernel_rfl) (by kernel_rfl) ((f25_eq aa an ac ba bn bc w R).mpr h)


/-! (*manciple/tasks.Table).End -/
def h26 : Hints := ⟨[6, 8], [19], [17], [], [], [], [], [], []⟩
def f26_vc (t : Option Addr) (frame : Int) (id : Int) (w : World) (R : Ending → World → Prop) : Prop :=
 ∀ (n1 : Nat),
 w.heap.size ≤ n1 →
 ∀ (w2 : World),
 Bel w w2 →
 Under [n1] w2 →
 Calls Proofs.Try.prog 24 #[Value.pointer t, Value.int IntKind.i64 frame, Value.int IntKind.i64 id] w2 fun (e3 : Ending) (w4 : World) =>
 ∃ (x5 : Int),
 ∃ (x6 : Int),
 ∃ (x7 : Int),
 ∃ (a8 : Option Addr),
 ∃ (n9 : Nat),
 ∃ (n10 : Nat),
 ∃ (b11 : Bool),
 e3 = Ending.returned (Value.tuple #[Value.agg #[Value.int IntKind.i64 x5, Value.int IntKind.i64 x6, Value.int IntKind.i64 x7, Value.slice a8 n9 n10], Value.bool b11]) ∧
 Keeps [n1] w2 w4 ∧
 ∀ (n12 : Nat),
 w4.heap.size ≤ n12 →
 (b11 = true →
 ∃ (ad13 : Addr),
 t = some ad13 ∧
 ∃ (r14 : Option Nat),
 Reads Proofs.Try.prog [n12] (Instr.loadAt 69 (Value.pointer (some (Addr.mk ad13.block (ad13.off + 1) none)))) w4 (Value.map r14) ∧
 ∀ (w15 : World),
 Evo [n12] w4 w15 →
 Under [n1, n12] w15 →
 OpW Proofs.Try.prog (builtin Builtin.delete #[69, 40] 0 #[false, false] #[Value.map r14, Value.agg #[Value.int IntKind.i64 frame, Value.int IntKind.i64 id]]) w15
 fun (v16 : Value) (w17 : World) =>
 v16 = Value.tuple #[] ∧
 Keeps [n1, n12] w15 w17 ∧
 ∀ (w18 : World),
 Evo [n1] w17 w18 →
 Under [n1, n12] w18 →
 R (Ending.returned (Value.tuple #[Value.agg #[Value.int IntKind.i64 x5, Value.int IntKind.i64 x6, Value.int IntKind.i64 x7, Value.slice a8 n9 n10], Value.bool b11])) w18) ∧
 (b11 = false →
 ∀ (w19 : World),
 Evo [n1, n12] w4 w19 →
 Under [n1, n12] w19 → R (Ending.returned (Value.tuple #[Value.agg #[Value.int IntKind.i64 x5, Value.int IntKind.i64 x6, Value.int IntKind.i64 x7, Value.slice a8 n9 n10], Value.bool b11])) w19)
theorem f26_eq (t : Option Addr) (frame : Int) (id : Int) (w : World) (R : Ending → World → Prop) : (fnF Go.Proofs.Try.prog h26 Go.Proofs.Try.f26 [Value.pointer t, Value.int IntKind.i64 frame, Value.int IntKind.i64 id] w R).den = f26_vc t frame id w R := by kernel_rfl
theorem f26_calls (t : Option Addr) (frame : Int) (id : Int) (w : World) (R : Ending → World → Prop) (h : f26_vc t frame id w R) : Calls Go.Proofs.Try.prog 26 (List.toArray [Value.pointer t, Value.int IntKind.i64 frame, Value.int IntKind.i64 id]) w R :=
 fn_sound (H := h26) (fn := Go.Proofs.Try.f26) (by kernel_rfl) (by kernel_rfl) (by kernel_rfl) ((f26_eq t frame id w R).mpr h)


/-! manciple/manciplelaw25.one -/
def h27 : Hints := ⟨[2], [], [6], [], [], [], [], [], []⟩
def f27_vc (x_0 : Int) (x_1 : Int) (x_2 : Int) (x_3a : Option Addr) (x_3n : Nat) (x_3c : Nat) (ok : Bool) (w : World) (R : Ending → World → Prop) : Prop :=
 ∀ (n1 : Nat),
 w.heap.size ≤ n1 →
 ((!ok) = true → ∀ (w2 : World), Bel w w2 → Under [n1] w2 → R (Ending.returned (Value.slice none 0 0)) w2) ∧
 ((!ok) = false →
 ∀ (w3 : World),
 Bel w w3 →
 Under [n1] w3 →
 OpW Proofs.Try.prog (valueS (Instr.buildSlice 44 1 #[(0, Value.agg #[Value.int IntKind.i64 x_0, Value.int IntKind.i64 x_1, Value.int IntKind.i64 x_2, Value.slice x_3a x_3n x_3c])])) w3 fun (v4 : Value) (w5 : World) =>
 ∃ (a6 : Option Addr), ∃ (n7 : Nat), ∃ (n8 : Nat), v4 = Value.slice a6 n7 n8 ∧ Keeps [n1] w3 w5 ∧ R (Ending.returned (Value.slice a6 n7 n8)) w5)
theorem f27_eq (x_0 : Int) (x_1 : Int) (x_2 : Int) (x_3a : Option Addr) (x_3n : Nat) (x_3c : Nat) (ok : Bool) (w : World) (R : Ending → World → Prop) : (fnF Go.Proofs.Try.prog h27 Go.Proofs.Try.f27 [Value.agg #[Value.int IntKind.i64 x_0, Value.int IntKind.i64 x_1, Value.int IntKind.i64 x_2, Value.slice x_3a x_3n x_3c], Value.bool ok] w R).den = f27_vc x_0 x_1 x_2 x_3a x_3n x_3c ok w R := by kernel_rfl
theorem f27_calls (x_0 : Int) (x_1 : Int) (x_2 : Int) (x_3a : Option Addr) (x_3n : Nat) (x_3c : Nat) (ok : Bool) (w : World) (R : Ending → World → Prop) (h : f27_vc x_0 x_1 x_2 x_3a x_3n x_3c ok w R) : Calls Go.Proofs.Try.prog 27 (List.toArray [Value.agg #[Value.int IntKind.i64 x_0, Value.int IntKind.i64 x_1, Value.int IntKind.i64 x_2, Value.slice x_3a x_3n x_3c], Value.bool ok]) w R :=
 fn_sound (H := h27) (fn := Go.Proofs.Try.f27) (by kernel_rfl) (by kernel_rfl) (by kernel_rfl) ((f27_eq x_0 x_1 x_2 x_3a x_3n x_3c ok w R).mpr h)


/-! (manciple/mancipleref25.M).End -/
def h28 : Hints := ⟨[3, 6, 7], [22, 31, 42], [16, 36, 27], [(6, [0, 1, 2, 3, 4, 5, 6, 7, 8, 9, 10])], [], [(3, ⟨[(8, .int .i64)], [(7, .cons (.int .i64) (.cons (.sl) (.nil)))]⟩)], [(5, ⟨[], []⟩)], [], []⟩
def f28_vc (m_0 : Int) (m_1a : Option Addr) (m_1n : Nat) (m_1c : Nat) (frame : Int) (id : Int) (w : World) (R : Ending → World → Prop) : Prop :=
 ∀ (n1 : Nat),
 w.heap.size ≤ n1 →
 ∀ (n2 : Nat),
 w.heap.size ≤ n2 →
 ∀ (n3 : Nat),
 w.heap.size ≤ n3 →
 ∃ (J4 : Int × Int × (Option Addr × Nat × Nat) × Unit → World → Prop),
 ∃ (J5 : Int × Int × (Option Addr × Nat × Nat) × Unit → World → Nat),
 (∀ (w6 : World), Evo [n3] w w6 → Under [n1, n2, n3] w6 → J4 (0, m_0, (none, 0, 0), ()) w6) ∧
 ∀ (x7 x8 : Int) (a9 : Option Addr) (n10 n11 : Nat) (w12 : World),
 J4 (x7, x8, (a9, n10, n11), ()) w12 →
 ∃ (J13 : Unit → World → Prop),
 ((decide (x7 < (↑m_1n : Int)) = true → J13 () w12) ∧
 (decide (x7 < (↑m_1n : Int)) = false → ∀ (w14 : World), Evo [n2] w12 w14 → Under [n1, n2, n3] w14 → R (Ending.returned (Value.agg #[Value.int IntKind.i64 x8, Value.slice a9 n10 n11])) w14)) ∧
 ∀ (w15 : World),
 J13 () w15 →
 ∃ (ad16 : Addr),
 Gives Proofs.Try.prog (Instr.indexAt 44 (Value.slice m_1a m_1n m_1c) (Value.int IntKind.i64 x7)) (Value.pointer (some ad16)) ∧
 ∃ (x17 : Int),
 Reads Proofs.Try.prog [] (Instr.loadAt 2 (Value.pointer (some ad16))) w15 (Value.int IntKind.i64 x17) ∧
 ((x17 != frame) = true →
 ∃ (ad18 : Addr),
 Gives Proofs.Try.prog (Instr.indexAt 44 (Value.slice m_1a m_1n m_1c) (Value.int IntKind.i64 x7)) (Value.pointer (some ad18)) ∧
 ∃ (x19 : Int),
 ∃ (x20 : Int),
 ∃ (x21 : Int),
 ∃ (a22 : Option Addr),
 ∃ (n23 : Nat),
 ∃ (n24 : Nat),
 Reads Proofs.Try.prog [] (Instr.loadAt 48 (Value.pointer (some ad18))) w15
 (Value.agg #[Value.int IntKind.i64 x19, Value.int IntKind.i64 x20, Value.int IntKind.i64 x21, Value.slice a22 n23 n24]) ∧
 ∀ (w25 : World),
 Bel w15 w25 →
 Under [n1, n2, n3] w25 →
 OpW Proofs.Try.prog
 (valueS (Instr.buildSlice 44 1 #[(0, Value.agg #[Value.int IntKind.i64 x19, Value.int IntKind.i64 x20, Value.int IntKind.i64 x21, Value.slice a22 n23 n24])])) w25
 fun (v26 : Value) (w27 : World) =>
 ∃ (a28 : Option Addr),
 ∃ (n29 : Nat),
 ∃ (n30 : Nat),
 v26 = Value.slice a28 n29 n30 ∧
 Keeps [n1, n2, n3] w25 w27 ∧
 OpW Proofs.Try.prog (builtin Builtin.append #[44, 44] 44 #[false, false] #[Value.slice a9 n10 n11, Value.slice a28 n29 n30]) w27
 fun (v31 : Value) (w32 : World) =>
 ∃ (a33 : Option Addr),
 ∃ (n34 : Nat),
 ∃ (n35 : Nat),
 v31 = Value.slice a33 n34 n35 ∧
 Keeps [n1, n2, n3] w27 w32 ∧
 ∀ (w36 : World),
 Evo [n3] w32 w36 →
 Under [n1, n2, n3] w36 →
 J4 (IntKind.i64.wrap (x7 + 1), x8, (a33, n34, n35), ()) w36 ∧
 J5 (IntKind.i64.wrap (x7 + 1), x8, (a33, n34, n35), ()) w36 < J5 (x7, x8, (a9, n10, n11), ()) w12) ∧
 ((x17 != frame) = false →
 ∃ (ad37 : Addr),
 Gives Proofs.Try.prog (Instr.indexAt 44 (Value.slice m_1a m_1n m_1c) (Value.int IntKind.i64 x7)) (Value.pointer (some ad37)) ∧
 ∃ (x38 : Int),
 Reads Proofs.Try.prog [] (Instr.loadAt 2 (Value.pointer (some (Addr.mk ad37.block (ad37.off + 1) none)))) w15 (Value.int IntKind.i64 x38) ∧
 ((x38 != id) = true →
 ∃ (ad39 : Addr),
 Gives Proofs.Try.prog (Instr.indexAt 44 (Value.slice m_1a m_1n m_1c) (Value.int IntKind.i64 x7)) (Value.pointer (some ad39)) ∧
 ∃ (x40 : Int),
 ∃ (x41 : Int),
 ∃ (x42 : Int),
 ∃ (a43 : Option Addr),
 ∃ (n44 : Nat),
 ∃ (n45 : Nat),
 Reads Proofs.Try.prog [] (Instr.loadAt 48 (Value.pointer (some ad39))) w15
 (Value.agg #[Value.int IntKind.i64 x40, Value.int IntKind.i64 x41, Value.int IntKind.i64 x42, Value.slice a43 n44 n45]) ∧
 ∀ (w46 : World),
 Bel w15 w46 →
 Under [n1, n2, n3] w46 →
 OpW Proofs.Try.prog
 (valueS (Instr.buildSlice 44 1 #[(0, Value.agg #[Value.int IntKind.i64 x40, Value.int IntKind.i64 x41, Value.int IntKind.i64 x42, Value.slice a43 n44 n45])]))
 w46 fun (v47 : Value) (w48 : World) =>
 ∃ (a49 : Option Addr),
 ∃ (n50 : Nat),
 ∃ (n51 : Nat),
 v47 = Value.slice a49 n50 n51 ∧
 Keeps [n1, n2, n3] w46 w48 ∧
 OpW Proofs.Try.prog (builtin Builtin.append #[44, 44] 44 #[false, false] #[Value.slice a9 n10 n11, Value.slice a49 n50 n51]) w48
 fun (v52 : Value) (w53 : World) =>
 ∃ (a54 : Option Addr),
 ∃ (n55 : Nat),
 ∃ (n56 : Nat),
 v52 = Value.slice a54 n55 n56 ∧
 Keeps [n1, n2, n3] w48 w53 ∧
 ∀ (w57 : World),
 Evo [n3] w53 w57 →
 Under [n1, n2, n3] w57 →
 J4 (IntKind.i64.wrap (x7 + 1), x8, (a54, n55, n56), ()) w57 ∧
 J5 (IntKind.i64.wrap (x7 + 1), x8, (a54, n55, n56), ()) w57 < J5 (x7, x8, (a9, n10, n11), ()) w12) ∧
 ((x38 != id) = false → J4 (IntKind.i64.wrap (x7 + 1), x8, (a9, n10, n11), ()) w15 ∧ J5 (IntKind.i64.wrap (x7 + 1), x8, (a9, n10, n11), ()) w15 < J5 (x7, x8, (a9, n10, n11), ()) w12))
theorem f28_eq (m_0 : Int) (m_1a : Option Addr) (m_1n : Nat) (m_1c : Nat) (frame : Int) (id : Int) (w : World) (R : Ending → World → Prop) : (fnF Go.Proofs.Try.prog h28 Go.Proofs.Try.f28 [Value.agg #[Value.int IntKind.i64 m_0, Value.slice m_1a m_1n m_1c], Value.int IntKind.i64 frame, Value.int IntKind.i64 id] w R).den = f28_vc m_0 m_1a m_1n m_1c frame id w R := by kernel_rfl
theorem f28_calls (m_0 : Int) (m_1a : Option Addr) (m_1n : Nat) (m_1c : Nat) (frame : Int) (id : Int) (w : World) (R : Ending → World → Prop) (h : f28_vc m_0 m_1a m_1n m_1c frame id w R) : Calls Go.Proofs.Try.prog 28 (List.toArray [Value.agg #[Value.int IntKind.i64 m_0, Value.slice m_1a m_1n m_1c], Value.int IntKind.i64 frame, Value.int IntKind.i64 id]) w R :=
 fn_sound (H := h28) (fn := Go.Proofs.Try.f28) (by kernel_rfl) (by kernel_rfl) (by kernel_rfl) ((f28_eq m_0 m_1a m_1n m_1c frame id w R).mpr h)


/-! (manciple/mancipleref25.M).Launch -/
def h29 : Hints := ⟨[2, 3, 4, 6, 9], [64], [34, 42, 49, 58, 88, 102, 13, 18, 23, 29, 68, 74, 80], [], [], [(10, ⟨[(7, .bool), (8, .int .i64)], [(6, .cons (.int .i64) (.cons (.sl) (.nil)))]⟩)], [(16, ⟨[(7, .bool)], [(6, .cons (.int .i64) (.cons (.sl) (.nil)))]⟩), (19, ⟨[], [(6, .cons (.int .i64) (.cons (.sl) (.nil)))]⟩)], [], []⟩
def f29_vc (m_0 : Int) (m_1a : Option Addr) (m_1n : Nat) (m_1c : Nat) (x_0 : Int) (x_1 : Int) (x_2 : Int) (x_3a : Option Addr) (x_3n : Nat) (x_3c : Nat) (w : World) (R : Ending → World → Prop) : Prop :=
 ∀ (n1 : Nat),
 w.heap.size ≤ n1 →
 ∀ (n2 : Nat),
 w.heap.size ≤ n2 →
 ∀ (n3 : Nat),
 w.heap.size ≤ n3 →
 (decide (x_0 < 1) = true → ∀ (w4 : World), Evo [n3] w w4 → Under [n1, n2, n3] w4 → R (Ending.returned (Value.tuple #[Value.agg #[Value.int IntKind.i64 m_0, Value.slice m_1a m_1n m_1c], Value.int IntKind.i64 41])) w4) ∧
 (decide (x_0 < 1) = false →
 (decide (x_1 < 1) = true → ∀ (w5 : World), Evo [n3] w w5 → Under [n1, n2, n3] w5 → R (Ending.returned (Value.tuple #[Value.agg #[Value.int IntKind.i64 m_0, Value.slice m_1a m_1n m_1c], Value.int IntKind.i64 41])) w5) ∧
 (decide (x_1 < 1) = false →
 (decide (x_2 < 1) = true → ∀ (w6 : World), Evo [n3] w w6 → Under [n1, n2, n3] w6 → R (Ending.returned (Value.tuple #[Value.agg #[Value.int IntKind.i64 m_0, Value.slice m_1a m_1n m_1c], Value.int IntKind.i64 41])) w6) ∧
 (decide (x_2 < 1) = false →
 (((↑x_3n : Int) == 0) = true →
 ∀ (w7 : World), Evo [n3] w w7 → Under [n1, n2, n3] w7 → R (Ending.returned (Value.tuple #[Value.agg #[Value.int IntKind.i64 m_0, Value.slice m_1a m_1n m_1c], Value.int IntKind.i64 41])) w7) ∧
 (((↑x_3n : Int) == 0) = false →
 ∀ (w8 : World),
 Bel w w8 →
 Under [n1, n2, n3] w8 →
 Calls Proofs.Try.prog 83 #[Value.slice x_3a x_3n x_3c] w8 fun (e9 : Ending) (w10 : World) =>
 ∃ (b11 : Bool),
 e9 = Ending.returned (Value.bool b11) ∧
 Keeps [n1, n2, n3] w8 w10 ∧
 ((!b11) = true →
 ∀ (w12 : World),
 Evo [n3] w10 w12 → Under [n1, n2, n3] w12 → R (Ending.returned (Value.tuple #[Value.agg #[Value.int IntKind.i64 m_0, Value.slice m_1a m_1n m_1c], Value.int IntKind.i64 41])) w12) ∧
 ((!b11) = false →
 Calls Proofs.Try.prog 23 #[Value.agg #[Value.int IntKind.i64 m_0, Value.slice m_1a m_1n m_1c], Value.int IntKind.i64 x_0, Value.int IntKind.i64 x_1] w10 fun (e13 : Ending) (w14 : World) =>
 ∃ (x15 : Int),
 e13 = Ending.returned (Value.int IntKind.i64 x15) ∧
 Keeps [n1, n2, n3] w10 w14 ∧
 (decide (x15 ≥ 0) = true →
 ∀ (w16 : World),
 Evo [n3] w14 w16 → Under [n1, n2, n3] w16 → R (Ending.returned (Value.tuple #[Value.agg #[Value.int IntKind.i64 m_0, Value.slice m_1a m_1n m_1c], Value.int IntKind.i64 42])) w16) ∧
 (decide (x15 ≥ 0) = false →
 (decide ((↑m_1n : Int) ≥ m_0) = true →
 ∀ (w17 : World),
 Evo [n3] w14 w17 →
 Under [n1, n2, n3] w17 → R (Ending.returned (Value.tuple #[Value.agg #[Value.int IntKind.i64 m_0, Value.slice m_1a m_1n m_1c], Value.int IntKind.i64 32])) w17) ∧
 (decide ((↑m_1n : Int) ≥ m_0) = false →
 ∀ (n18 : Nat),
 w14.heap.size ≤ n18 →
 ∃ (J19 : Bool × Int × Int × (Option Addr × Nat × Nat) × Unit → World → Prop),
 ∃ (J20 : Bool × Int × Int × (Option Addr × Nat × Nat) × Unit → World → Nat),
 (∀ (w21 : World), Evo [n18] w14 w21 → Under [n1, n2, n3, n18] w21 → J19 (false, 0, m_0, (none, 0, 0), ()) w21) ∧
 ∀ (b22 : Bool) (x23 x24 : Int) (a25 : Option Addr) (n26 n27 : Nat) (w28 : World),
 J19 (b22, x23, x24, (a25, n26, n27), ()) w28 →
 (decide (x23 < (↑m_1n : Int)) = true →
 ∃ (ad29 : Addr),
 Gives Proofs.Try.prog (Instr.indexAt 44 (Value.slice m_1a m_1n m_1c) (Value.int IntKind.i64 x23)) (Value.pointer (some ad29)) ∧
 ∃ (x30 : Int),
 ∃ (x31 : Int),
 ∃ (x32 : Int),
 ∃ (a33 : Option Addr),
 ∃ (n34 : Nat),
 ∃ (n35 : Nat),
 Reads Proofs.Try.prog [] (Instr.loadAt 48 (Value.pointer (some ad29))) w28
 (Value.agg #[Value.int IntKind.i64 x30, Value.int IntKind.i64 x31, Value.int IntKind.i64 x32, Value.slice a33 n34 n35]) ∧
 ∀ (n36 : Nat),
 w28.heap.size ≤ n36 →
 ∃ (J37 : Bool × Int × (Option Addr × Nat × Nat) × Unit → World → Prop),
 (((!b22) = true →
 (decide (x30 > x_0) = true →
 ∀ (w38 : World),
 Evo [n36] w28 w38 →
 Under [n1, n2, n3, n18, n36] w38 →
 OpW Proofs.Try.prog
 (valueS
 (Instr.buildSlice 44 1
 #[(0,
 Value.agg
 #[Value.int IntKind.i64 x_0, Value.int IntKind.i64 x_1, Value.int IntKind.i64 x_2,
 Value.slice x_3a x_3n x_3c])]))
 w38 fun (v39 : Value) (w40 : World) =>
 ∃ (a41 : Option Addr),
 ∃ (n42 : Nat),
 ∃ (n43 : Nat),
 v39 = Value.slice a41 n42 n43 ∧
 Keeps [n1, n2, n3, n18, n36] w38 w40 ∧
 OpW Proofs.Try.prog
 (builtin Builtin.append #[44, 44] 44 #[false, false] #[Value.slice a25 n26 n27, Value.slice a41 n42 n43])
 w40 fun (v44 : Value) (w45 : World) =>
 ∃ (a46 : Option Addr),
 ∃ (n47 : Nat),
 ∃ (n48 : Nat),
 v44 = Value.slice a46 n47 n48 ∧
 Keeps [n1, n2, n3, n18, n36] w40 w45 ∧
 ∀ (w49 : World),
 Evo [n18] w45 w49 →
 Under [n1, n2, n3, n18, n36] w49 → J37 (true, x24, (a46, n47, n48), ()) w49) ∧
 (decide (x30 > x_0) = false →
 ((x30 == x_0) = true →
 (decide (x31 > x_1) = true →
 ∀ (w50 : World),
 Evo [n36] w28 w50 →
 Under [n1, n2, n3, n18, n36] w50 →
 OpW Proofs.Try.prog
 (valueS
 (Instr.buildSlice 44 1
 #[(0,
 Value.agg
 #[Value.int IntKind.i64 x_0, Value.int IntKind.i64 x_1, Value.int IntKind.i64 x_2,
 Value.slice x_3a x_3n x_3c])]))
 w50 fun (v51 : Value) (w52 : World) =>
 ∃ (a53 : Option Addr),
 ∃ (n54 : Nat),
 ∃ (n55 : Nat),
 v51 = Value.slice a53 n54 n55 ∧
 Keeps [n1, n2, n3, n18, n36] w50 w52 ∧
 OpW Proofs.Try.prog
 (builtin Builtin.append #[44, 44] 44 #[false, false]
 #[Value.slice a25 n26 n27, Value.slice a53 n54 n55])
 w52 fun (v56 : Value) (w57 : World) =>
 ∃ (a58 : Option Addr),
 ∃ (n59 : Nat),
 ∃ (n60 : Nat),
 v56 = Value.slice a58 n59 n60 ∧
 Keeps [n1, n2, n3, n18, n36] w52 w57 ∧
 ∀ (w61 : World),
 Evo [n18] w57 w61 →
 Under [n1, n2, n3, n18, n36] w61 → J37 (true, x24, (a58, n59, n60), ()) w61) ∧
 (decide (x31 > x_1) = false →
 ∀ (w62 : World), Evo [n36] w28 w62 → Under [n1, n2, n3, n18, n36] w62 → J37 (b22, x24, (a25, n26, n27), ()) w62)) ∧
 ((x30 == x_0) = false →
 ∀ (w63 : World), Evo [n36] w28 w63 → Under [n1, n2, n3, n18, n36] w63 → J37 (b22, x24, (a25, n26, n27), ()) w63))) ∧
 ((!b22) = false →
 ∀ (w64 : World), Evo [n36] w28 w64 → Under [n1, n2, n3, n18, n36] w64 → J37 (b22, x24, (a25, n26, n27), ()) w64)) ∧
 ∀ (b65 : Bool) (x66 : Int) (a67 : Option Addr) (n68 n69 : Nat) (w70 : World),
 J37 (b65, x66, (a67, n68, n69), ()) w70 →
 OpW Proofs.Try.prog
 (valueS
 (Instr.buildSlice 44 1
 #[(0,
 Value.agg
 #[Value.int IntKind.i64 x30, Value.int IntKind.i64 x31, Value.int IntKind.i64 x32, Value.slice a33 n34 n35])]))
 w70 fun (v71 : Value) (w72 : World) =>
 ∃ (a73 : Option Addr),
 ∃ (n74 : Nat),
 ∃ (n75 : Nat),
 v71 = Value.slice a73 n74 n75 ∧
 Keeps [n1, n2, n3, n18, n36] w70 w72 ∧
 OpW Proofs.Try.prog
 (builtin Builtin.append #[44, 44] 44 #[false, false] #[Value.slice a67 n68 n69, Value.slice a73 n74 n75]) w72
 fun (v76 : Value) (w77 : World) =>
 ∃ (a78 : Option Addr),
 ∃ (n79 : Nat),
 ∃ (n80 : Nat),
 v76 = Value.slice a78 n79 n80 ∧
 Keeps [n1, n2, n3, n18, n36] w72 w77 ∧
 ∀ (w81 : World),
 Evo [n18] w77 w81 →
 Under [n1, n2, n3, n18, n36] w81 →
 J19 (b65, IntKind.i64.wrap (x23 + 1), x66, (a78, n79, n80), ()) w81 ∧
 J20 (b65, IntKind.i64.wrap (x23 + 1), x66, (a78, n79, n80), ()) w81 <
 J20 (b22, x23, x24, (a25, n26, n27), ()) w28) ∧
 (decide (x23 < (↑m_1n : Int)) = false →
 ∃ (J82 : Int × (Option Addr × Nat × Nat) × Unit → World → Prop),
 (((!b22) = true →
 OpW Proofs.Try.prog
 (valueS
 (Instr.buildSlice 44 1
 #[(0, Value.agg #[Value.int IntKind.i64 x_0, Value.int IntKind.i64 x_1, Value.int IntKind.i64 x_2, Value.slice x_3a x_3n x_3c])]))
 w28 fun (v83 : Value) (w84 : World) =>
 ∃ (a85 : Option Addr),
 ∃ (n86 : Nat),
 ∃ (n87 : Nat),
 v83 = Value.slice a85 n86 n87 ∧
 Keeps [n1, n2, n3, n18] w28 w84 ∧
 OpW Proofs.Try.prog (builtin Builtin.append #[44, 44] 44 #[false, false] #[Value.slice a25 n26 n27, Value.slice a85 n86 n87]) w84
 fun (v88 : Value) (w89 : World) =>
 ∃ (a90 : Option Addr),
 ∃ (n91 : Nat),
 ∃ (n92 : Nat),
 v88 = Value.slice a90 n91 n92 ∧
 Keeps [n1, n2, n3, n18] w84 w89 ∧
 ∀ (w93 : World), Evo [n18] w89 w93 → Under [n1, n2, n3, n18] w93 → J82 (x24, (a90, n91, n92), ()) w93) ∧
 ((!b22) = false → J82 (x24, (a25, n26, n27), ()) w28)) ∧
 ∀ (x94 : Int) (a95 : Option Addr) (n96 n97 : Nat) (w98 : World),
 J82 (x94, (a95, n96, n97), ()) w98 →
 ∀ (w99 : World),
 Evo [n3] w98 w99 →
 Under [n1, n2, n3, n18] w99 →
 R (Ending.returned (Value.tuple #[Value.agg #[Value.int IntKind.i64 x94, Value.slice a95 n96 n97], Value.int IntKind.i64 0])) w99))))))))
theorem f29_eq (m_0 : Int) (m_1a : Option Addr) (m_1n : Nat) (m_1c : Nat) (x_0 : Int) (x_1 : Int) (x_2 : Int) (x_3a : Option Addr) (x_3n : Nat) (x_3c : Nat) (w : World) (R : Ending → World → Prop) : (fnF Go.Proofs.Try.prog h29 Go.Proofs.Try.f29 [Value.agg #[Value.int IntKind.i64 m_0, Value.slice m_1a m_1n m_1c], Value.agg #[Value.int IntKind.i64 x_0, Value.int IntKind.i64 x_1, Value.int IntKind.i64 x_2, Value.slice x_3a x_3n x_3c]] w R).den = f29_vc m_0 m_1a m_1n m_1c x_0 x_1 x_2 x_3a x_3n x_3c w R := by kernel_rfl
theorem f29_calls (m_0 : Int) (m_1a : Option Addr) (m_1n : Nat) (m_1c : Nat) (x_0 : Int) (x_1 : Int) (x_2 : Int) (x_3a : Option Addr) (x_3n : Nat) (x_3c : Nat) (w : World) (R : Ending → World → Prop) (h : f29_vc m_0 m_1a m_1n m_1c x_0 x_1 x_2 x_3a x_3n x_3c w R) : Calls Go.Proofs.Try.prog 29 (List.toArray [Value.agg #[Value.int IntKind.i64 m_0, Value.slice m_1a m_1n m_1c], Value.agg #[Value.int IntKind.i64 x_0, Value.int IntKind.i64 x_1, Value.int IntKind.i64 x_2, Value.slice x_3a x_3n x_3c]]) w R :=
 fn_sound (H := h29) (fn := Go.Proofs.Try.f29) (by kernel_rfl) (by kernel_rfl) (by kernel_rfl) ((f29_eq m_0 m_1a m_1n m_1c x_0 x_1 x_2 x_3a x_3n x_3c w R).mpr h)


/-! (*manciple/tasks.Table).Launch -/
def h30 : Hints := ⟨[3, 5], [50, 55, 64], [16, 20, 46, 48, 24, 29, 34, 40], [(8, [0, 1, 2, 3, 4, 5, 6, 7, 8, 9, 10]), (11, [0, 1, 2, 3, 4, 5, 6, 7, 8, 9, 10])], [], [], [], [], []⟩
def f30_vc (t : Option Addr) (x_0 : Int) (x_1 : Int) (x_2 : Int) (x_3a : Option Addr) (x_3n : Nat) (x_3c : Nat) (w : World) (R : Ending → World → Prop) : Prop :=
 ∀ (n1 : Nat),
 w.heap.size ≤ n1 →
 ∀ (w2 : World),
 Bel w w2 →
 Under [n1] w2 →
 Calls Proofs.Try.prog 24 #[Value.pointer t, Value.int IntKind.i64 x_0, Value.int IntKind.i64 x_1] w2 fun (e3 : Ending) (w4 : World) =>
 ∃ (x5 : Int),
 ∃ (x6 : Int),
 ∃ (x7 : Int),
 ∃ (a8 : Option Addr),
 ∃ (n9 : Nat),
 ∃ (n10 : Nat),
 ∃ (b11 : Bool),
 e3 = Ending.returned (Value.tuple #[Value.agg #[Value.int IntKind.i64 x5, Value.int IntKind.i64 x6, Value.int IntKind.i64 x7, Value.slice a8 n9 n10], Value.bool b11]) ∧
 Keeps [n1] w2 w4 ∧
 ∀ (n12 : Nat),
 w4.heap.size ≤ n12 →
 ∀ (w13 : World),
 Evo [n12] w4 w13 →
 Under [n1, n12] w13 →
 Calls Proofs.Try.prog 81 #[Value.pointer t] w13 fun (e14 : Ending) (w15 : World) =>
 ∃ (b16 : Bool),
 e14 = Ending.returned (Value.bool b16) ∧
 Keeps [n1, n12] w13 w15 ∧
 ((!b16) = true → R (Ending.returned (Value.int IntKind.i64 40)) w15) ∧
 ((!b16) = false →
 (decide (x_0 < 1) = true → R (Ending.returned (Value.int IntKind.i64 41)) w15) ∧
 (decide (x_0 < 1) = false →
 (decide (x_1 < 1) = true → R (Ending.returned (Value.int IntKind.i64 41)) w15) ∧
 (decide (x_1 < 1) = false →
 (decide (x_2 < 1) = true → R (Ending.returned (Value.int IntKind.i64 41)) w15) ∧
 (decide (x_2 < 1) = false →
 (((↑x_3n : Int) == 0) = true → R (Ending.returned (Value.int IntKind.i64 41)) w15) ∧
 (((↑x_3n : Int) == 0) = false →
 Calls Proofs.Try.prog 17 #[Value.slice x_3a x_3n x_3c] w15 fun (e17 : Ending) (w18 : World) =>
 ∃ (b19 : Bool),
 e17 = Ending.returned (Value.bool b19) ∧
 Keeps [n1, n12] w15 w18 ∧
 ((!b19) = true → R (Ending.returned (Value.int IntKind.i64 41)) w18) ∧
 ((!b19) = false →
 (b11 = true → R (Ending.returned (Value.int IntKind.i64 42)) w18) ∧
 (b11 = false →
 ∃ (ad20 : Addr),
 t = some ad20 ∧
 ∃ (r21 : Option Nat),
 Reads Proofs.Try.prog [] (Instr.loadAt 69 (Value.pointer (some (Addr.mk ad20.block (ad20.off + 1) none)))) w18 (Value.map r21) ∧
 ∃ (x22 : Int),
 Reads Proofs.Try.prog [] (Builtin.len_ #[69] 3 #[Value.map r21]) w18 (Value.int IntKind.i64 x22) ∧
 ∃ (ad23 : Addr),
 t = some ad23 ∧
 ∃ (x24 : Int),
 Reads Proofs.Try.prog [] (Instr.loadAt 3 (Value.pointer (some ad23))) w18 (Value.int IntKind.i64 x24) ∧
 (decide (x22 ≥ x24) = true → ∀ (w25 : World), Bel w18 w25 → Under [n1, n12] w25 → R (Ending.returned (Value.int IntKind.i64 32)) w25) ∧
 (decide (x22 ≥ x24) = false →
 ∀ (w26 : World),
 Bel w18 w26 →
 Under [n1, n12] w26 →
 Calls Proofs.Try.prog 79 #[Value.slice x_3a x_3n x_3c] w26 fun (e27 : Ending) (w28 : World) =>
 ∃ (a29 : Option Addr),
 ∃ (n30 : Nat),
 ∃ (n31 : Nat),
 e27 = Ending.returned (Value.slice a29 n30 n31) ∧
 Keeps [n1, n12] w26 w28 ∧
 ∃ (ad32 : Addr),
 t = some ad32 ∧
 ∃ (r33 : Option Nat),
 Reads Proofs.Try.prog [n1] (Instr.loadAt 69 (Value.pointer (some (Addr.mk ad32.block (ad32.off + 1) none))))
 w28 (Value.map r33) ∧
 ∀ (w34 : World),
 Evo [n1] w28 w34 →
 Under [n1, n12] w34 →
 OpW Proofs.Try.prog
 (skipS
 (Instr.mapUpdate 69 (Value.map r33)
 (Value.agg #[Value.int IntKind.i64 x_0, Value.int IntKind.i64 x_1])
 (Value.agg
 #[Value.int IntKind.i64 x_0, Value.int IntKind.i64 x_1, Value.int IntKind.i64 x_2,
 Value.slice a29 n30 n31])))
 w34 fun (v35 : Value) (w36 : World) =>
 Keeps [n1, n12] w34 w36 ∧ R (Ending.returned (Value.int IntKind.i64 0)) w36))))))))
theorem f30_eq (t : Option Addr) (x_0 : Int) (x_1 : Int) (x_2 : Int) (x_3a : Option Addr) (x_3n : Nat) (x_3c : Nat) (w : World) (R : Ending → World → Prop) : (fnF Go.Proofs.Try.prog h30 Go.Proofs.Try.f30 [Value.pointer t, Value.agg #[Value.int IntKind.i64 x_0, Value.int IntKind.i64 x_1, Value.int IntKind.i64 x_2, Value.slice x_3a x_3n x_3c]] w R).den = f30_vc t x_0 x_1 x_2 x_3a x_3n x_3c w R := by kernel_rfl
theorem f30_calls (t : Option Addr) (x_0 : Int) (x_1 : Int) (x_2 : Int) (x_3a : Option Addr) (x_3n : Nat) (x_3c : Nat) (w : World) (R : Ending → World → Prop) (h : f30_vc t x_0 x_1 x_2 x_3a x_3n x_3c w R) : Calls Go.Proofs.Try.prog 30 (List.toArray [Value.pointer t, Value.agg #[Value.int IntKind.i64 x_0, Value.int IntKind.i64 x_1, Value.int IntKind.i64 x_2, Value.slice x_3a x_3n x_3c]]) w R :=
 fn_sound (H := h30) (fn := Go.Proofs.Try.f30) (by kernel_rfl) (by kernel_rfl) (by kernel_rfl) ((f30_eq t x_0 x_1 x_2 x_3a x_3n x_3c w R).mpr h)


/-! (*manciple/tasks.Table).All -/
def h31 : Hints := ⟨[], [], [], [], [], [], [], [], []⟩
def f31_vc (t : Option Addr) (w : World) (R : Ending → World → Prop) : Prop :=
 Calls Proofs.Try.prog 84 #[Value.pointer t, Value.func (Fn.func 85) #[] #[]] w fun (e1 : Ending) (w2 : World) =>
 ∃ (a3 : Option Addr), ∃ (n4 : Nat), ∃ (n5 : Nat), e1 = Ending.returned (Value.slice a3 n4 n5) ∧ R (Ending.returned (Value.slice a3 n4 n5)) w2
theorem f31_eq (t : Option Addr) (w : World) (R : Ending → World → Prop) : (fnF Go.Proofs.Try.prog h31 Go.Proofs.Try.f31 [Value.pointer t] w R).den = f31_vc t w R := by kernel_rfl
theorem f31_calls (t : Option Addr) (w : World) (R : Ending → World → Prop) (h : f31_vc t w R) : Calls Go.Proofs.Try.prog 31 (List.toArray [Value.pointer t]) w R :=
 fn_sound (H := h31) (fn := Go.Proofs.Try.f31) (by kernel_rfl) (by kernel_rfl) (by kernel_rfl) ((f31_eq t w R).mpr h)


/-! (*manciple/tasks.Table).Long -/
def h32 : Hints := ⟨[], [7], [5], [], [], [], [], [], []⟩
def f32_vc (t : Option Addr) (w : World) (R : Ending → World → Prop) : Prop :=
 Calls Proofs.Try.prog 81 #[Value.pointer t] w fun (e1 : Ending) (w2 : World) =>
 ∃ (b3 : Bool),
 e1 = Ending.returned (Value.bool b3) ∧
 ((!b3) = true → R (Ending.returned (Value.int IntKind.i64 0)) w2) ∧
 ((!b3) = false →
 ∃ (ad4 : Addr),
 t = some ad4 ∧
 ∃ (r5 : Option Nat),
 Reads Proofs.Try.prog [] (Instr.loadAt 69 (Value.pointer (some (Addr.mk ad4.block (ad4.off + 1) none)))) w2 (Value.map r5) ∧
 ∃ (x6 : Int), Reads Proofs.Try.prog [] (Builtin.len_ #[69] 3 #[Value.map r5]) w2 (Value.int IntKind.i64 x6) ∧ R (Ending.returned (Value.int IntKind.i64 x6)) w2)
theorem f32_eq (t : Option Addr) (w : World) (R : Ending → World → Prop) : (fnF Go.Proofs.Try.prog h32 Go.Proofs.Try.f32 [Value.pointer t] w R).den = f32_vc t w R := by kernel_rfl
theorem f32_calls (t : Option Addr) (w : World) (R : Ending → World → Prop) (h : f32_vc t w R) : Calls Go.Proofs.Try.prog 32 (List.toArray [Value.pointer t]) w R :=
 fn_sound (H := h32) (fn := Go.Proofs.Try.f32) (by kernel_rfl) (by kernel_rfl) (by kernel_rfl) ((f32_eq t w R).mpr h)


/-! (*manciple/tasks.Table).Of -/
def h33 : Hints := ⟨[], [], [], [], [], [], [], [], []⟩
def f33_vc (t : Option Addr) (frame : Int) (w : World) (R : Ending → World → Prop) : Prop :=
 OpW Proofs.Try.prog (valueS (Instr.box 2 (Value.int IntKind.i64 frame))) w fun (v1 : Value) (w2 : World) =>
 ∃ (ad3 : Addr),
 v1 = Value.pointer (some ad3) ∧
 Calls Proofs.Try.prog 84 #[Value.pointer t, Value.func (Fn.func 86) #[] #[Value.pointer (some ad3)]] w2 fun (e4 : Ending) (w5 : World) =>
 ∃ (a6 : Option Addr), ∃ (n7 : Nat), ∃ (n8 : Nat), e4 = Ending.returned (Value.slice a6 n7 n8) ∧ R (Ending.returned (Value.slice a6 n7 n8)) w5
theorem f33_eq (t : Option Addr) (frame : Int) (w : World) (R : Ending → World → Prop) : (fnF Go.Proofs.Try.prog h33 Go.Proofs.Try.f33 [Value.pointer t, Value.int IntKind.i64 frame] w R).den = f33_vc t frame w R := by kernel_rfl
theorem f33_calls (t : Option Addr) (frame : Int) (w : World) (R : Ending → World → Prop) (h : f33_vc t frame w R) : Calls Go.Proofs.Try.prog 33 (List.toArray [Value.pointer t, Value.int IntKind.i64 frame]) w R :=
 fn_sound (H := h33) (fn := Go.Proofs.Try.f33) (by kernel_rfl) (by kernel_rfl) (by kernel_rfl) ((f33_eq t frame w R).mpr h)


/-! (manciple/mancipleref25.M).Of -/
def h34 : Hints := ⟨[3], [19, 28, 38], [13, 33, 24], [], [], [(3, ⟨[(7, .sl), (8, .int .i64)], []⟩)], [], [], []⟩
def f34_vc (m_0 : Int) (m_1a : Option Addr) (m_1n : Nat) (m_1c : Nat) (frame : Int) (agent : Int) (w : World) (R : Ending → World → Prop) : Prop :=
 ∀ (n1 : Nat),
 w.heap.size ≤ n1 →
 ∃ (J2 : (Option Addr × Nat × Nat) × Int × Unit → World → Prop),
 ∃ (J3 : (Option Addr × Nat × Nat) × Int × Unit → World → Nat),
 (∀ (w4 : World), Bel w w4 → Under [n1] w4 → J2 ((none, 0, 0), 0, ()) w4) ∧
 ∀ (a5 : Option Addr) (n6 n7 : Nat) (x8 : Int) (w9 : World),
 J2 ((a5, n6, n7), x8, ()) w9 →
 (decide (x8 < (↑m_1n : Int)) = true →
 ∃ (ad10 : Addr),
 Gives Proofs.Try.prog (Instr.indexAt 44 (Value.slice m_1a m_1n m_1c) (Value.int IntKind.i64 x8)) (Value.pointer (some ad10)) ∧
 ∃ (x11 : Int),
 Reads Proofs.Try.prog [] (Instr.loadAt 2 (Value.pointer (some ad10))) w9 (Value.int IntKind.i64 x11) ∧
 ((x11 == frame) = true →
 ∃ (ad12 : Addr),
 Gives Proofs.Try.prog (Instr.indexAt 44 (Value.slice m_1a m_1n m_1c) (Value.int IntKind.i64 x8)) (Value.pointer (some ad12)) ∧
 ∃ (x13 : Int),
 ∃ (x14 : Int),
 ∃ (x15 : Int),
 ∃ (a16 : Option Addr),
 ∃ (n17 : Nat),
 ∃ (n18 : Nat),
 Reads Proofs.Try.prog [] (Instr.loadAt 48 (Value.pointer (some ad12))) w9
 (Value.agg #[Value.int IntKind.i64 x13, Value.int IntKind.i64 x14, Value.int IntKind.i64 x15, Value.slice a16 n17 n18]) ∧
 OpW Proofs.Try.prog (valueS (Instr.buildSlice 44 1 #[(0, Value.agg #[Value.int IntKind.i64 x13, Value.int IntKind.i64 x14, Value.int IntKind.i64 x15, Value.slice a16 n17 n18])])) w9
 fun (v19 : Value) (w20 : World) =>
 ∃ (a21 : Option Addr),
 ∃ (n22 : Nat),
 ∃ (n23 : Nat),
 v19 = Value.slice a21 n22 n23 ∧
 Keeps [n1] w9 w20 ∧
 OpW Proofs.Try.prog (builtin Builtin.append #[44, 44] 44 #[false, false] #[Value.slice a5 n6 n7, Value.slice a21 n22 n23]) w20 fun (v24 : Value) (w25 : World) =>
 ∃ (a26 : Option Addr),
 ∃ (n27 : Nat),
 ∃ (n28 : Nat),
 v24 = Value.slice a26 n27 n28 ∧
 Keeps [n1] w20 w25 ∧ J2 ((a26, n27, n28), IntKind.i64.wrap (x8 + 1), ()) w25 ∧ J3 ((a26, n27, n28), IntKind.i64.wrap (x8 + 1), ()) w25 < J3 ((a5, n6, n7), x8, ()) w9) ∧
 ((x11 == frame) = false →
 ∃ (ad29 : Addr),
 Gives Proofs.Try.prog (Instr.indexAt 44 (Value.slice m_1a m_1n m_1c) (Value.int IntKind.i64 x8)) (Value.pointer (some ad29)) ∧
 ∃ (x30 : Int),
 Reads Proofs.Try.prog [] (Instr.loadAt 2 (Value.pointer (some (Addr.mk ad29.block (ad29.off + 2) none)))) w9 (Value.int IntKind.i64 x30) ∧
 ((x30 == agent) = true →
 ∃ (ad31 : Addr),
 Gives Proofs.Try.prog (Instr.indexAt 44 (Value.slice m_1a m_1n m_1c) (Value.int IntKind.i64 x8)) (Value.pointer (some ad31)) ∧
 ∃ (x32 : Int),
 ∃ (x33 : Int),
 ∃ (x34 : Int),
 ∃ (a35 : Option Addr),
 ∃ (n36 : Nat),
 ∃ (n37 : Nat),
 Reads Proofs.Try.prog [] (Instr.loadAt 48 (Value.pointer (some ad31))) w9
 (Value.agg #[Value.int IntKind.i64 x32, Value.int IntKind.i64 x33, Value.int IntKind.i64 x34, Value.slice a35 n36 n37]) ∧
 OpW Proofs.Try.prog (valueS (Instr.buildSlice 44 1 #[(0, Value.agg #[Value.int IntKind.i64 x32, Value.int IntKind.i64 x33, Value.int IntKind.i64 x34, Value.slice a35 n36 n37])]))
 w9 fun (v38 : Value) (w39 : World) =>
 ∃ (a40 : Option Addr),
 ∃ (n41 : Nat),
 ∃ (n42 : Nat),
 v38 = Value.slice a40 n41 n42 ∧
 Keeps [n1] w9 w39 ∧
 OpW Proofs.Try.prog (builtin Builtin.append #[44, 44] 44 #[false, false] #[Value.slice a5 n6 n7, Value.slice a40 n41 n42]) w39 fun (v43 : Value) (w44 : World) =>
 ∃ (a45 : Option Addr),
 ∃ (n46 : Nat),
 ∃ (n47 : Nat),
 v43 = Value.slice a45 n46 n47 ∧
 Keeps [n1] w39 w44 ∧
 J2 ((a45, n46, n47), IntKind.i64.wrap (x8 + 1), ()) w44 ∧ J3 ((a45, n46, n47), IntKind.i64.wrap (x8 + 1), ()) w44 < J3 ((a5, n6, n7), x8, ()) w9) ∧
 ((x30 == agent) = false → J2 ((a5, n6, n7), IntKind.i64.wrap (x8 + 1), ()) w9 ∧ J3 ((a5, n6, n7), IntKind.i64.wrap (x8 + 1), ()) w9 < J3 ((a5, n6, n7), x8, ()) w9))) ∧
 (decide (x8 < (↑m_1n : Int)) = false → R (Ending.returned (Value.slice a5 n6 n7)) w9)
theorem f34_eq (m_0 : Int) (m_1a : Option Addr) (m_1n : Nat) (m_1c : Nat) (frame : Int) (agent : Int) (w : World) (R : Ending → World → Prop) : (fnF Go.Proofs.Try.prog h34 Go.Proofs.Try.f34 [Value.agg #[Value.int IntKind.i64 m_0, Value.slice m_1a m_1n m_1c], Value.int IntKind.i64 frame, Value.int IntKind.i64 agent] w R).den = f34_vc m_0 m_1a m_1n m_1c frame agent w R := by kernel_rfl
theorem f34_calls (m_0 : Int) (m_1a : Option Addr) (m_1n : Nat) (m_1c : Nat) (frame : Int) (agent : Int) (w : World) (R : Ending → World → Prop) (h : f34_vc m_0 m_1a m_1n m_1c frame agent w R) : Calls Go.Proofs.Try.prog 34 (List.toArray [Value.agg #[Value.int IntKind.i64 m_0, Value.slice m_1a m_1n m_1c], Value.int IntKind.i64 frame, Value.int IntKind.i64 agent]) w R :=
 fn_sound (H := h34) (fn := Go.Proofs.Try.f34) (by kernel_rfl) (by kernel_rfl) (by kernel_rfl) ((f34_eq m_0 m_1a m_1n m_1c frame agent w R).mpr h)


/-! (*manciple/tasks.Table).On -/
def h35 : Hints := ⟨[], [], [], [], [], [], [], [], []⟩
def f35_vc (t : Option Addr) (agent : Int) (w : World) (R : Ending → World → Prop) : Prop :=
 OpW Proofs.Try.prog (valueS (Instr.box 2 (Value.int IntKind.i64 agent))) w fun (v1 : Value) (w2 : World) =>
 ∃ (ad3 : Addr),
 v1 = Value.pointer (some ad3) ∧
 Calls Proofs.Try.prog 84 #[Value.pointer t, Value.func (Fn.func 87) #[] #[Value.pointer (some ad3)]] w2 fun (e4 : Ending) (w5 : World) =>
 ∃ (a6 : Option Addr), ∃ (n7 : Nat), ∃ (n8 : Nat), e4 = Ending.returned (Value.slice a6 n7 n8) ∧ R (Ending.returned (Value.slice a6 n7 n8)) w5
theorem f35_eq (t : Option Addr) (agent : Int) (w : World) (R : Ending → World → Prop) : (fnF Go.Proofs.Try.prog h35 Go.Proofs.Try.f35 [Value.pointer t, Value.int IntKind.i64 agent] w R).den = f35_vc t agent w R := by kernel_rfl
theorem f35_calls (t : Option Addr) (agent : Int) (w : World) (R : Ending → World → Prop) (h : f35_vc t agent w R) : Calls Go.Proofs.Try.prog 35 (List.toArray [Value.pointer t, Value.int IntKind.i64 agent]) w R :=
 fn_sound (H := h35) (fn := Go.Proofs.Try.f35) (by kernel_rfl) (by kernel_rfl) (by kernel_rfl) ((f35_eq t agent w R).mpr h)


/-! (*manciple/tasks.Table).Sum -/
def h36 : Hints := ⟨[4, 5, 7, 8], [16], [15, 27], [], [], [(3, ⟨[(14, .int .i64)], [(4, .cons (.int .i64) (.cons (.int .i64) (.cons (.int .i64) (.cons (.int .i64) (.nil))))), (5, .cons (.int .i64) (.cons (.int .i64) (.cons (.int .i64) (.cons (.int .i64) (.nil)))))]⟩)], [], [], [(5, (.op 0 (.op 1 (.op 2 (.alt (.op 3 (.alt (.op 4 (.op 5 (.op 6 (.op 7 (.op 8 (.op 9 (.op 10 .nil))))))) (.op 8 (.op 4 (.op 5 (.op 6 (.op 7 (.op 9 (.op 10 .nil))))))))) (.op 8 (.op 3 (.op 4 (.op 5 (.op 6 (.op 7 (.op 9 (.op 10 .nil)))))))))))))]⟩
def f36_vc (t : Option Addr) (frame : Int) (w : World) (R : Ending → World → Prop) : Prop :=
 ∀ (n1 : Nat),
 w.heap.size ≤ n1 →
 ∀ (n2 : Nat),
 w.heap.size ≤ n2 →
 ∀ (w3 : World),
 Bel w w3 →
 Under [n1, n2] w3 →
 Calls Proofs.Try.prog 33 #[Value.pointer t, Value.int IntKind.i64 frame] w3 fun (e4 : Ending) (w5 : World) =>
 ∃ (a6 : Option Addr),
 ∃ (n7 : Nat),
 ∃ (n8 : Nat),
 e4 = Ending.returned (Value.slice a6 n7 n8) ∧
 Keeps [n1, n2] w3 w5 ∧
 ∃ (J9 : Int × Int × Int × Int × Int × Int × Int × Int × Int × Unit → World → Prop),
 ∃ (J10 : Int × Int × Int × Int × Int × Int × Int × Int × Int × Unit → World → Nat),
 J9 (0, 0, 0, 0, 0, 0, 0, 0, 0, ()) w5 ∧
 ∀ (x11 x12 x13 x14 x15 x16 x17 x18 x19 : Int) (w20 : World),
 J9 (x11, x12, x13, x14, x15, x16, x17, x18, x19, ()) w20 →
 (decide (x11 < (↑n7 : Int)) = true →
 ∃ (ad21 : Addr),
 Gives Proofs.Try.prog (Instr.indexAt 44 (Value.slice a6 n7 n8) (Value.int IntKind.i64 x11)) (Value.pointer (some ad21)) ∧
 ∃ (x22 : Int),
 ∃ (x23 : Int),
 ∃ (x24 : Int),
 ∃ (a25 : Option Addr),
 ∃ (n26 : Nat),
 ∃ (n27 : Nat),
 Reads Proofs.Try.prog [] (Instr.loadAt 48 (Value.pointer (some ad21))) w20
 (Value.agg #[Value.int IntKind.i64 x22, Value.int IntKind.i64 x23, Value.int IntKind.i64 x24, Value.slice a25 n26 n27]) ∧
 ∀ (n28 : Nat),
 w20.heap.size ≤ n28 →
 (∀ (w29 : World),
 Evo [n28] w20 w29 →
 Under [n1, n2, n28] w29 →
 Calls Proofs.Try.prog 50 #[Value.slice a25 n26 n27] w29 fun (e30 : Ending) (w31 : World) =>
 ∃ (x32 : Int),
 ∃ (x33 : Int),
 ∃ (x34 : Int),
 ∃ (x35 : Int),
 e30 = Ending.returned (Value.agg #[Value.int IntKind.i64 x32, Value.int IntKind.i64 x33, Value.int IntKind.i64 x34, Value.int IntKind.i64 x35]) ∧
 Keeps [n1, n2, n28] w29 w31 ∧
 (Calls Proofs.Try.prog 49
 #[Value.agg #[Value.int IntKind.i64 x16, Value.int IntKind.i64 x17, Value.int IntKind.i64 x18, Value.int IntKind.i64 x19],
 Value.agg #[Value.int IntKind.i64 x32, Value.int IntKind.i64 x33, Value.int IntKind.i64 x34, Value.int IntKind.i64 x35]]
 w31 fun (e36 : Ending) (w37 : World) =>
 ∃ (x38 : Int),
 ∃ (x39 : Int),
 ∃ (x40 : Int),
 ∃ (x41 : Int),
 ∃ (b42 : Bool),
 e36 =
 Ending.returned
 (Value.tuple
 #[Value.agg #[Value.int IntKind.i64 x38, Value.int IntKind.i64 x39, Value.int IntKind.i64 x40, Value.int IntKind.i64 x41],
 Value.bool b42]) ∧
 Keeps [n1, n2, n28] w31 w37 ∧
 ∀ (n43 : Nat),
 w37.heap.size ≤ n43 →
 ((!b42) = true →
 ∀ (w44 : World),
 Evo [n1, n43] w37 w44 →
 Under [n1, n2, n28, n43] w44 →
 R
 (Ending.returned
 (Value.agg #[Value.int IntKind.i64 0, Value.int IntKind.i64 0, Value.int IntKind.i64 0, Value.int IntKind.i64 0]))
 w44) ∧
 ((!b42) = false →
 ∀ (w45 : World),
 Evo [n2, n43] w37 w45 →
 Under [n1, n2, n28, n43] w45 →
 J9 (IntKind.i64.wrap (x11 + 1), x12, x13, x14, x15, x38, x39, x40, x41, ()) w45 ∧
 J10 (IntKind.i64.wrap (x11 + 1), x12, x13, x14, x15, x38, x39, x40, x41, ()) w45 <
 J10 (x11, x12, x13, x14, x15, x16, x17, x18, x19, ()) w20)) ∧
 ∀ (n46 : Nat),
 w31.heap.size ≤ n46 →
 ∀ (w47 : World),
 Bel w31 w47 →
 Under [n1, n2, n28, n46] w47 →
 Calls Proofs.Try.prog 49
 #[Value.agg #[Value.int IntKind.i64 x16, Value.int IntKind.i64 x17, Value.int IntKind.i64 x18, Value.int IntKind.i64 x19],
 Value.agg #[Value.int IntKind.i64 x32, Value.int IntKind.i64 x33, Value.int IntKind.i64 x34, Value.int IntKind.i64 x35]]
 w47 fun (e48 : Ending) (w49 : World) =>
 ∃ (x50 : Int),
 ∃ (x51 : Int),
 ∃ (x52 : Int),
 ∃ (x53 : Int),
 ∃ (b54 : Bool),
 e48 =
 Ending.returned
 (Value.tuple
 #[Value.agg #[Value.int IntKind.i64 x50, Value.int IntKind.i64 x51, Value.int IntKind.i64 x52, Value.int IntKind.i64 x53],
 Value.bool b54]) ∧
 Keeps [n1, n2, n28, n46] w47 w49 ∧
 ((!b54) = true →
 ∀ (w55 : World),
 Evo [n1, n46] w49 w55 →
 Under [n1, n2, n28, n46] w55 →
 R
 (Ending.returned
 (Value.agg #[Value.int IntKind.i64 0, Value.int IntKind.i64 0, Value.int IntKind.i64 0, Value.int IntKind.i64 0]))
 w55) ∧
 ((!b54) = false →
 ∀ (w56 : World),
 Evo [n2, n46] w49 w56 →
 Under [n1, n2, n28, n46] w56 →
 J9 (IntKind.i64.wrap (x11 + 1), x12, x13, x14, x15, x50, x51, x52, x53, ()) w56 ∧
 J10 (IntKind.i64.wrap (x11 + 1), x12, x13, x14, x15, x50, x51, x52, x53, ()) w56 <
 J10 (x11, x12, x13, x14, x15, x16, x17, x18, x19, ()) w20)) ∧
 ∀ (n57 : Nat),
 w20.heap.size ≤ n57 →
 ∀ (w58 : World),
 Evo [n28] w20 w58 →
 Under [n1, n2, n28, n57] w58 →
 Calls Proofs.Try.prog 50 #[Value.slice a25 n26 n27] w58 fun (e59 : Ending) (w60 : World) =>
 ∃ (x61 : Int),
 ∃ (x62 : Int),
 ∃ (x63 : Int),
 ∃ (x64 : Int),
 e59 = Ending.returned (Value.agg #[Value.int IntKind.i64 x61, Value.int IntKind.i64 x62, Value.int IntKind.i64 x63, Value.int IntKind.i64 x64]) ∧
 Keeps [n1, n2, n28, n57] w58 w60 ∧
 Calls Proofs.Try.prog 49
 #[Value.agg #[Value.int IntKind.i64 x16, Value.int IntKind.i64 x17, Value.int IntKind.i64 x18, Value.int IntKind.i64 x19],
 Value.agg #[Value.int IntKind.i64 x61, Value.int IntKind.i64 x62, Value.int IntKind.i64 x63, Value.int IntKind.i64 x64]]
 w60 fun (e65 : Ending) (w66 : World) =>
 ∃ (x67 : Int),
 ∃ (x68 : Int),
 ∃ (x69 : Int),
 ∃ (x70 : Int),
 ∃ (b71 : Bool),
 e65 =
 Ending.returned
 (Value.tuple
 #[Value.agg #[Value.int IntKind.i64 x67, Value.int IntKind.i64 x68, Value.int IntKind.i64 x69, Value.int IntKind.i64 x70],
 Value.bool b71]) ∧
 Keeps [n1, n2, n28, n57] w60 w66 ∧
 ((!b71) = true →
 ∀ (w72 : World),
 Evo [n1, n57] w66 w72 →
 Under [n1, n2, n28, n57] w72 →
 R
 (Ending.returned
 (Value.agg #[Value.int IntKind.i64 0, Value.int IntKind.i64 0, Value.int IntKind.i64 0, Value.int IntKind.i64 0]))
 w72) ∧
 ((!b71) = false →
 ∀ (w73 : World),
 Evo [n2, n57] w66 w73 →
 Under [n1, n2, n28, n57] w73 →
 J9 (IntKind.i64.wrap (x11 + 1), x12, x13, x14, x15, x67, x68, x69, x70, ()) w73 ∧
 J10 (IntKind.i64.wrap (x11 + 1), x12, x13, x14, x15, x67, x68, x69, x70, ()) w73 <
 J10 (x11, x12, x13, x14, x15, x16, x17, x18, x19, ()) w20)) ∧
 (decide (x11 < (↑n7 : Int)) = false →
 ∀ (w74 : World),
 Evo [n1] w20 w74 → Under [n1, n2] w74 → R (Ending.returned (Value.agg #[Value.int IntKind.i64 x16, Value.int IntKind.i64 x17, Value.int IntKind.i64 x18, Value.int IntKind.i64 x19])) w74)
theorem f36_eq (t : Option Addr) (frame : Int) (w : World) (R : Ending → World → Prop) : (fnF Go.Proofs.Try.prog h36 Go.Proofs.Try.f36 [Value.pointer t, Value.int IntKind.i64 frame] w R).den = f36_vc t frame w R := by kernel_rfl
theorem f36_calls (t : Option Addr) (frame : Int) (w : World) (R : Ending → World → Prop) (h : f36_vc t frame w R) : Calls Go.Proofs.Try.prog 36 (List.toArray [Value.pointer t, Value.int IntKind.i64 frame]) w R :=
 fn_sound (H := h36) (fn := Go.Proofs.Try.f36) (by kernel_rfl) (by kernel_rfl) (by kernel_rfl) ((f36_eq t frame w R).mpr h)


/-! (manciple/mancipleref25.M).Sum -/
def h37 : Hints := ⟨[2, 4, 5, 7], [19, 29], [13, 23, 37], [], [], [(3, ⟨[(6, .int .i64)], [(4, .cons (.int .i64) (.cons (.int .i64) (.cons (.int .i64) (.cons (.int .i64) (.nil))))), (5, .cons (.int .i64) (.cons (.int .i64) (.cons (.int .i64) (.cons (.int .i64) (.nil)))))]⟩)], [], [], [(6, (.op 0 (.op 1 (.op 2 (.op 3 (.op 4 (.op 5 (.op 6 (.alt (.op 7 (.alt (.op 8 (.op 9 (.op 10 (.op 11 (.op 12 (.op 13 (.op 14 .nil))))))) (.op 12 (.op 8 (.op 9 (.op 10 (.op 11 (.op 13 (.op 14 .nil))))))))) (.op 12 (.op 7 (.op 8 (.op 9 (.op 10 (.op 11 (.op 13 (.op 14 .nil)))))))))))))))))]⟩
def f37_vc (m_0 : Int) (m_1a : Option Addr) (m_1n : Nat) (m_1c : Nat) (frame : Int) (w : World) (R : Ending → World → Prop) : Prop :=
 ∀ (n1 : Nat),
 w.heap.size ≤ n1 →
 ∀ (n2 : Nat),
 w.heap.size ≤ n2 →
 ∀ (n3 : Nat),
 w.heap.size ≤ n3 →
 ∃ (J4 : Int × Int × Int × Int × Int × Int × Int × Int × Int × Unit → World → Prop),
 ∃ (J5 : Int × Int × Int × Int × Int × Int × Int × Int × Int × Unit → World → Nat),
 (∀ (w6 : World), Bel w w6 → Under [n1, n2, n3] w6 → J4 (0, 0, 0, 0, 0, 0, 0, 0, 0, ()) w6) ∧
 ∀ (x7 x8 x9 x10 x11 x12 x13 x14 x15 : Int) (w16 : World),
 J4 (x7, x8, x9, x10, x11, x12, x13, x14, x15, ()) w16 →
 (decide (x7 < (↑m_1n : Int)) = true →
 ∃ (ad17 : Addr),
 Gives Proofs.Try.prog (Instr.indexAt 44 (Value.slice m_1a m_1n m_1c) (Value.int IntKind.i64 x7)) (Value.pointer (some ad17)) ∧
 ∃ (x18 : Int),
 Reads Proofs.Try.prog [] (Instr.loadAt 2 (Value.pointer (some ad17))) w16 (Value.int IntKind.i64 x18) ∧
 ((x18 == frame) = true →
 ∃ (ad19 : Addr),
 Gives Proofs.Try.prog (Instr.indexAt 44 (Value.slice m_1a m_1n m_1c) (Value.int IntKind.i64 x7)) (Value.pointer (some ad19)) ∧
 ∃ (a20 : Option Addr),
 ∃ (n21 : Nat),
 ∃ (n22 : Nat),
 Reads Proofs.Try.prog [] (Instr.loadAt 23 (Value.pointer (some (Addr.mk ad19.block (ad19.off + 3) none)))) w16 (Value.slice a20 n21 n22) ∧
 (∀ (w23 : World),
 Bel w16 w23 →
 Under [n1, n2, n3] w23 →
 Calls Proofs.Try.prog 89 #[Value.slice a20 n21 n22] w23 fun (e24 : Ending) (w25 : World) =>
 ∃ (x26 : Int),
 ∃ (x27 : Int),
 ∃ (x28 : Int),
 ∃ (x29 : Int),
 e24 = Ending.returned (Value.agg #[Value.int IntKind.i64 x26, Value.int IntKind.i64 x27, Value.int IntKind.i64 x28, Value.int IntKind.i64 x29]) ∧
 Keeps [n1, n2, n3] w23 w25 ∧
 (Calls Proofs.Try.prog 88
 #[Value.agg #[Value.int IntKind.i64 x12, Value.int IntKind.i64 x13, Value.int IntKind.i64 x14, Value.int IntKind.i64 x15],
 Value.agg #[Value.int IntKind.i64 x26, Value.int IntKind.i64 x27, Value.int IntKind.i64 x28, Value.int IntKind.i64 x29]]
 w25 fun (e30 : Ending) (w31 : World) =>
 ∃ (x32 : Int),
 ∃ (x33 : Int),
 ∃ (x34 : Int),
 ∃ (x35 : Int),
 ∃ (b36 : Bool),
 e30 =
 Ending.returned
 (Value.tuple
 #[Value.agg #[Value.int IntKind.i64 x32, Value.int IntKind.i64 x33, Value.int IntKind.i64 x34, Value.int IntKind.i64 x35], Value.bool b36]) ∧
 Keeps [n1, n2, n3] w25 w31 ∧
 ∀ (n37 : Nat),
 w31.heap.size ≤ n37 →
 ((!b36) = true →
 ∀ (w38 : World),
 Evo [n2, n37] w31 w38 →
 Under [n1, n2, n3, n37] w38 →
 R (Ending.returned (Value.agg #[Value.int IntKind.i64 0, Value.int IntKind.i64 0, Value.int IntKind.i64 0, Value.int IntKind.i64 0]))
 w38) ∧
 ((!b36) = false →
 ∀ (w39 : World),
 Evo [n3, n37] w31 w39 →
 Under [n1, n2, n3, n37] w39 →
 J4 (IntKind.i64.wrap (x7 + 1), x8, x9, x10, x11, x32, x33, x34, x35, ()) w39 ∧
 J5 (IntKind.i64.wrap (x7 + 1), x8, x9, x10, x11, x32, x33, x34, x35, ()) w39 <
 J5 (x7, x8, x9, x10, x11, x12, x13, x14, x15, ()) w16)) ∧
 ∀ (n40 : Nat),
 w25.heap.size ≤ n40 →
 ∀ (w41 : World),
 Bel w25 w41 →
 Under [n1, n2, n3, n40] w41 →
 Calls Proofs.Try.prog 88
 #[Value.agg #[Value.int IntKind.i64 x12, Value.int IntKind.i64 x13, Value.int IntKind.i64 x14, Value.int IntKind.i64 x15],
 Value.agg #[Value.int IntKind.i64 x26, Value.int IntKind.i64 x27, Value.int IntKind.i64 x28, Value.int IntKind.i64 x29]]
 w41 fun (e42 : Ending) (w43 : World) =>
 ∃ (x44 : Int),
 ∃ (x45 : Int),
 ∃ (x46 : Int),
 ∃ (x47 : Int),
 ∃ (b48 : Bool),
 e42 =
 Ending.returned
 (Value.tuple
 #[Value.agg #[Value.int IntKind.i64 x44, Value.int IntKind.i64 x45, Value.int IntKind.i64 x46, Value.int IntKind.i64 x47],
 Value.bool b48]) ∧
 Keeps [n1, n2, n3, n40] w41 w43 ∧
 ((!b48) = true →
 ∀ (w49 : World),
 Evo [n2, n40] w43 w49 →
 Under [n1, n2, n3, n40] w49 →
 R
 (Ending.returned
 (Value.agg #[Value.int IntKind.i64 0, Value.int IntKind.i64 0, Value.int IntKind.i64 0, Value.int IntKind.i64 0]))
 w49) ∧
 ((!b48) = false →
 ∀ (w50 : World),
 Evo [n3, n40] w43 w50 →
 Under [n1, n2, n3, n40] w50 →
 J4 (IntKind.i64.wrap (x7 + 1), x8, x9, x10, x11, x44, x45, x46, x47, ()) w50 ∧
 J5 (IntKind.i64.wrap (x7 + 1), x8, x9, x10, x11, x44, x45, x46, x47, ()) w50 <
 J5 (x7, x8, x9, x10, x11, x12, x13, x14, x15, ()) w16)) ∧
 ∀ (n51 : Nat),
 w16.heap.size ≤ n51 →
 Reads Proofs.Try.prog [] (Instr.loadAt 23 (Value.pointer (some (Addr.mk ad19.block (ad19.off + 3) none)))) w16 (Value.slice a20 n21 n22) ∧
 ∀ (w52 : World),
 Bel w16 w52 →
 Under [n1, n2, n3, n51] w52 →
 Calls Proofs.Try.prog 89 #[Value.slice a20 n21 n22] w52 fun (e53 : Ending) (w54 : World) =>
 ∃ (x55 : Int),
 ∃ (x56 : Int),
 ∃ (x57 : Int),
 ∃ (x58 : Int),
 e53 = Ending.returned (Value.agg #[Value.int IntKind.i64 x55, Value.int IntKind.i64 x56, Value.int IntKind.i64 x57, Value.int IntKind.i64 x58]) ∧
 Keeps [n1, n2, n3, n51] w52 w54 ∧
 Calls Proofs.Try.prog 88
 #[Value.agg #[Value.int IntKind.i64 x12, Value.int IntKind.i64 x13, Value.int IntKind.i64 x14, Value.int IntKind.i64 x15],
 Value.agg #[Value.int IntKind.i64 x55, Value.int IntKind.i64 x56, Value.int IntKind.i64 x57, Value.int IntKind.i64 x58]]
 w54 fun (e59 : Ending) (w60 : World) =>
 ∃ (x61 : Int),
 ∃ (x62 : Int),
 ∃ (x63 : Int),
 ∃ (x64 : Int),
 ∃ (b65 : Bool),
 e59 =
 Ending.returned
 (Value.tuple
 #[Value.agg #[Value.int IntKind.i64 x61, Value.int IntKind.i64 x62, Value.int IntKind.i64 x63, Value.int IntKind.i64 x64], Value.bool b65]) ∧
 Keeps [n1, n2, n3, n51] w54 w60 ∧
 ((!b65) = true →
 ∀ (w66 : World),
 Evo [n2, n51] w60 w66 →
 Under [n1, n2, n3, n51] w66 →
 R (Ending.returned (Value.agg #[Value.int IntKind.i64 0, Value.int IntKind.i64 0, Value.int IntKind.i64 0, Value.int IntKind.i64 0]))
 w66) ∧
 ((!b65) = false →
 ∀ (w67 : World),
 Evo [n3, n51] w60 w67 →
 Under [n1, n2, n3, n51] w67 →
 J4 (IntKind.i64.wrap (x7 + 1), x8, x9, x10, x11, x61, x62, x63, x64, ()) w67 ∧
 J5 (IntKind.i64.wrap (x7 + 1), x8, x9, x10, x11, x61, x62, x63, x64, ()) w67 <
 J5 (x7, x8, x9, x10, x11, x12, x13, x14, x15, ()) w16)) ∧
 ((x18 == frame) = false →
 J4 (IntKind.i64.wrap (x7 + 1), x8, x9, x10, x11, x12, x13, x14, x15, ()) w16 ∧
 J5 (IntKind.i64.wrap (x7 + 1), x8, x9, x10, x11, x12, x13, x14, x15, ()) w16 < J5 (x7, x8, x9, x10, x11, x12, x13, x14, x15, ()) w16)) ∧
 (decide (x7 < (↑m_1n : Int)) = false →
 ∀ (w68 : World), Evo [n2] w16 w68 → Under [n1, n2, n3] w68 → R (Ending.returned (Value.agg #[Value.int IntKind.i64 x12, Value.int IntKind.i64 x13, Value.int IntKind.i64 x14, Value.int IntKind.i64 x15])) w68)
theorem f37_eq (m_0 : Int) (m_1a : Option Addr) (m_1n : Nat) (m_1c : Nat) (frame : Int) (w : World) (R : Ending → World → Prop) : (fnF Go.Proofs.Try.prog h37 Go.Proofs.Try.f37 [Value.agg #[Value.int IntKind.i64 m_0, Value.slice m_1a m_1n m_1c], Value.int IntKind.i64 frame] w R).den = f37_vc m_0 m_1a m_1n m_1c frame w R := by kernel_rfl
theorem f37_calls (m_0 : Int) (m_1a : Option Addr) (m_1n : Nat) (m_1c : Nat) (frame : Int) (w : World) (R : Ending → World → Prop) (h : f37_vc m_0 m_1a m_1n m_1c frame w R) : Calls Go.Proofs.Try.prog 37 (List.toArray [Value.agg #[Value.int IntKind.i64 m_0, Value.slice m_1a m_1n m_1c], Value.int IntKind.i64 frame]) w R :=
 fn_sound (H := h37) (fn := Go.Proofs.Try.f37) (by kernel_rfl) (by kernel_rfl) (by kernel_rfl) ((f37_eq m_0 m_1a m_1n m_1c frame w R).mpr h)


/-! (*manciple/tasks.Table).made -/
def h81 : Hints := ⟨[], [4, 7, 10], [5], [], [], [], [], [], []⟩
def f81_vc (t : Option Addr) (w : World) (R : Ending → World → Prop) : Prop :=
 ∃ (b1 : Bool),
 Gives Proofs.Try.prog (binOpS BinOp.neq 42 (Operand.tmp 3) (Operand.const (Value.pointer none)) (Value.pointer t) (Value.pointer none)) (Value.bool b1) ∧
 (b1 = true →
 ∃ (ad2 : Addr),
 t = some ad2 ∧
 ∃ (r3 : Option Nat),
 Reads Proofs.Try.prog [] (Instr.loadAt 69 (Value.pointer (some (Addr.mk ad2.block (ad2.off + 1) none)))) w (Value.map r3) ∧
 ∃ (b4 : Bool), Gives Proofs.Try.prog (binOpS BinOp.neq 69 (Operand.tmp 9) (Operand.const (Value.map none)) (Value.map r3) (Value.map none)) (Value.bool b4) ∧ R (Ending.returned (Value.bool b4)) w) ∧
 (b1 = false → R (Ending.returned (Value.bool false)) w)
theorem f81_eq (t : Option Addr) (w : World) (R : Ending → World → Prop) : (fnF Go.Proofs.Try.prog h81 Go.Proofs.Try.f81 [Value.pointer t] w R).den = f81_vc t w R := by kernel_rfl
theorem f81_calls (t : Option Addr) (w : World) (R : Ending → World → Prop) (h : f81_vc t w R) : Calls Go.Proofs.Try.prog 81 (List.toArray [Value.pointer t]) w R :=
 fn_sound (H := h81) (fn := Go.Proofs.Try.f81) (by kernel_rfl) (by kernel_rfl) (by kernel_rfl) ((f81_eq t w R).mpr h)


/-! (*manciple/tasks.Table).those -/
def h84 : Hints := ⟨[7], [11, 21], [9, 21], [], [], [(4, ⟨[(5, .sl)], []⟩)], [], [(15, .cons (.agg (.cons (.int .i64) (.cons (.int .i64) (.nil)))) (.cons (.agg (.cons (.int .i64) (.cons (.int .i64) (.cons (.int .i64) (.cons (.sl) (.nil)))))) (.nil))), (17, .cons (.agg (.cons (.int .i64) (.cons (.int .i64) (.nil)))) (.cons (.agg (.cons (.int .i64) (.cons (.int .i64) (.cons (.int .i64) (.cons (.sl) (.nil)))))) (.nil)))], []⟩
def f84_vc (t : Option Addr) (which : Value) (w : World) (R : Ending → World → Prop) : Prop :=
 Calls Proofs.Try.prog 81 #[Value.pointer t] w fun (e1 : Ending) (w2 : World) =>
 ∃ (b3 : Bool),
 e1 = Ending.returned (Value.bool b3) ∧
 (b3 = true →
 ∃ (ad4 : Addr),
 t = some ad4 ∧
 ∃ (r5 : Option Nat),
 Reads Proofs.Try.prog [] (Instr.loadAt 69 (Value.pointer (some (Addr.mk ad4.block (ad4.off + 1) none)))) w2 (Value.map r5) ∧
 OpW Proofs.Try.prog (valueS (Instr.range 69 (Value.map r5))) w2 fun (v6 : Value) (w7 : World) =>
 ∃ (ad8 : Addr),
 v6 = Value.pointer (some ad8) ∧
 ∃ (J9 : (Option Addr × Nat × Nat) × Unit → World → Prop),
 ∃ (J10 : (Option Addr × Nat × Nat) × Unit → World → Nat),
 J9 ((none, 0, 0), ()) w7 ∧
 ∀ (a11 : Option Addr) (n12 n13 : Nat) (w14 : World),
 J9 ((a11, n12, n13), ()) w14 →
 OpW Proofs.Try.prog (valueS (Instr.next (Value.pointer (some ad8)) false 0)) w14 fun (v15 : Value) (w16 : World) =>
 (v15 = Value.tuple #[Value.bool false] ∨
 ∃ (x :
 (nextShape
 (Hints.mk [7] [11, 21] [9, 21] [] [] [(4, LH.mk [(5, Sh.sl)] [])] []
 [(15,
 ((Sh.int IntKind.i64).cons ((Sh.int IntKind.i64).cons Sh.nil)).agg.cons
 (((Sh.int IntKind.i64).cons ((Sh.int IntKind.i64).cons ((Sh.int IntKind.i64).cons (Sh.sl.cons Sh.nil)))).agg.cons Sh.nil)),
 (17,
 ((Sh.int IntKind.i64).cons ((Sh.int IntKind.i64).cons Sh.nil)).agg.cons
 (((Sh.int IntKind.i64).cons ((Sh.int IntKind.i64).cons ((Sh.int IntKind.i64).cons (Sh.sl.cons Sh.nil)))).agg.cons Sh.nil))]
 [])
 #[Oper.mk (some 15) (Op.next (Operand.tmp 14) false) 0 "tasks.go:76" #[] none, Oper.mk (some 16) (Op.extract (Operand.tmp 15) 0) 4 "tasks.go:76" #[Edge.mk 0 Ground.data] none][0]).T),
 v15 =
 Value.tuple
 #[Value.bool true, Value.agg #[Value.int IntKind.i64 x.fst.fst, Value.int IntKind.i64 x.fst.snd.fst],
 Value.agg
 #[Value.int IntKind.i64 x.snd.fst.fst, Value.int IntKind.i64 x.snd.fst.snd.fst, Value.int IntKind.i64 x.snd.fst.snd.snd.fst,
 Value.slice x.snd.fst.snd.snd.snd.fst.fst x.snd.fst.snd.snd.snd.fst.snd.fst x.snd.fst.snd.snd.snd.fst.snd.snd]]) ∧
 (v15 = Value.tuple #[Value.bool false] →
 Calls Proofs.Try.prog 126 #[Value.slice a11 n12 n13, Value.func (Fn.func 127) #[] #[]] w16 fun (e17 : Ending) (w18 : World) =>
 e17 = Ending.returned (Value.tuple #[]) ∧ R (Ending.returned (Value.slice a11 n12 n13)) w18) ∧
 ∀ (x19 x20 x21 x22 x23 : Int) (a24 : Option Addr) (n25 n26 : Nat),
 v15 =
 Value.tuple
 #[Value.bool true, Value.agg #[Value.int IntKind.i64 x19, Value.int IntKind.i64 x20],
 Value.agg #[Value.int IntKind.i64 x21, Value.int IntKind.i64 x22, Value.int IntKind.i64 x23, Value.slice a24 n25 n26]] →
 OpW Proofs.Try.prog ((Instr.entry (Value.pointer (some ad8))).bind fun (__do_lift : Value) => pure (Next.value __do_lift)) w16 fun (v27 : Value) (w28 : World) =>
 ∃ (x29 : Int),
 ∃ (x30 : Int),
 ∃ (x31 : Int),
 ∃ (x32 : Int),
 ∃ (x33 : Int),
 ∃ (a34 : Option Addr),
 ∃ (n35 : Nat),
 ∃ (n36 : Nat),
 v27 =
 Value.tuple
 #[Value.agg #[Value.int IntKind.i64 x29, Value.int IntKind.i64 x30],
 Value.agg #[Value.int IntKind.i64 x31, Value.int IntKind.i64 x32, Value.int IntKind.i64 x33, Value.slice a34 n35 n36]] ∧
 ∀ (n37 : Nat),
 w28.heap.size ≤ n37 →
 ∀ (w38 : World),
 Evo [n37] w28 w38 →
 Under [n37] w38 →
 OpW Proofs.Try.prog (invokeS which #[Value.agg #[Value.int IntKind.i64 x31, Value.int IntKind.i64 x32, Value.int IntKind.i64 x33, Value.slice a34 n35 n36]]) w38
 fun (v39 : Value) (w40 : World) =>
 ∃ (b41 : Bool),
 v39 = Value.bool b41 ∧
 Keeps [n37] w38 w40 ∧
 (b41 = true →
 Calls Proofs.Try.prog 79 #[Value.slice a34 n35 n36] w40 fun (e42 : Ending) (w43 : World) =>
 ∃ (a44 : Option Addr),
 ∃ (n45 : Nat),
 ∃ (n46 : Nat),
 e42 = Ending.returned (Value.slice a44 n45 n46) ∧
 Keeps [n37] w40 w43 ∧
 ∀ (w47 : World),
 Evo [n37] w43 w47 →
 Under [n37] w47 →
 OpW Proofs.Try.prog
 (valueS
 (Instr.buildSlice 44 1
 #[(0, Value.agg #[Value.int IntKind.i64 x31, Value.int IntKind.i64 x32, Value.int IntKind.i64 x33, Value.slice a44 n45 n46])]))
 w47 fun (v48 : Value) (w49 : World) =>
 ∃ (a50 : Option Addr),
 ∃ (n51 : Nat),
 ∃ (n52 : Nat),
 v48 = Value.slice a50 n51 n52 ∧
 Keeps [n37] w47 w49 ∧
 OpW Proofs.Try.prog
 (builtin Builtin.append #[44, 44] 44 #[false, false] #[Value.slice a11 n12 n13, Value.slice a50 n51 n52]) w49
 fun (v53 : Value) (w54 : World) =>
 ∃ (a55 : Option Addr),
 ∃ (n56 : Nat),
 ∃ (n57 : Nat),
 v53 = Value.slice a55 n56 n57 ∧
 Keeps [n37] w49 w54 ∧
 J9 ((a55, n56, n57), ()) w54 ∧ J10 ((a55, n56, n57), ()) w54 < J10 ((a11, n12, n13), ()) w14) ∧
 (b41 = false → J9 ((a11, n12, n13), ()) w40 ∧ J10 ((a11, n12, n13), ()) w40 < J10 ((a11, n12, n13), ()) w14)) ∧
 (b3 = false → Calls Proofs.Try.prog 126 #[Value.slice none 0 0, Value.func (Fn.func 127) #[] #[]] w2 fun (e58 : Ending) (w59 : World) => e58 = Ending.returned (Value.tuple #[]) ∧ R (Ending.returned (Value.slice none 0 0)) w59)
theorem f84_eq (t : Option Addr) (which : Value) (w : World) (R : Ending → World → Prop) : (fnF Go.Proofs.Try.prog h84 Go.Proofs.Try.f84 [Value.pointer t, which] w R).den = f84_vc t which w R := by kernel_rfl
theorem f84_calls (t : Option Addr) (which : Value) (w : World) (R : Ending → World → Prop) (h : f84_vc t which w R) : Calls Go.Proofs.Try.prog 84 (List.toArray [Value.pointer t, which]) w R :=
 fn_sound (H := h84) (fn := Go.Proofs.Try.f84) (by kernel_rfl) (by kernel_rfl) (by kernel_rfl) ((f84_eq t which w R).mpr h)


/-! (*manciple/tasks.Table).All$1 -/
def h85 : Hints := ⟨[1], [], [], [], [], [], [], [], []⟩
def f85_vc (p_0 : Int) (p_1 : Int) (p_2 : Int) (p_3a : Option Addr) (p_3n : Nat) (p_3c : Nat) (w : World) (R : Ending → World → Prop) : Prop :=
 ∀ (n1 : Nat), w.heap.size ≤ n1 → ∀ (w2 : World), Bel w w2 → Under [n1] w2 → R (Ending.returned (Value.bool true)) w2
theorem f85_eq (p_0 : Int) (p_1 : Int) (p_2 : Int) (p_3a : Option Addr) (p_3n : Nat) (p_3c : Nat) (w : World) (R : Ending → World → Prop) : (fnF Go.Proofs.Try.prog h85 Go.Proofs.Try.f85 [Value.agg #[Value.int IntKind.i64 p_0, Value.int IntKind.i64 p_1, Value.int IntKind.i64 p_2, Value.slice p_3a p_3n p_3c]] w R).den = f85_vc p_0 p_1 p_2 p_3a p_3n p_3c w R := by kernel_rfl
theorem f85_calls (p_0 : Int) (p_1 : Int) (p_2 : Int) (p_3a : Option Addr) (p_3n : Nat) (p_3c : Nat) (w : World) (R : Ending → World → Prop) (h : f85_vc p_0 p_1 p_2 p_3a p_3n p_3c w R) : Calls Go.Proofs.Try.prog 85 (List.toArray [Value.agg #[Value.int IntKind.i64 p_0, Value.int IntKind.i64 p_1, Value.int IntKind.i64 p_2, Value.slice p_3a p_3n p_3c]]) w R :=
 fn_sound (H := h85) (fn := Go.Proofs.Try.f85) (by kernel_rfl) (by kernel_rfl) (by kernel_rfl) ((f85_eq p_0 p_1 p_2 p_3a p_3n p_3c w R).mpr h)


/-! (*manciple/tasks.Table).Of$1 -/
def h86 : Hints := ⟨[2], [], [], [], [], [], [], [], []⟩
def f86_vc (x_0 : Int) (x_1 : Int) (x_2 : Int) (x_3a : Option Addr) (x_3n : Nat) (x_3c : Nat) (cap0 : Value) (w : World) (R : Ending → World → Prop) : Prop :=
 ∀ (n1 : Nat), w.heap.size ≤ n1 → ∃ (x2 : Int), Reads Proofs.Try.prog [] (Instr.loadAt 2 cap0) w (Value.int IntKind.i64 x2) ∧ ∀ (w3 : World), Bel w w3 → Under [n1] w3 → R (Ending.returned (Value.bool (x_0 == x2))) w3
theorem f86_eq (x_0 : Int) (x_1 : Int) (x_2 : Int) (x_3a : Option Addr) (x_3n : Nat) (x_3c : Nat) (cap0 : Value) (w : World) (R : Ending → World → Prop) : (fnF Go.Proofs.Try.prog h86 Go.Proofs.Try.f86 [Value.agg #[Value.int IntKind.i64 x_0, Value.int IntKind.i64 x_1, Value.int IntKind.i64 x_2, Value.slice x_3a x_3n x_3c], cap0] w R).den = f86_vc x_0 x_1 x_2 x_3a x_3n x_3c cap0 w R := by kernel_rfl
theorem f86_calls (x_0 : Int) (x_1 : Int) (x_2 : Int) (x_3a : Option Addr) (x_3n : Nat) (x_3c : Nat) (cap0 : Value) (w : World) (R : Ending → World → Prop) (h : f86_vc x_0 x_1 x_2 x_3a x_3n x_3c cap0 w R) : Calls Go.Proofs.Try.prog 86 (List.toArray [Value.agg #[Value.int IntKind.i64 x_0, Value.int IntKind.i64 x_1, Value.int IntKind.i64 x_2, Value.slice x_3a x_3n x_3c], cap0]) w R :=
 fn_sound (H := h86) (fn := Go.Proofs.Try.f86) (by kernel_rfl) (by kernel_rfl) (by kernel_rfl) ((f86_eq x_0 x_1 x_2 x_3a x_3n x_3c cap0 w R).mpr h)


/-! (*manciple/tasks.Table).On$1 -/
def h87 : Hints := ⟨[2], [], [], [], [], [], [], [], []⟩
def f87_vc (x_0 : Int) (x_1 : Int) (x_2 : Int) (x_3a : Option Addr) (x_3n : Nat) (x_3c : Nat) (cap0 : Value) (w : World) (R : Ending → World → Prop) : Prop :=
 ∀ (n1 : Nat), w.heap.size ≤ n1 → ∃ (x2 : Int), Reads Proofs.Try.prog [] (Instr.loadAt 2 cap0) w (Value.int IntKind.i64 x2) ∧ ∀ (w3 : World), Bel w w3 → Under [n1] w3 → R (Ending.returned (Value.bool (x_2 == x2))) w3
theorem f87_eq (x_0 : Int) (x_1 : Int) (x_2 : Int) (x_3a : Option Addr) (x_3n : Nat) (x_3c : Nat) (cap0 : Value) (w : World) (R : Ending → World → Prop) : (fnF Go.Proofs.Try.prog h87 Go.Proofs.Try.f87 [Value.agg #[Value.int IntKind.i64 x_0, Value.int IntKind.i64 x_1, Value.int IntKind.i64 x_2, Value.slice x_3a x_3n x_3c], cap0] w R).den = f87_vc x_0 x_1 x_2 x_3a x_3n x_3c cap0 w R := by kernel_rfl
theorem f87_calls (x_0 : Int) (x_1 : Int) (x_2 : Int) (x_3a : Option Addr) (x_3n : Nat) (x_3c : Nat) (cap0 : Value) (w : World) (R : Ending → World → Prop) (h : f87_vc x_0 x_1 x_2 x_3a x_3n x_3c cap0 w R) : Calls Go.Proofs.Try.prog 87 (List.toArray [Value.agg #[Value.int IntKind.i64 x_0, Value.int IntKind.i64 x_1, Value.int IntKind.i64 x_2, Value.slice x_3a x_3n x_3c], cap0]) w R :=
 fn_sound (H := h87) (fn := Go.Proofs.Try.f87) (by kernel_rfl) (by kernel_rfl) (by kernel_rfl) ((f87_eq x_0 x_1 x_2 x_3a x_3n x_3c cap0 w R).mpr h)


/-! (*manciple/tasks.Table).those$1 -/
def h127 : Hints := ⟨[2, 3], [], [], [(1, [0, 1, 2, 3, 5, 6, 7, 8, 4, 9, 10, 11, 12])], [], [], [], [], []⟩
def f127_vc (a_0 : Int) (a_1 : Int) (a_2 : Int) (a_3a : Option Addr) (a_3n : Nat) (a_3c : Nat) (b_0 : Int) (b_1 : Int) (b_2 : Int) (b_3a : Option Addr) (b_3n : Nat) (b_3c : Nat) (w : World) (R : Ending → World → Prop) : Prop :=
 ∀ (n1 : Nat),
 w.heap.size ≤ n1 →
 ∀ (n2 : Nat),
 w.heap.size ≤ n2 →
 ∀ (w3 : World),
 Bel w w3 →
 Under [n1, n2] w3 →
 Calls Proofs.Try.prog 94 #[Value.int IntKind.i64 a_0, Value.int IntKind.i64 b_0] w3 fun (e4 : Ending) (w5 : World) =>
 ∃ (x6 : Int),
 e4 = Ending.returned (Value.int IntKind.i64 x6) ∧
 Keeps [n1, n2] w3 w5 ∧
 Calls Proofs.Try.prog 94 #[Value.int IntKind.i64 a_1, Value.int IntKind.i64 b_1] w5 fun (e7 : Ending) (w8 : World) =>
 ∃ (x9 : Int),
 e7 = Ending.returned (Value.int IntKind.i64 x9) ∧
 Keeps [n1, n2] w5 w8 ∧
 OpW Proofs.Try.prog (valueS (Instr.buildSlice 180 2 #[(0, Value.int IntKind.i64 x6), (1, Value.int IntKind.i64 x9)])) w8 fun (v10 : Value) (w11 : World) =>
 ∃ (a12 : Option Addr),
 ∃ (n13 : Nat),
 ∃ (n14 : Nat),
 v10 = Value.slice a12 n13 n14 ∧
 Keeps [n1, n2] w8 w11 ∧
 Calls Proofs.Try.prog 119 #[Value.slice a12 n13 n14] w11 fun (e15 : Ending) (w16 : World) =>
 ∃ (x17 : Int), e15 = Ending.returned (Value.int IntKind.i64 x17) ∧ Keeps [n1, n2] w11 w16 ∧ R (Ending.returned (Value.int IntKind.i64 x17)) w16
theorem f127_eq (a_0 : Int) (a_1 : Int) (a_2 : Int) (a_3a : Option Addr) (a_3n : Nat) (a_3c : Nat) (b_0 : Int) (b_1 : Int) (b_2 : Int) (b_3a : Option Addr) (b_3n : Nat) (b_3c : Nat) (w : World) (R : Ending → World → Prop) : (fnF Go.Proofs.Try.prog h127 Go.Proofs.Try.f127 [Value.agg #[Value.int IntKind.i64 a_0, Value.int IntKind.i64 a_1, Value.int IntKind.i64 a_2, Value.slice a_3a a_3n a_3c],
 Value.agg #[Value.int IntKind.i64 b_0, Value.int IntKind.i64 b_1, Value.int IntKind.i64 b_2, Value.slice b_3a b_3n b_3c]] w R).den = f127_vc a_0 a_1 a_2 a_3a a_3n a_3c b_0 b_1 b_2 b_3a b_3n b_3c w R := by kernel_rfl
theorem f127_calls (a_0 : Int) (a_1 : Int) (a_2 : Int) (a_3a : Option Addr) (a_3n : Nat) (a_3c : Nat) (b_0 : Int) (b_1 : Int) (b_2 : Int) (b_3a : Option Addr) (b_3n : Nat) (b_3c : Nat) (w : World) (R : Ending → World → Prop) (h : f127_vc a_0 a_1 a_2 a_3a a_3n a_3c b_0 b_1 b_2 b_3a b_3n b_3c w R) : Calls Go.Proofs.Try.prog 127 (List.toArray [Value.agg #[Value.int IntKind.i64 a_0, Value.int IntKind.i64 a_1, Value.int IntKind.i64 a_2, Value.slice a_3a a_3n a_3c],
 Value.agg #[Value.int IntKind.i64 b_0, Value.int IntKind.i64 b_1, Value.int IntKind.i64 b_2, Value.slice b_3a b_3n b_3c]]) w R :=
 fn_sound (H := h127) (fn := Go.Proofs.Try.f127) (by kernel_rfl) (by kernel_rfl) (by kernel_rfl) ((f127_eq a_0 a_1 a_2 a_3a a_3n a_3c b_0 b_1 b_2 b_3a b_3n b_3c w R).mpr h)

end Vct

/- Calls of functions' values. -/
namespace Go.Vc
open Go Go.RowKit
section
variable {P : Program} {w W : World} {M : Nat → Prop} {gs : List Nat} {fv : Value}

/-- A call of a function's value that returns a value, and changes nothing. -/
def RetI (P : Program) (fv : Value) (args : Array Value) (W : World) (v : Value) : Prop := ∀ K : Value → World → Prop, (∀ w', Bel W w' → K v w') → OpW P (invokeS fv args) W K
theorem opw_invoke {f : FuncId} {first cap args : Array Value} {K : Value → World → Prop} (he : pureRun P (invokeS (.func (.func f) first cap) args) = some (.enter f ((first ++ args) ++ cap))) (h : Calls P f ((first ++ args) ++ cap) W fun e w' => ∃ v, e = .returned v ∧ K v w') : OpW P (invokeS (.func (.func f) first cap) args) W K := by
  unfold OpW
  rw [pureRun_run he W]
  exact h
theorem RetI.of {f : FuncId} {first cap args : Array Value} {v : Value} (he : pureRun P (invokeS (.func (.func f) first cap) args) = some (.enter f ((first ++ args) ++ cap))) (h : Ret P f ((first ++ args) ++ cap) W v) : RetI P (.func (.func f) first cap) args W v := fun _ hK => opw_invoke he (h _ fun w' hb => ⟨v, rfl, hK w' hb⟩)
theorem at_inv {args : Array Value} {v : Value} {K : Value → World → Prop} (hA : AtF w M gs W) (hc : RetI P fv args W v) (hK : ∀ w', AtF w M gs w' → Keeps gs W w' → Bel W w' → K v w') : OpW P (invokeS fv args) W K := hc K fun w' hb => hK w' (hA.call hb) (hA.keeps hb) hb
end
end Go.Vc

/- Tables of tasks in memory: made, New, Get, End, Launch, Long. -/
set_option maxRecDepth 20000
set_option maxHeartbeats 1000000
namespace Go.Vc.J
open Go Go.Vc Go.Vc.V Go.RowKit Go.Proofs Vct

variable {w W W' W2 : World} {M : Nat → Prop} {gs ds : List Nat}

/-- All cells are as they were. -/
def KeepC (W W' : World) : Prop := ∀ (ad : Addr) (v : Value), W.cell? ad = some v → W'.cell? ad = some v
theorem KeepC.refl : KeepC W W := fun _ _ h => h
theorem KeepC.trans (h : KeepC W W') (k : KeepC W' W2) : KeepC W W2 := fun ad v hv => k ad v (h ad v hv)
theorem KeepC.of_bel (hb : Bel W W') : KeepC W W' := fun ad v h => cell_below hb.below ad v h
theorem KeepC.of_map {r : Nat} {es : Array MapEntry} {cl : Nat} (hc : Chg (fun b => b = r) W W') (hr : W.heap[r]? = some (.map es cl)) : KeepC W W' := fun ad v h => by
  have hne : ad.block ≠ r := fun e => by
    unfold World.cell? at h
    rw [e, hr] at h
    simp at h
  rw [World.cell?_of_block (hc.block ad.block (World.block_lt_of_cell? W ad h) hne)]
  exact h
theorem sle_keepC {α : Type} {n : Nat} {f : α → List Value} {l : List α} {a : Option Addr} {len c : Nat} (h : SlE W n f l a len c) (hk : KeepC W W') : SlE W' n f l a len c := h.mono hk fun _ _ h => h

abbrev Sl3 := Option Addr × Nat × Nat
abbrev TkT := Int × Int × Int × List PartT
abbrev TR := TkT × Sl3
abbrev trE (x : TR) : List Value := [.int .i64 x.1.1, .int .i64 x.1.2.1, .int .i64 x.1.2.2.1, .slice x.2.1 x.2.2.1 x.2.2.2]
abbrev trV (x : TR) : Value := .agg #[.int .i64 x.1.1, .int .i64 x.1.2.1, .int .i64 x.1.2.2.1, .slice x.2.1 x.2.2.1 x.2.2.2]
abbrev KyT := Int × Int
abbrev keyV (k : KyT) : Value := .agg #[.int .i64 k.1, .int .i64 k.2]
/-- The vector of a task lies where its slice says. -/
def VecR (W : World) (x : TR) : Prop := SlE W 3 partE x.1.2.2.2 x.2.1 x.2.2.1 x.2.2.2
theorem VecR.keep {x : TR} (h : VecR W x) (hk : KeepC W W') : VecR W' x := sle_keepC h hk
def okT (t : TkT) : Prop := 1 ≤ t.1 ∧ 1 ≤ t.2.1 ∧ 1 ≤ t.2.2.1 ∧ t.2.2.2 ≠ [] ∧ vecB t.2.2.2 = true
instance (t : TkT) : Decidable (okT t) := by unfold okT; infer_instance
def keyT (t : TkT) : KyT := (t.1, t.2.1)

theorem keyOk_k : KeyOk Try.prog 40 keyV where
  eq := fun k k' => by
    have h : eqB Try.prog 30 40 (keyV k) (keyV k') = some (k.1 == k'.1 && (k.2 == k'.2 && true)) := by kernel_rfl
    rw [h, Option.some.injEq, Bool.eq_iff_iff]
    obtain ⟨a, b⟩ := k
    obtain ⟨a', b'⟩ := k'
    simp
  now := fun d hd k k' b hb => by
    rw [Try.underlying40] at hd
    cases hd
    simp [Instr.sameNow] at hb
  chk := fun e k W => by
    have h : pureRun Try.prog (Instr.checkKey e 10000 40 (keyV k)) = some () := by kernel_rfl
    exact pureRun_run h W
  bits := fun k => by
    unfold Instr.sameBits
    simp [Instr.sameBits]
  und := ⟨_, Try.underlying40⟩

abbrev ptr (g : Nat) : Value := .pointer (some ⟨g, 0, none⟩)
/-- A table that New made. -/
structure TbS (W : World) (g r : Nat) (cap : Int) (m : List (KyT × TR)) : Prop where
  tb : W.heap[g]? = some (.cells ([.int .i64 cap, .map (some r)] : List Value).toArray 71 (0, 0))
  mp : OwnM W (fun b => b = r) [] W r keyV trV m
  nd : (m.map (·.1)).Nodup
  ks : ∀ x ∈ m, x.1 = keyT x.2.1
  vs : ∀ x ∈ m, VecR W x.2
  ok : ∀ x ∈ m, okT x.2.1
  cap1 : 1 ≤ cap
variable {g r : Nat} {cap : Int} {m : List (KyT × TR)}
theorem OwnM.re {κ α : Type} {w0 w1 : World} {M0 M1 : Nat → Prop} {gs0 gs1 : List Nat} {kf : κ → Value} {vf : α → Value} {m : List (κ × α)} (h : OwnM w0 M0 gs0 W r kf vf m) (hr : W'.heap[r]? = W.heap[r]?) (hm : w1.heap.size ≤ r ∨ M1 r) (ha : r ∉ gs1) : OwnM w1 M1 gs1 W' r kf vf m := by
  obtain ⟨es, clock, h1, h2⟩ := h.obj
  exact ⟨hm, ha, es, clock, by rw [hr]; exact h1, h2⟩
theorem TbS.keep (h : TbS W g r cap m) (hg : W'.heap[g]? = W.heap[g]?) (hr : W'.heap[r]? = W.heap[r]?) (hk : KeepC W W') : TbS W' g r cap m :=
  ⟨hg.trans h.tb, OwnM.re h.mp hr (.inr rfl) (by simp), h.nd, h.ks, fun x hx => (h.vs x hx).keep hk, h.ok, h.cap1⟩
theorem TbS.glt (h : TbS W g r cap m) : g < W.heap.size := (Array.getElem?_eq_some_iff.1 h.tb).1
theorem TbS.rlt (h : TbS W g r cap m) : r < W.heap.size := h.mp.lt
theorem TbS.call (h : TbS W g r cap m) (hb : Bel W W') : TbS W' g r cap m := h.keep (hb.block h.glt) (hb.block h.rlt) (KeepC.of_bel hb)
theorem TbS.ne (h : TbS W g r cap m) : g ≠ r := fun e => by
  obtain ⟨es, cl, h1, _⟩ := h.mp.obj
  have := h.tb
  rw [e, h1] at this
  cases this
theorem TbS.at (h : TbS W g r cap m) (hm : w.heap.size ≤ r ∨ M r) (ha : r ∉ gs) : OwnM w M gs W r keyV trV m := OwnM.re h.mp rfl hm ha
theorem nod {b : Nat} : ∀ d ∈ ([] : List Nat), d ≠ b := fun _ h => by cases h
theorem TbS.rdC (h : TbS W g r cap m) (hd : ∀ d ∈ ds, d ≠ g) : Reads Try.prog ds (Instr.loadAt 3 (ptr g)) W (.int .i64 cap) := rd_f0 h.tb (by kernel_rfl) hd
theorem TbS.rdM (h : TbS W g r cap m) (hd : ∀ d ∈ ds, d ≠ g) : Reads Try.prog ds (Instr.loadAt 69 (.pointer (some (Addr.mk g (0 + 1) none)))) W (.map (some r)) := rd_f 0 h.tb rfl (by kernel_rfl) hd
/-- No table that New made. -/
def NoT (W : World) (t : Option Addr) : Prop := t = none ∨ ∃ g c, t = some ⟨g, 0, none⟩ ∧ W.heap[g]? = some (.cells ([.int .i64 c, .map none] : List Value).toArray 71 (0, 0))
theorem NoT.call {t : Option Addr} (h : NoT W t) (hb : Bel W W') : NoT W' t := h.imp id fun ⟨g, c, e, hg⟩ => ⟨g, c, e, (hb.block (Array.getElem?_eq_some_iff.1 hg).1).trans hg⟩

theorem c81 (h : TbS W g r cap m) : Ret Try.prog 81 #[ptr g] W (.bool true) := by
  intro R hR
  refine f81_calls _ W R ?_
  unfold f81_vc
  exact ⟨true, (fun W => rfl), brB (fun _ => ⟨_, rfl, _, h.rdM nod, true, (fun W => rfl), leaf hR (At.refl W) rfl⟩) (fun e => by cases e)⟩
theorem c81n {t : Option Addr} (h : NoT W t) : Ret Try.prog 81 #[.pointer t] W (.bool false) := by
  intro R hR
  refine f81_calls _ W R ?_
  unfold f81_vc
  rcases h with rfl | ⟨g, c, rfl, hg⟩
  · exact ⟨false, (fun W => rfl), brB (fun e => by cases e) (fun _ => leaf hR (At.refl W) rfl)⟩
  · exact ⟨true, (fun W => rfl), brB (fun _ => ⟨_, rfl, _, rd_f 0 hg rfl (by kernel_rfl) nod, false, (fun W => rfl), leaf hR (At.refl W) rfl⟩) (fun e => by cases e)⟩
theorem c21 (cap : Int) (w : World) : RetQ Try.prog 21 #[.int .i64 cap] w fun v w' => (cap < 1 ∧ v = .pointer none) ∨ (1 ≤ cap ∧ ∃ g r, v = ptr g ∧ TbS w' g r cap [] ∧ w.heap.size ≤ g ∧ w.heap.size ≤ r) := by
  intro R h
  refine f21_calls cap w R ?_
  unfold f21_vc
  refine brD (fun hlt => h _ _ (Bel.refl _) (.inl ⟨hlt, rfl⟩)) (fun hge => ?_)
  refine opw_makeMap (kf := keyV) (vf := trV) (At.refl w) fun r w2 hr hA _ hb2 ho => ⟨_, rfl, ?_⟩
  refine opw_boxS hA fun g w5 hg hA _ hb5 hblk => ⟨_, rfl, ?_⟩
  have hr5 : w5.heap[r]? = w2.heap[r]? := hb5.block ho.lt
  refine h _ _ hA.below (.inr ⟨by omega, g, r, rfl, ⟨hblk, OwnM.re ho hr5 (.inr rfl) (by simp), by simp, by simp, by simp, by simp, by omega⟩, ?_, ?_⟩)
  · have := hb2.size; omega
  · omega
abbrev zT : Value := .agg #[.int .i64 0, .int .i64 0, .int .i64 0, .slice none 0 0]
/-- What Get tells. -/
def getQ (W : World) (m : List (KyT × TR)) (k : KyT) (v : Value) (w' : World) : Prop := match mget k m with
  | none => v = .tuple #[zT, .bool false]
  | some x => ∃ s : Sl3, v = .tuple #[trV (x.1, s), .bool true] ∧ VecR w' (x.1, s) ∧ ∀ b, s.1 = some b → W.heap.size ≤ b.block
theorem sle_evo {α : Type} {n : Nat} {f : α → List Value} {l : List α} {a : Option Addr} {len c : Nat} (h : SlE W n f l a len c) (hev : Evo ds W W') (hd : ∀ b, a = some b → b.block ∉ ds) : SlE W' n f l a len c := by
  obtain ⟨h1, h2, h3, h4, h6⟩ := h
  refine ⟨h1, h2, h3, h4, fun i x hx => ?_⟩
  obtain ⟨ad, cs, ha, hl, hcs, hr⟩ := h6 i x hx
  refine ⟨ad, cs, ha, hl, fun j v hv => ?_, hr⟩
  have hlt := World.block_lt_of_cell? W _ (hcs j v hv)
  rw [World.cell?_of_block (hev.block _ hlt (by rw [add_block, add_block]; exact hd ad ha))]
  exact hcs j v hv
theorem TbS.get (h : TbS W g r cap m) {k : KyT} {x : TR} (hx : mget k m = some x) : okT x.1 ∧ VecR W x ∧ k = keyT x.1 := by
  have hm := mem_of_mget hx
  exact ⟨h.ok _ hm, h.vs _ hm, h.ks _ hm⟩
theorem c24 (frame id : Int) (h : TbS W g r cap m) : RetQ Try.prog 24 #[ptr g, .int .i64 frame, .int .i64 id] W (getQ W m (frame, id)) := by
  intro R hR
  refine f24_calls _ frame id W R ?_
  unfold f24_vc
  intro n1 hn1 w2 hb2 hu2
  have hA : At W [n1] w2 := ⟨((At.refl W).call hb2).chg, hu2⟩
  have h := h.call hb2
  have hgW : g < W.heap.size := (‹TbS W g r cap m›).glt
  have hrW : r < W.heap.size := (‹TbS W g r cap m›).rlt
  refine at_callb hA (c81 h) fun w4 hA hk hb4 => ⟨_, rfl, hk, brNB (fun e => by cases e) (fun _ => ?_)⟩
  have h := h.call hb4
  refine ⟨_, rfl, _, h.rdM nod, ?_⟩
  have hl := reads_lookup2 (P := Try.prog) (t := 69) (et := 48) (z := zT) keyOk_k (by kernel_rfl) (by kernel_rfl) (h.at (w := w4) (M := fun b => b = r) (gs := []) (.inr rfl) (by simp)) (frame, id) (ds := []) nod
  have hsz := hA.size
  unfold getQ at hR
  cases hx : mget (frame, id) m with
  | none =>
    rw [hx] at hl hR
    refine ⟨_, _, _, _, _, _, _, hl, fun n16 hn16 => brB (fun e => by cases e) (fun _ w24 hev hu => ?_)⟩
    exact hR _ _ (hA.evo (by intro d hd; simp at hd; omega) hev hu).below rfl
  | some x =>
    rw [hx] at hl hR
    obtain ⟨⟨_, _, _, hne, hv⟩, hvec, _⟩ := h.get hx
    refine ⟨_, _, _, _, _, _, _, hl, fun n16 hn16 => brB (fun _ w17 hev hu => ?_) (fun e => by cases e)⟩
    have hb17 := hev.bel (by simpa using hn16)
    have hA : At W [n1, n16] w17 := ⟨(hA.call hb17).chg, hu⟩
    have hlen := vec_len' hv
    refine at_calll hA (c79 w17 (hvec.keep (KeepC.of_bel hb17)) (by omega)) (fun _ _ => rfl) fun a c w19 hA hk hb19 ho hs => ⟨_, _, _, rfl, hk, fun w23 hev hu => ?_⟩
    have ho := ho.evo (by intro d hd hd2; simp at hd hd2; omega) hev
    refine hR _ _ (hA.evo (by intro d hd; simp at hd; omega) hev hu).below ⟨(a, x.1.2.2.2.length, c), rfl, ho.sl fun _ _ => rfl, fun b hb => ?_⟩
    simp only at hb
    subst hb
    obtain ⟨g', cur, e, _⟩ := ho.ptr (List.length_pos_iff.2 hne)
    cases e
    have hm := ho.mine g' rfl
    simpa using hm
theorem c24n {t : Option Addr} (frame id : Int) (h : NoT W t) : Ret Try.prog 24 #[.pointer t, .int .i64 frame, .int .i64 id] W (.tuple #[zT, .bool false]) := by
  intro R hR
  refine f24_calls _ frame id W R ?_
  unfold f24_vc
  intro n1 hn1 w2 hb2 hu2
  have hA : At W [n1] w2 := ⟨((At.refl W).call hb2).chg, hu2⟩
  refine at_callb hA (c81n (h.call hb2)) fun w4 hA hk hb4 => ⟨_, rfl, hk, brNB (fun _ w6 hev hu => ?_) (fun e => by cases e)⟩
  exact leaf hR (hA.evo (by intro d hd; simp at hd; omega) hev hu) rfl
end Go.Vc.J

/- Tables of tasks: End, Launch, Long. -/
set_option maxRecDepth 20000
set_option maxHeartbeats 1000000
namespace Go.Vc.J
open Go Go.Vc Go.Vc.V Go.RowKit Go.Proofs Vct

variable {w W W' W2 : World} {M : Nat → Prop} {gs ds : List Nat} {g r : Nat} {cap : Int} {m : List (KyT × TR)}

theorem reads_lenM {κ α : Type} {w0 : World} {M0 : Nat → Prop} {gs0 : List Nat} {kf : κ → Value} {vf : α → Value} {m : List (κ × α)} {t kt et ty : TypeId} (ht : Try.prog.underlying t = some (.map kt et)) (h : OwnM w0 M0 gs0 W r kf vf m) (hd : ∀ d ∈ ds, d ≠ r) : Reads Try.prog ds (Builtin.len_ #[t] ty #[.map (some r)]) W (.int .i64 (m.length : Int)) := by
  intro W' hW'
  obtain ⟨es, clock, hr, he, _⟩ := h.obj
  have hb : W'.heap[r]? = some (.map es clock) := by
    have : W'.heap[r]? = W.heap[r]? := by
      cases ds with
      | nil => exact Bel.block hW' h.lt
      | cons d s => exact Evo.block hW' _ h.lt (fun hm => hd _ hm rfl)
    rw [this, hr]
  have hrun : (Builtin.len_ #[t] ty #[.map (some r)]).run Try.prog W' = .ok (goInt es.size) W' := by
    unfold Builtin.len_
    simp only [List.getElem?_toArray, List.getElem?_cons_zero]
    rw [run_bind_ok (run_underlying ht W')]
    simp only
    rw [run_bind_ok (run_getObj_m hb)]
    rfl
  rw [hrun]
  have hl : es.size = m.length := by
    have := congrArg List.length he
    simpa using this
  rw [hl]
  rfl
theorem c32 (h : TbS W g r cap m) : Ret Try.prog 32 #[ptr g] W (.int .i64 (m.length : Int)) := by
  intro R hR
  refine f32_calls _ W R ?_
  unfold f32_vc
  refine at_callb (At.refl W) (c81 h) fun w2 hA _ hb => ⟨_, rfl, brNB (fun e => by cases e) (fun _ => ?_)⟩
  have h := h.call hb
  exact ⟨_, rfl, _, h.rdM nod, _, reads_lenM (kt := 40) (et := 48) (by kernel_rfl) h.mp nod, leaf hR hA rfl⟩
theorem c32n {t : Option Addr} (h : NoT W t) : Ret Try.prog 32 #[.pointer t] W (.int .i64 0) := by
  intro R hR
  refine f32_calls _ W R ?_
  unfold f32_vc
  exact at_callb (At.refl W) (c81n h) fun w2 hA _ hb => ⟨_, rfl, brNB (fun _ => leaf hR hA rfl) (fun e => by cases e)⟩
theorem mem_mset {κ α : Type} [DecidableEq κ] {k : κ} {v : α} : ∀ {m : List (κ × α)} {x : κ × α}, x ∈ mset k v m → x = (k, v) ∨ x ∈ m
  | [], x, h => by
    simp [mset] at h
    exact .inl h
  | y :: m, x, h => by
    unfold mset at h
    split at h
    · rcases List.mem_cons.1 h with rfl | h
      · exact .inl rfl
      · exact .inr (List.mem_cons_of_mem _ h)
    · rcases List.mem_cons.1 h with rfl | h
      · exact .inr (List.mem_cons_self ..)
      · exact (mem_mset h).imp id (List.mem_cons_of_mem _)
theorem mem_mdel {κ α : Type} [DecidableEq κ] {k : κ} : ∀ {m : List (κ × α)} {x : κ × α}, x ∈ mdel k m → x ∈ m
  | [], x, h => by cases h
  | y :: m, x, h => by
    unfold mdel at h
    split at h
    · exact List.mem_cons_of_mem _ h
    · rcases List.mem_cons.1 h with rfl | h
      · exact List.mem_cons_self ..
      · exact List.mem_cons_of_mem _ (mem_mdel h)
theorem TbS.set {x : TR} (h : TbS W g r cap m) (hg : W'.heap[g]? = W.heap[g]?) (kc : KeepC W W') (ho : OwnM w M gs W' r keyV trV (mset (keyT x.1) x m)) (hx : VecR W' x) (hk : okT x.1) : TbS W' g r cap (mset (keyT x.1) x m) := by
  refine ⟨hg.trans h.tb, OwnM.re ho rfl (.inr rfl) (by simp), mset_nodup h.nd, fun y hy => ?_, fun y hy => ?_, fun y hy => ?_, h.cap1⟩
  · rcases mem_mset hy with rfl | hy
    · rfl
    · exact h.ks y hy
  · rcases mem_mset hy with rfl | hy
    · exact hx
    · exact (h.vs y hy).keep kc
  · rcases mem_mset hy with rfl | hy
    · exact hk
    · exact h.ok y hy
theorem TbS.del {k : KyT} (h : TbS W g r cap m) (hg : W'.heap[g]? = W.heap[g]?) (kc : KeepC W W') (ho : OwnM w M gs W' r keyV trV (mdel k m)) : TbS W' g r cap (mdel k m) :=
  ⟨hg.trans h.tb, OwnM.re ho rfl (.inr rfl) (by simp), mdel_nodup h.nd, fun y hy => h.ks y (mem_mdel hy), fun y hy => (h.vs y (mem_mdel hy)).keep kc, fun y hy => h.ok y (mem_mdel hy), h.cap1⟩
theorem TbS.kc (h : TbS W g r cap m) (hc : Chg (fun b => b = r) W W') : KeepC W W' := by
  obtain ⟨es, cl, h1, _⟩ := h.mp.obj
  exact KeepC.of_map hc h1

theorem AtF.evo' {w W W' : World} {M : Nat → Prop} {gs gs' ds : List Nat} (h : AtF w M gs W) (hd : ∀ d ∈ ds, w.heap.size ≤ d) (k : Evo ds W W') (hu : Under gs' W') : AtF w M gs' W' := h.evo hd k hu
theorem c26 (frame id : Int) (h : TbS W g r cap m) : RetF Try.prog 26 #[ptr g, .int .i64 frame, .int .i64 id] W (fun b => b = r) fun v W' => KeepC W W' ∧ getQ W m (frame, id) v W' ∧ TbS W' g r cap (match mget (frame, id) m with | none => m | some _ => mdel (frame, id) m) := by
  intro R hR
  refine f26_calls _ frame id W R ?_
  unfold f26_vc
  have h0 := h
  intro n1 hn1 w2 hb2 hu2
  have hA : AtF W (fun b => b = r) [n1] w2 := ⟨Chg.of_below hb2, hu2⟩
  have h := h.call hb2
  have hgW := h0.glt
  have hrW := h0.rlt
  refine at_callq hA (c24 frame id h) fun v w4 hA hk hb4 hq => ?_
  have h := h.call hb4
  have hsz := hA.size
  have hn1w2 : n1 < w2.heap.size := hu2 n1 (by simp)
  unfold getQ at hq hR
  cases hx : mget (frame, id) m with
  | none =>
    rw [hx] at hq hR
    simp only at hq hR
    subst hq
    refine ⟨_, _, _, _, _, _, _, rfl, hk, fun n12 hn12 => brB (fun e => by cases e) (fun _ w19 hev hu => ?_)⟩
    have hA4 : At W [n1] w4 := ⟨((At.refl W).call (hb2.trans hb4)).chg, hA.under⟩
    have hA9 := hA4.evo (by intro d hd; simp at hd; omega) hev hu
    exact hR _ _ (Chg.of_below hA9.below) ⟨KeepC.of_bel hA9.below, rfl, h0.call hA9.below⟩
  | some x =>
    rw [hx] at hq hR
    simp only at hq hR
    obtain ⟨s, e, hv, hnew⟩ := hq
    subst e
    refine ⟨_, _, _, _, _, _, _, rfl, hk, fun n12 hn12 => brB (fun _ => ⟨_, rfl, _, h.rdM (by intro d hd; simp at hd; omega), fun w15 hev hu => ?_⟩) (fun e => by cases e)⟩
    have hb15 := hev.bel (by simpa using hn12)
    have hA : AtF W (fun b => b = r) [n1, n12] w15 := ⟨(hA.call hb15).chg, hu⟩
    have h := h.call hb15
    have hbW := (hb2.trans hb4).trans hb15
    have hv := hv.keep (KeepC.of_bel hb15)
    refine opw_delete (k := (frame, id)) (kt := 40) (et := 48) keyOk_k (by kernel_rfl) hA (h.at (w := W) (gs := [n1, n12]) (.inr rfl) (by simp; omega)) fun w17 hA hk hc ho => ⟨rfl, hk, fun w18 hev hu => ?_⟩
    have kc15 : KeepC w15 w17 := h.kc hc
    have hv := hv.keep kc15
    have hold : ∀ {q}, q < W.heap.size → w18.heap[q]? = w17.heap[q]? := fun {q} hq => hev.block q (Nat.lt_of_lt_of_le hq hA.size) (by simp; omega)
    have kcW : KeepC W w18 := fun ad v hc => by
      have hlt := World.block_lt_of_cell? W ad hc
      rw [World.cell?_of_block (hold hlt)]
      exact kc15 _ _ (KeepC.of_bel hbW _ _ hc)
    have hgg : w18.heap[g]? = W.heap[g]? := by rw [hold hgW, hc.block g h.glt h.ne, hbW.block hgW]
    refine hR _ _ (AtF.evo' hA (by intro d hd; simp at hd; omega) hev hu).chg ⟨kcW, ⟨s, rfl, sle_evo hv hev fun b hb => ?_, fun b hb => ?_⟩, h0.del hgg kcW (OwnM.re ho (hold hrW) (.inr rfl) (by simp : r ∉ ([] : List Nat)) (w1 := W) (M1 := fun b => b = r))⟩
    · have := hnew b hb
      simp
      omega
    · have := hnew b hb
      have := hb2.size
      omega
end Go.Vc.J

/- slices.SortFunc on an own slice of structs: a permutation, in order. -/
namespace Go.Vc
open Go Go.RowKit Go.Proofs Go.Shelf Go.Sort

theorem bel_grow {W w' : World} (h : Bel W w') : ∃ q os', w' = grow (W.drewN q) os' := by
  refine ⟨w'.drawn - W.drawn, w'.heap.extract W.heap.size w'.heap.size, ?_⟩
  obtain ⟨hp, tp, dr, os, out⟩ := w'
  have h1 := h.below.os
  have h2 := h.below.tape
  have h3 := h.below.output
  have h4 := h.size
  have h5 := fun b hb => h.block (b := b) hb
  have h6 := h.drawn
  simp only at h1 h2 h3 h4 h5 h6
  subst h1 h2 h3
  unfold grow World.drewN
  simp only [World.mk.injEq, true_and, and_true]
  refine ⟨?_, by omega⟩
  apply Array.ext_getElem?
  intro k
  rw [Array.getElem?_append]
  split
  · rename_i hk
    exact h5 k hk
  · rename_i hk
    rw [Array.getElem?_extract]
    split
    · congr 1; omega
    · rw [Array.getElem?_eq_none]
      omega

section
variable {α : Type} [Inhabited α] {P : Program} {ρ : Ren} {f : α → List Value} {k : Nat}

theorem chg_sortWorldK (w : World) (blk off m : Nat) (dk : Array α) (os : Array Obj) : Chg (fun b => b = blk) w (sortWorldK f k w blk off m dk os) := by
  unfold sortWorldK putRowK
  refine ⟨rfl, rfl, rfl, ?_, fun b hb hne => ?_, ?_⟩
  · rw [size_grow, Go.Sort.size_putRow]
    exact Nat.le_add_right _ _
  · show ((putRow id (Go.Sort.ahead w m) blk off (flatK f k dk)).heap ++ os)[b]? = _
    rw [Array.getElem?_append, if_pos (by rw [Go.Sort.size_putRow]; exact hb)]
    unfold putRow mapBlock
    show (Array.modify w.heap blk _)[b]? = _
    rw [Array.getElem?_modify, if_neg (fun e => hne e.symm)]
  · show w.drawn ≤ w.drawn + m
    omega

theorem flat_at {l : List α} (hk : ∀ x, (f x).length = k) {t : Nat} (ht : t < l.length * k) : (l.flatMap f)[t]? = some (flatK f k l.toArray)[t]! := by
  have hk0 : 0 < k := by
    rcases Nat.eq_zero_or_pos k with h | h
    · subst h; omega
    · exact h
  have hi : t / k < l.length := Nat.div_lt_of_lt_mul (by rw [Nat.mul_comm]; exact ht)
  have hm := Nat.mod_lt t hk0
  have hdm : t / k * k + t % k = t := by rw [Nat.mul_comm]; exact Nat.div_add_mod t k
  have hp := flatMap_part (size := k) (fun x _ => hk x) (List.getElem?_eq_getElem hi)
  rw [get_flatK f k l.toArray t (by simpa using ht)]
  have h1 : (f l[t / k])[t % k]? = some ((f l[t / k])[t % k]'(by rw [hk]; exact hm)) := List.getElem?_eq_getElem _
  have h2 : (l.toArray)[t / k]! = l[t / k] := by simp [hi]
  rw [h2, getElem!_pos (f l[t / k]) (t % k) (by rw [hk]; exact hm), ← h1]
  conv => rhs; rw [← hp]
  rw [List.getElem?_take, if_pos hm, List.getElem?_drop, hdm]

theorem at_sortFunc (L : SlLaysF0.n6 P ρ) {e : TypeId} (aE : pureRun P (isAgg (ρ.t 24)) = some true) (zE : pureRun P (sizeOf (ρ.t 24)) = some k) (hk : ∀ x, (f x).length = k) (h1 : ∀ x, ∀ v ∈ f x, v.oneCell' = true) (cf : α → α → Int) (hO : SWO (ltOf cf)) {g : Nat} {cb : Array Value}
    (eg : ∀ args w, (callFunc g args).run P w = .ok (.enter g args) w) {w W : World} {M : Nat → Prop} {gs : List Nat} {a : Option Addr} {n c : Nat} {l : List α} {K : Ending → World → Prop} (hA : AtF w M gs W) (ho : OwnF w M gs W e k f (.slice a n c) l)
    (hcmp : ∀ W', Chg (fun b => (Value.slice a n c).ownBlock = some b) W W' → ∀ x y, Ret P g (#[.agg (f x).toArray, .agg (f y).toArray] ++ cb) W' (.int .i64 (cf x y))) (hl : l.length < 4611686018427387904)
    (hK : ∀ l' w', AtF w M gs w' → Keeps gs W w' → Chg (fun b => (Value.slice a n c).ownBlock = some b) W w' → OwnF w M gs w' e k f (.slice a n c) l' → l'.Perm l → l'.Pairwise (fun x y => ¬ cf y x < 0) → K (.returned (.tuple #[])) w') :
    Calls P (ρ.f 6) #[.slice a n c, .func (.func g) #[] cb] W K := by
  have hn := ho.len
  subst hn
  rcases ho.row0.2 with ⟨hv, h0⟩ | ⟨b, cap, cur, hv, _, hg, hnc, hcm, hcs, htk⟩
  · have hl0 : l = [] := List.eq_nil_of_length_eq_zero h0
    subst hl0
    refine (AnyF.slices_SortFunc_none (P := P) (ρ := ρ) { L with } a c _ W).mono ?_
    rintro e' w' ⟨rfl, rfl⟩
    exact hK [] w' hA (fun _ _ => rfl) (Chg.refl _ _) ho (List.Perm.refl _) List.Pairwise.nil
  · obtain ⟨rfl, _, rfl⟩ := Value.slice.inj hv
    have hfl : (l.flatMap f).length = l.length * k := flatMap_len fun x _ => hk x
    have hcur : ∀ t, t < l.length * k → cur[t]? = some (flatK f k l.toArray)[t]! := fun t ht => by
      rw [← flat_at hk ht, ← htk, List.getElem?_take, if_pos ht, Array.getElem?_toList]
    have hH : HoldsK f k W b 0 l.toArray := by
      intro j hj
      rw [size_flatK] at hj
      have hj' : j < l.length * k := by simpa using hj
      refine ⟨?_, ?_⟩
      · unfold World.cell?
        simp only [hg]
        simpa using hcur j hj'
      · unfold World.frozen?
        simp only [hg]
        simp
    have hblk : b < W.heap.size := (Array.getElem?_eq_some_iff.1 hg).1
    have hcm' : CmpLays P g cb f k cf b 0 l.toArray.size W := fun m os dk _ x y => by
      refine hcmp _ ((chg_sortWorldK W b 0 m dk os).mono fun b' _ hb => ?_) x y _ fun w' hb => ⟨rfl, bel_grow hb⟩
      subst hb
      rfl
    have hmain := AnyQ.slices_SortFunc L k (fun w => pureRun_run aE w) (fun w => pureRun_run zE w) f hk h1 cf hO g cb b 0 c l.toArray W eg hcm' hH hblk (by simpa using hl)
    have hsz : l.toArray.size = l.length := by simp
    rw [hsz] at hmain
    refine hmain.mono ?_
    rintro e' w' ⟨rfl, d', n, os, hp, hs, rfl⟩
    have hch : Chg (fun b' => (Value.slice (some ⟨b, 0, none⟩) l.length c).ownBlock = some b') W (sortWorldK f k W b 0 n d' os) := (chg_sortWorldK W b 0 n d' os).mono fun b' _ hb => by subst hb; rfl
    have hd : d'.size = l.length := by have := hp.1; simpa using this
    have hperm : d'.toList.Perm l := by
      have := hp.2.2
      rw [show l.length = d'.size from hd.symm] at this
      have e1 : d'.extract 0 d'.size = d' := by simp
      have e2 : l.toArray.extract 0 d'.size = l.toArray := by rw [hd]; simp
      rw [e1, e2] at this
      simpa using this
    have hpw : d'.toList.Pairwise (fun x y => ¬ cf y x < 0) := by
      rw [List.pairwise_iff_getElem]
      intro i j hi hj hij
      simp only [Array.length_toList] at hi hj
      have := hs i j (Nat.zero_le _) hij (by omega)
      rw [getElem!_pos d' j hj, getElem!_pos d' i hi] at this
      unfold ltOf at this
      simpa using this
    have hdl : d'.toList.length = l.length := by simpa using hd
    refine hK d'.toList _ (hA.step hch fun k' _ hk' => ho.mine k' hk') (hA.keepsC hch fun g' hg' hk' => ho.apart g' hg' hk') hch ?_ hperm hpw
    refine ⟨?_, ho.mine, ho.apart⟩
    rw [hdl]
    refine ⟨by rw [flatMap_len (size := k) fun x _ => hk x, hdl], .inr ⟨b, c, putCells id 0 (flatK f k d') cur, rfl, Nat.zero_le _, ?_, hnc, hcm, ?_, ?_⟩⟩
    · unfold sortWorldK putRowK
      show ((putRow id (Go.Sort.ahead W n) b 0 (flatK f k d')).heap ++ os)[b]? = _
      rw [Array.getElem?_append, if_pos (by rw [Go.Sort.size_putRow]; exact hblk)]
      unfold putRow mapBlock
      show (Array.modify W.heap b _)[b]? = _
      rw [Array.getElem?_modify, if_pos rfl, hg]
      rfl
    · unfold putCells
      rw [Array.size_mapIdx, hcs]
    · apply List.ext_getElem?
      intro t
      rw [List.getElem?_take]
      by_cases ht : t < l.length * k
      · rw [if_pos ht, flat_at hk (by rw [hdl]; exact ht), Array.getElem?_toList]
        unfold putCells
        have htc : t < cur.size := by
          have := hcur t ht
          exact (Array.getElem?_eq_some_iff.1 this).1
        rw [Array.getElem?_mapIdx, Array.getElem?_eq_getElem htc, Option.map_some, if_pos ⟨Nat.zero_le _, by rw [size_flatK, hd]; omega⟩]
        simp
      · rw [if_neg ht, List.getElem?_eq_none]
        rw [flatMap_len (size := k) fun x _ => hk x, hdl]
        omega
end
end Go.Vc

/- The library's functions as they lie in this program: tables of numbers, printed by a program; the kernel compares the bodies. -/
set_option maxRecDepth 100000
set_option linter.unusedVariables false
namespace Go.Proofs
open Go.Shelf
def Try.sortTk_ren : Go.Shelf.Ren := ⟨fun | 6 => 126 | 15 => 130 | 14 => 146 | 28 => 155 | 29 => 156 | 20 => 171 | 21 => 172 | 22 => 173 | 23 => 174 | 24 => 175 | 25 => 176 | 26 => 177 | 27 => 178 | 46 => 187 | 47 => 180 | 48 => 181 | 49 => 188 | 50 => 189 | 57 => 192 | n => n, fun | 22 => 44 | 24 => 48 | 25 => 167 | 3 => 3 | 39 => 162 | 0 => 0 | 53 => 193 | 55 => 195 | 4 => 4 | 46 => 187 | 45 => 186 | 50 => 134 | 5 => 5 | 9 => 9 | 66 => 212 | 70 => 216 | 76 => 222 | 77 => 223 | n => n, fun | n => n⟩
theorem Try.sortTk : Go.Proofs.SlLaysF0.n6 Try.prog Try.sortTk_ren := {
  mixed := by kernel_rfl,
  f6 := ⟨Try.f126.name, by decide, Try.func126.trans (congrArg some (by kernel_rfl))⟩,
  f14 := ⟨Try.f146.name, by decide, Try.func146.trans (congrArg some (by kernel_rfl))⟩,
  f15 := Try.func130.trans (congrArg some (by kernel_rfl)),
  f20 := ⟨Try.f171.name, by decide, Try.func171.trans (congrArg some (by kernel_rfl))⟩,
  f21 := ⟨Try.f172.name, by decide, Try.func172.trans (congrArg some (by kernel_rfl))⟩,
  f22 := ⟨Try.f173.name, by decide, Try.func173.trans (congrArg some (by kernel_rfl))⟩,
  f23 := ⟨Try.f174.name, by decide, Try.func174.trans (congrArg some (by kernel_rfl))⟩,
  f24 := ⟨Try.f175.name, by decide, Try.func175.trans (congrArg some (by kernel_rfl))⟩,
  f25 := ⟨Try.f176.name, by decide, Try.func176.trans (congrArg some (by kernel_rfl))⟩,
  f26 := ⟨Try.f177.name, by decide, Try.func177.trans (congrArg some (by kernel_rfl))⟩,
  f27 := ⟨Try.f178.name, by decide, Try.func178.trans (congrArg some (by kernel_rfl))⟩,
  f28 := Try.func155.trans (congrArg some (by kernel_rfl)),
  f29 := Try.func156.trans (congrArg some (by kernel_rfl)),
  f46 := ⟨Try.f187.name, by decide, Try.func187.trans (congrArg some (by kernel_rfl))⟩,
  f47 := Try.func180.trans (congrArg some (by kernel_rfl)),
  f48 := Try.func181.trans (congrArg some (by kernel_rfl)),
  f49 := ⟨Try.f188.name, by decide, Try.func188.trans (congrArg some (by kernel_rfl))⟩,
  f50 := ⟨Try.f189.name, by decide, Try.func189.trans (congrArg some (by kernel_rfl))⟩,
  f57 := ⟨Try.f192.name, by decide, Try.func192.trans (congrArg some (by kernel_rfl))⟩,
  t0 := Try.underlying0,
  a0 := Try.isAgg0,
  z0 := Try.sizeOf0,
  v0 := Try.zeroValue0,
  t3 := Try.underlying3,
  a3 := Try.isAgg3,
  z3 := Try.sizeOf3,
  v3 := Try.zeroValue3,
  t4 := Try.underlying4,
  a4 := Try.isAgg4,
  z4 := Try.sizeOf4,
  v4 := Try.zeroValue4,
  t5 := Try.underlying5,
  a5 := Try.isAgg5,
  z5 := Try.sizeOf5,
  v5 := Try.zeroValue5,
  t9 := Try.underlying9,
  a9 := Try.isAgg9,
  z9 := Try.sizeOf9,
  v9 := Try.zeroValue9,
  t22 := Try.underlying44,
  a22 := Try.isAgg44,
  z22 := Try.sizeOf44,
  v22 := Try.zeroValue44,
  t25 := Try.underlying167,
  a25 := Try.isAgg167,
  z25 := Try.sizeOf167,
  v25 := Try.zeroValue167,
  t39 := Try.underlying162,
  a39 := Try.isAgg162,
  z39 := Try.sizeOf162,
  v39 := Try.zeroValue162,
  t45 := Try.underlying186,
  a45 := Try.isAgg186,
  z45 := Try.sizeOf186,
  v45 := Try.zeroValue186,
  t46 := Try.underlying187,
  a46 := Try.isAgg187,
  z46 := Try.sizeOf187,
  v46 := Try.zeroValue187,
  t50 := Try.underlying134,
  a50 := Try.isAgg134,
  z50 := Try.sizeOf134,
  v50 := Try.zeroValue134,
  t53 := Try.underlying193,
  a53 := Try.isAgg193,
  z53 := Try.sizeOf193,
  v53 := Try.zeroValue193,
  t55 := Try.underlying195,
  a55 := Try.isAgg195,
  z55 := Try.sizeOf195,
  v55 := Try.zeroValue195,
  t66 := Try.underlying212,
  a66 := Try.isAgg212,
  z66 := Try.sizeOf212,
  v66 := Try.zeroValue212,
  t70 := Try.underlying216,
  a70 := Try.isAgg216,
  z70 := Try.sizeOf216,
  v70 := Try.zeroValue216,
  t76 := Try.underlying222,
  a76 := Try.isAgg222,
  z76 := Try.sizeOf222,
  v76 := Try.zeroValue222,
  t77 := Try.underlying223,
  a77 := Try.isAgg223,
  z77 := Try.sizeOf223,
  v77 := Try.zeroValue223}

def Try.sortAg_ren : Go.Shelf.Ren := ⟨fun | 6 => 92 | 15 => 130 | 14 => 129 | 28 => 155 | 29 => 156 | 20 => 147 | 21 => 148 | 22 => 149 | 23 => 150 | 24 => 151 | 25 => 152 | 26 => 153 | 27 => 154 | 46 => 179 | 47 => 180 | 48 => 181 | 49 => 182 | 50 => 183 | 57 => 190 | n => n, fun | 22 => 81 | 24 => 89 | 25 => 147 | 3 => 3 | 39 => 162 | 0 => 0 | 53 => 193 | 55 => 195 | 4 => 4 | 46 => 187 | 45 => 186 | 50 => 134 | 5 => 5 | 9 => 9 | 66 => 212 | 70 => 216 | 76 => 222 | 77 => 223 | n => n, fun | n => n⟩
theorem Try.sortAg : Go.Proofs.SlLaysF0.n6 Try.prog Try.sortAg_ren := {
  mixed := by kernel_rfl,
  f6 := ⟨Try.f92.name, by decide, Try.func92.trans (congrArg some (by kernel_rfl))⟩,
  f14 := ⟨Try.f129.name, by decide, Try.func129.trans (congrArg some (by kernel_rfl))⟩,
  f15 := Try.func130.trans (congrArg some (by kernel_rfl)),
  f20 := ⟨Try.f147.name, by decide, Try.func147.trans (congrArg some (by kernel_rfl))⟩,
  f21 := ⟨Try.f148.name, by decide, Try.func148.trans (congrArg some (by kernel_rfl))⟩,
  f22 := ⟨Try.f149.name, by decide, Try.func149.trans (congrArg some (by kernel_rfl))⟩,
  f23 := ⟨Try.f150.name, by decide, Try.func150.trans (congrArg some (by kernel_rfl))⟩,
  f24 := ⟨Try.f151.name, by decide, Try.func151.trans (congrArg some (by kernel_rfl))⟩,
  f25 := ⟨Try.f152.name, by decide, Try.func152.trans (congrArg some (by kernel_rfl))⟩,
  f26 := ⟨Try.f153.name, by decide, Try.func153.trans (congrArg some (by kernel_rfl))⟩,
  f27 := ⟨Try.f154.name, by decide, Try.func154.trans (congrArg some (by kernel_rfl))⟩,
  f28 := Try.func155.trans (congrArg some (by kernel_rfl)),
  f29 := Try.func156.trans (congrArg some (by kernel_rfl)),
  f46 := ⟨Try.f179.name, by decide, Try.func179.trans (congrArg some (by kernel_rfl))⟩,
  f47 := Try.func180.trans (congrArg some (by kernel_rfl)),
  f48 := Try.func181.trans (congrArg some (by kernel_rfl)),
  f49 := ⟨Try.f182.name, by decide, Try.func182.trans (congrArg some (by kernel_rfl))⟩,
  f50 := ⟨Try.f183.name, by decide, Try.func183.trans (congrArg some (by kernel_rfl))⟩,
  f57 := ⟨Try.f190.name, by decide, Try.func190.trans (congrArg some (by kernel_rfl))⟩,
  t0 := Try.underlying0,
  a0 := Try.isAgg0,
  z0 := Try.sizeOf0,
  v0 := Try.zeroValue0,
  t3 := Try.underlying3,
  a3 := Try.isAgg3,
  z3 := Try.sizeOf3,
  v3 := Try.zeroValue3,
  t4 := Try.underlying4,
  a4 := Try.isAgg4,
  z4 := Try.sizeOf4,
  v4 := Try.zeroValue4,
  t5 := Try.underlying5,
  a5 := Try.isAgg5,
  z5 := Try.sizeOf5,
  v5 := Try.zeroValue5,
  t9 := Try.underlying9,
  a9 := Try.isAgg9,
  z9 := Try.sizeOf9,
  v9 := Try.zeroValue9,
  t22 := Try.underlying81,
  a22 := Try.isAgg81,
  z22 := Try.sizeOf81,
  v22 := Try.zeroValue81,
  t25 := Try.underlying147,
  a25 := Try.isAgg147,
  z25 := Try.sizeOf147,
  v25 := Try.zeroValue147,
  t39 := Try.underlying162,
  a39 := Try.isAgg162,
  z39 := Try.sizeOf162,
  v39 := Try.zeroValue162,
  t45 := Try.underlying186,
  a45 := Try.isAgg186,
  z45 := Try.sizeOf186,
  v45 := Try.zeroValue186,
  t46 := Try.underlying187,
  a46 := Try.isAgg187,
  z46 := Try.sizeOf187,
  v46 := Try.zeroValue187,
  t50 := Try.underlying134,
  a50 := Try.isAgg134,
  z50 := Try.sizeOf134,
  v50 := Try.zeroValue134,
  t53 := Try.underlying193,
  a53 := Try.isAgg193,
  z53 := Try.sizeOf193,
  v53 := Try.zeroValue193,
  t55 := Try.underlying195,
  a55 := Try.isAgg195,
  z55 := Try.sizeOf195,
  v55 := Try.zeroValue195,
  t66 := Try.underlying212,
  a66 := Try.isAgg212,
  z66 := Try.sizeOf212,
  v66 := Try.zeroValue212,
  t70 := Try.underlying216,
  a70 := Try.isAgg216,
  z70 := Try.sizeOf216,
  v70 := Try.zeroValue216,
  t76 := Try.underlying222,
  a76 := Try.isAgg222,
  z76 := Try.sizeOf222,
  v76 := Try.zeroValue222,
  t77 := Try.underlying223,
  a77 := Try.isAgg223,
  z77 := Try.sizeOf223,
  v77 := Try.zeroValue223}

def Try.sortFl_ren : Go.Shelf.Ren := ⟨fun | 6 => 108 | 15 => 130 | 14 => 138 | 28 => 155 | 29 => 156 | 20 => 160 | 21 => 161 | 22 => 162 | 23 => 163 | 24 => 164 | 25 => 165 | 26 => 166 | 27 => 167 | 46 => 184 | 47 => 180 | 48 => 181 | 49 => 185 | 50 => 186 | 57 => 191 | n => n, fun | 22 => 111 | 24 => 25 | 25 => 136 | 3 => 3 | 39 => 162 | 0 => 0 | 53 => 193 | 55 => 195 | 4 => 4 | 46 => 187 | 45 => 186 | 50 => 134 | 5 => 5 | 9 => 9 | 66 => 212 | 70 => 216 | 76 => 222 | 77 => 223 | n => n, fun | n => n⟩
theorem Try.sortFl : Go.Proofs.SlLaysF0.n6 Try.prog Try.sortFl_ren := {
  mixed := by kernel_rfl,
  f6 := ⟨Try.f108.name, by decide, Try.func108.trans (congrArg some (by kernel_rfl))⟩,
  f14 := ⟨Try.f138.name, by decide, Try.func138.trans (congrArg some (by kernel_rfl))⟩,
  f15 := Try.func130.trans (congrArg some (by kernel_rfl)),
  f20 := ⟨Try.f160.name, by decide, Try.func160.trans (congrArg some (by kernel_rfl))⟩,
  f21 := ⟨Try.f161.name, by decide, Try.func161.trans (congrArg some (by kernel_rfl))⟩,
  f22 := ⟨Try.f162.name, by decide, Try.func162.trans (congrArg some (by kernel_rfl))⟩,
  f23 := ⟨Try.f163.name, by decide, Try.func163.trans (congrArg some (by kernel_rfl))⟩,
  f24 := ⟨Try.f164.name, by decide, Try.func164.trans (congrArg some (by kernel_rfl))⟩,
  f25 := ⟨Try.f165.name, by decide, Try.func165.trans (congrArg some (by kernel_rfl))⟩,
  f26 := ⟨Try.f166.name, by decide, Try.func166.trans (congrArg some (by kernel_rfl))⟩,
  f27 := ⟨Try.f167.name, by decide, Try.func167.trans (congrArg some (by kernel_rfl))⟩,
  f28 := Try.func155.trans (congrArg some (by kernel_rfl)),
  f29 := Try.func156.trans (congrArg some (by kernel_rfl)),
  f46 := ⟨Try.f184.name, by decide, Try.func184.trans (congrArg some (by kernel_rfl))⟩,
  f47 := Try.func180.trans (congrArg some (by kernel_rfl)),
  f48 := Try.func181.trans (congrArg some (by kernel_rfl)),
  f49 := ⟨Try.f185.name, by decide, Try.func185.trans (congrArg some (by kernel_rfl))⟩,
  f50 := ⟨Try.f186.name, by decide, Try.func186.trans (congrArg some (by kernel_rfl))⟩,
  f57 := ⟨Try.f191.name, by decide, Try.func191.trans (congrArg some (by kernel_rfl))⟩,
  t0 := Try.underlying0,
  a0 := Try.isAgg0,
  z0 := Try.sizeOf0,
  v0 := Try.zeroValue0,
  t3 := Try.underlying3,
  a3 := Try.isAgg3,
  z3 := Try.sizeOf3,
  v3 := Try.zeroValue3,
  t4 := Try.underlying4,
  a4 := Try.isAgg4,
  z4 := Try.sizeOf4,
  v4 := Try.zeroValue4,
  t5 := Try.underlying5,
  a5 := Try.isAgg5,
  z5 := Try.sizeOf5,
  v5 := Try.zeroValue5,
  t9 := Try.underlying9,
  a9 := Try.isAgg9,
  z9 := Try.sizeOf9,
  v9 := Try.zeroValue9,
  t22 := Try.underlying111,
  a22 := Try.isAgg111,
  z22 := Try.sizeOf111,
  v22 := Try.zeroValue111,
  t25 := Try.underlying136,
  a25 := Try.isAgg136,
  z25 := Try.sizeOf136,
  v25 := Try.zeroValue136,
  t39 := Try.underlying162,
  a39 := Try.isAgg162,
  z39 := Try.sizeOf162,
  v39 := Try.zeroValue162,
  t45 := Try.underlying186,
  a45 := Try.isAgg186,
  z45 := Try.sizeOf186,
  v45 := Try.zeroValue186,
  t46 := Try.underlying187,
  a46 := Try.isAgg187,
  z46 := Try.sizeOf187,
  v46 := Try.zeroValue187,
  t50 := Try.underlying134,
  a50 := Try.isAgg134,
  z50 := Try.sizeOf134,
  v50 := Try.zeroValue134,
  t53 := Try.underlying193,
  a53 := Try.isAgg193,
  z53 := Try.sizeOf193,
  v53 := Try.zeroValue193,
  t55 := Try.underlying195,
  a55 := Try.isAgg195,
  z55 := Try.sizeOf195,
  v55 := Try.zeroValue195,
  t66 := Try.underlying212,
  a66 := Try.isAgg212,
  z66 := Try.sizeOf212,
  v66 := Try.zeroValue212,
  t70 := Try.underlying216,
  a70 := Try.isAgg216,
  z70 := Try.sizeOf216,
  v70 := Try.zeroValue216,
  t76 := Try.underlying222,
  a76 := Try.isAgg222,
  z76 := Try.sizeOf222,
  v76 := Try.zeroValue222,
  t77 := Try.underlying223,
  a77 := Try.isAgg223,
  z77 := Try.sizeOf223,
  v77 := Try.zeroValue223}

end Go.Proofs

/- Tables of tasks: Launch; the ones that are asked for, as they stand. -/
set_option maxRecDepth 20000
set_option maxHeartbeats 1000000
namespace Go.Vc.J
open Go Go.Vc Go.Vc.V Go.RowKit Go.Proofs Vct

variable {w W W' W2 : World} {M : Nat → Prop} {gs ds : List Nat} {g r : Nat} {cap : Int} {m : List (KyT × TR)}

/-- What Launch answers. -/
def launchE (cap : Int) (m : List (KyT × TR)) (t : TkT) : Int := if ¬ okT t then 41 else if (mget (keyT t) m).isSome = true then 42 else if cap ≤ m.length then 32 else 0
theorem getQ_shape {k : KyT} {v : Value} (h : getQ W m k v W') : ∃ (a b c : Int) (s : Sl3) (bb : Bool), v = .tuple #[.agg #[.int .i64 a, .int .i64 b, .int .i64 c, .slice s.1 s.2.1 s.2.2], .bool bb] ∧ bb = (mget k m).isSome := by
  unfold getQ at h
  cases hx : mget k m with
  | none =>
    rw [hx] at h
    exact ⟨0, 0, 0, (none, 0, 0), false, h, rfl⟩
  | some y =>
    rw [hx] at h
    obtain ⟨s, e, _⟩ := h
    exact ⟨_, _, _, s, true, e, rfl⟩
theorem c30 (x : TR) (h : TbS W g r cap m) (hx : VecR W x) : RetF Try.prog 30 #[ptr g, trV x] W (fun b => b = r) fun v W' => v = .int .i64 (launchE cap m x.1) ∧ KeepC W W' ∧ (launchE cap m x.1 ≠ 0 → TbS W' g r cap m) ∧ (launchE cap m x.1 = 0 → ∃ s, TbS W' g r cap (mset (keyT x.1) (x.1, s) m)) := by
  intro R hR
  obtain ⟨⟨fr, id, ag, vec⟩, sa, sn, sc⟩ := x
  simp only at hR
  refine f30_calls _ fr id ag sa sn sc W R ?_
  unfold f30_vc
  have h0 := h
  have hgW := h0.glt
  have hrW := h0.rlt
  have hx : SlE W 3 partE vec sa sn sc := hx
  have hn := hx.1
  intro n1 hn1 w2 hb2 hu2
  have hA : At W [n1] w2 := ⟨((At.refl W).call hb2).chg, hu2⟩
  refine at_callq hA (c24 fr id (h.call hb2)) fun v w4 hA hk hb4 hq => ?_
  have hb04 := hb2.trans hb4
  have hs04 := hb04.size
  have stay : ∀ {e : Int} {gs W'}, launchE cap m (fr, id, ag, vec) = e → e ≠ 0 → At W gs W' → R (.returned (.int .i64 e)) W' := fun he hne hA => by
    rw [he] at hR
    exact hR _ _ (Chg.of_below hA.below) ⟨rfl, KeepC.of_bel hA.below, fun _ => h0.call hA.below, fun e0 => absurd e0 hne⟩
  obtain ⟨y5, y6, y7, s8, b11, e, hb11⟩ := getQ_shape hq
  subst e
  refine ⟨_, _, _, _, _, _, _, rfl, hk, ?_⟩
  · intro n12 hn12 w13 hev hu
    have hb13 := hev.bel (by simpa using hn12)
    have hA : At W [n1, n12] w13 := ⟨(hA.call hb13).chg, hu⟩
    have h := h0.call hA.below
    have nok : ¬ okT (fr, id, ag, vec) → launchE cap m (fr, id, ag, vec) = 41 := fun hh => if_pos hh
    refine at_callb hA (c81 h) fun w15 hA hk hb15 => ⟨_, rfl, hk, brNB (fun e => by cases e) (fun _ => ?_)⟩
    refine brD (fun h1 => stay (nok fun hh => by have := hh.1; simp only at this; omega) (by decide) hA) (fun h1 => brD (fun h2 => stay (nok fun hh => by have := hh.2.1; simp only at this; omega) (by decide) hA) (fun h2 => brD (fun h3 => stay (nok fun hh => by have := hh.2.2.1; simp only at this; omega) (by decide) hA) (fun h3 => brE (fun h4 => stay (nok fun hh => hh.2.2.2.1 (List.eq_nil_of_length_eq_zero (show vec.length = 0 by omega))) (by decide) hA) (fun h4 => ?_))))
    refine at_callb hA (c17 w15 (sle_keepC hx (KeepC.of_bel hA.below))) fun w18 hA hk hb18 => ⟨_, rfl, hk, brNB (fun h5 => stay (nok fun hh => by have := hh.2.2.2.2; rw [h5] at this; cases this) (by decide) hA) (fun h5 => ?_)⟩
    have hok : okT (fr, id, ag, vec) := ⟨by simp only; omega, by simp only; omega, by simp only; omega, fun e => h4 (by have e : vec = [] := e; rw [hn, e]; rfl), h5⟩
    have hlen := vec_len' h5
    refine ⟨fun e => stay (by unfold launchE; rw [if_neg (fun hh => hh hok), if_pos (by rw [show keyT (fr, id, ag, vec) = (fr, id) from rfl, ← hb11, e])]) (by decide) hA, fun e => ?_⟩
    have hnone : ¬ (mget (keyT (fr, id, ag, vec)) m).isSome = true := fun hh => by rw [show keyT (fr, id, ag, vec) = (fr, id) from rfl, ← hb11, e] at hh; cases hh
    have h := h0.call hA.below
    refine ⟨_, rfl, _, h.rdM nod, _, reads_lenM (kt := 40) (et := 48) (by kernel_rfl) h.mp nod, _, rfl, _, h.rdC nod, brD (fun hge w25 hb hu => stay (by unfold launchE; rw [if_neg (fun hh => hh hok), if_neg hnone, if_pos (by omega)]) (by decide) (gs := [n1, n12]) ⟨(hA.call hb).chg, hu⟩) (fun hlt w26 hb26 hu => ?_)⟩
    have hA : At W [n1, n12] w26 := ⟨(hA.call hb26).chg, hu⟩
    have h := h0.call hA.below
    refine at_calll hA (c79 w26 (sle_keepC hx (KeepC.of_bel hA.below)) (by omega)) (fun _ _ => rfl) fun a c w28 hA hk hb28 ho hs => ⟨_, _, _, rfl, hk, ?_⟩
    have h := h0.call hA.below
    refine ⟨_, rfl, _, h.rdM (by intro d hd; simp at hd; omega), fun w34 hev hu => ?_⟩
    have hA4 := hA.evo (by intro d hd; simp at hd; omega) hev hu
    have ho := ho.evo (by intro d hd hd2; simp at hd hd2; omega) hev
    have h := h0.call hA4.below
    have hAr : AtF W (fun b => b = r) [n1, n12] w34 := ⟨Chg.of_below hA4.below, hu⟩
    have he0 : launchE cap m (fr, id, ag, vec) = 0 := by unfold launchE; rw [if_neg (fun hh => hh hok), if_neg hnone, if_neg (by omega)]
    refine opw_mapUpdate (κ := KyT) (α := TR) (kf := keyV) (vf := trV) (kt := 40) (et := 48) (k := (fr, id)) (v := ((fr, id, ag, vec), (a, vec.length, c))) keyOk_k (by kernel_rfl) hAr (h.at (w := W) (gs := [n1, n12]) (.inr rfl) (by simp; omega)) fun w36 hA6 hk hc hm => ⟨hk, ?_⟩
    have kc := (KeepC.of_bel hA4.below).trans (h.kc hc)
    rw [he0] at hR
    refine hR _ _ hA6.chg ⟨rfl, kc, fun e => absurd rfl e, fun _ => ⟨(a, vec.length, c), ?_⟩⟩
    exact h0.set (x := ((fr, id, ag, vec), (a, vec.length, c))) ((hc.block g h.glt h.ne).trans (hA4.below.block hgW)) kc hm (sle_keepC (ho.sl fun _ _ => rfl) (h.kc hc)) hok
end Go.Vc.J

/- Tables of tasks: those that are asked for, as they stand; their sums. -/
set_option maxRecDepth 20000
set_option maxHeartbeats 1000000
namespace Go.Vc.J
open Go Go.Vc Go.Vc.V Go.RowKit Go.Proofs Vct

variable {w W W' W2 : World} {M : Nat → Prop} {gs ds : List Nat} {g r : Nat} {cap : Int} {m : List (KyT × TR)}

/-! ### The order -/
def cfT (x y : TR) : Int := orL [sg x.1.1 y.1.1, sg x.1.2.1 y.1.2.1]
def lexT (x y : TkT) : Prop := x.1 < y.1 ∨ (x.1 = y.1 ∧ x.2.1 < y.2.1)
theorem cfT_lt (x y : TR) : cfT x y < 0 ↔ lexT x.1 y.1 := by
  unfold cfT lexT sg
  simp only [orL]
  repeat' split
  all_goals omega
theorem swoT : Go.Sort.SWO (ltOf cfT) where
  irrefl x := by
    unfold ltOf
    rw [decide_eq_false_iff_not, cfT_lt]
    unfold lexT; omega
  trans x y z h k := by
    unfold ltOf at *
    rw [decide_eq_true_iff, cfT_lt] at *
    unfold lexT at *; omega
  ntrans x y z h k := by
    unfold ltOf at *
    rw [decide_eq_false_iff_not, cfT_lt] at *
    unfold lexT at *; omega
theorem c127 (x y : TR) (W : World) : Ret Try.prog 127 #[trV x, trV y] W (.int .i64 (cfT x y)) := by
  intro R h
  refine f127_calls _ _ _ _ _ _ _ _ _ _ _ _ W R ?_
  unfold f127_vc
  intro n1 hn1 n2 hn2 w3 hb3 hu3
  have hA : At W [n1, n2] w3 := ⟨((At.refl W).call hb3).chg, hu3⟩
  refine at_callb hA (c94 _ _ w3) fun w5 hA hk _ => ⟨_, rfl, hk, ?_⟩
  refine at_callb hA (c94 _ _ w5) fun w8 hA hk _ => ⟨_, rfl, hk, ?_⟩
  refine opw_litL (f := fun x : Int => [Value.int .i64 x]) (size := 1) (e' := 3) (l := [sg x.1.1 y.1.1, sg x.1.2.1 y.1.2.1]) hA rfl (fun _ _ => rfl) (by decide) (by kernel_rfl) fun g w11 _ hA hk _ ho => ⟨_, _, _, rfl, hk, ?_⟩
  exact at_callb hA (c119 w11 (ho.sl fun _ _ => rfl) (by simp)) fun w16 hA hk _ => ⟨_, rfl, hk, leaf h hA rfl⟩
theorem tr_one (x : TR) : ∀ u ∈ trE x, u.oneCell' = true := fun u hu => by
  simp at hu
  rcases hu with rfl | rfl | rfl | rfl <;> rfl
theorem at_sortT {a : Option Addr} {n c : Nat} {l : List TR} {K : Ending → World → Prop} (hA : AtF w M gs W) (ho : OwnF w M gs W 48 4 trE (.slice a n c) l) (hl : l.length < 4611686018427387904)
    (hK : ∀ l' w', AtF w M gs w' → Keeps gs W w' → Chg (fun b => (Value.slice a n c).ownBlock = some b) W w' → OwnF w M gs w' 48 4 trE (.slice a n c) l' → l'.Perm l → l'.Pairwise (fun x y => ¬ cfT y x < 0) → K (.returned (.tuple #[])) w') :
    Calls Try.prog 126 #[.slice a n c, .func (.func 127) #[] #[]] W K :=
  at_sortFunc (P := Try.prog) (ρ := Try.sortTk_ren) Try.sortTk (k := 4) (f := trE) (e := 48) (by kernel_rfl) (by kernel_rfl) (fun _ => rfl) tr_one cfT swoT (g := 127) (cb := #[])
    (enters_of Try.func127 (by kernel_rfl) rfl) hA ho (fun W' _ x y => c127 x y W') hl hK

/-! ### Those that are asked for -/
/-- A task whose vector lies in a row of its own. -/
def VO (W0 W : World) (x : TR) : Prop := VecR W x ∧ ∃ (b : Nat) (cur : Array Value), x.2.1 = some ⟨b, 0, none⟩ ∧ W.heap[b]? = some (Obj.cells cur 73 (0, 0)) ∧ W0.heap.size ≤ b
theorem VO.step {W0 : World} {x : TR} (h : VO W0 W x) (hb : ∀ (b : Nat) (cur : Array Value), W.heap[b]? = some (Obj.cells cur 73 (0, 0)) → W'.heap[b]? = W.heap[b]?) : VO W0 W' x := by
  obtain ⟨hv, b, cur, e, hc, hn⟩ := h
  refine ⟨?_, b, cur, e, (hb b cur hc).trans hc, hn⟩
  obtain ⟨h1, h2, h3, h4, h6⟩ := hv
  refine ⟨h1, h2, h3, h4, fun i y hy => ?_⟩
  obtain ⟨ad, cs, ha, hl, hcs, hr⟩ := h6 i y hy
  refine ⟨ad, cs, ha, hl, fun j v hv => ?_, hr⟩
  rw [e] at ha
  cases ha
  rw [World.cell?_of_block (w := W) (w' := W') (by rw [add_block, add_block]; exact hb b cur hc)]
  exact hcs j v hv
theorem VO.call {W0 : World} {x : TR} (h : VO W0 W x) (hb : Bel W W') : VO W0 W' x := h.step fun b _ hc => hb.block (Array.getElem?_eq_some_iff.1 hc).1
/-- What those functions tell. -/
def thoseQ (W : World) (m : List (KyT × TR)) (p : TkT → Bool) (v : Value) (w' : World) : Prop := ∃ (l : List TR) (a : Option Addr) (c : Nat), v = .slice a l.length c ∧ OwnL W [] w' 48 4 trE (.slice a l.length c) l ∧ (∀ x ∈ l, VO W w' x) ∧ (l.map (·.1)).Perm ((m.map (·.2.1)).filter p) ∧ l.Pairwise fun x y => ¬ lexT y.1 x.1
theorem c84 {fv : Value} {p : TkT → Bool} (h : TbS W g r cap m) (hl : m.length ≤ 1000) (hf : ∀ W', Bel W W' → ∀ x : TR, RetI Try.prog fv #[trV x] W' (.bool (p x.1))) : RetQ Try.prog 84 #[ptr g, fv] W (thoseQ W m p) := by
  intro R hR
  refine f84_calls _ fv W R ?_
  unfold f84_vc
  have h0 := h
  refine at_callb (At.refl W) (c81 h) fun w2 hA _ hb2 => ⟨_, rfl, brB (fun _ => ?_) (fun e => by cases e)⟩
  have h := h.call hb2
  refine ⟨_, rfl, _, h.rdM nod, ?_⟩
  refine opw_range (w0 := W) (M0 := fun b => b = r) (gs0 := []) (kt := 40) (et := 48) (by kernel_rfl) hA (h.at (.inr rfl) (by simp)) fun q w7 hq hA _ hb7 hi => ⟨_, rfl, ?_⟩
  refine ⟨fun v W' => At W [] W' ∧ ∃ out rest cur, OwnL W [] W' 48 4 trE (.slice v.1.1 v.1.2.1 v.1.2.2) out ∧ Itr W noB [] W' q r keyV trV m rest cur ∧ (∀ x ∈ out, VO W W' x) ∧ (out.map (·.1) ++ (rest.map (·.2.1)).filter p).Perm ((m.map (·.2.1)).filter p) ∧ (∀ x ∈ rest, x ∈ m),
    fun _ W' => itLeft W' q r, ⟨hA, [], m, none, OwnL.nil, hi, by simp, by simp, fun x hx => hx⟩, ?_⟩
  rintro a11 n12 n13 w14 ⟨hA, out, rest, cur, hout, hi, hvo, hperm, hsub⟩
  simp only at hout
  have hn12 := hout.len
  have hlen : out.length ≤ m.length := by
    have h1 := hperm.length_eq
    rw [List.length_append, List.length_map] at h1
    have h2 := List.length_filter_le p (m.map (·.2.1))
    rw [List.length_map] at h2
    omega
  have hleft := hi.left
  have hi14 := hi
  have hob : ∀ k, (Value.slice a11 n12 n13).ownBlock = some k → k ≠ q := fun k hk e => by
    obtain ⟨cur', hcur⟩ := hout.blk hk
    obtain ⟨es, clock, since, c0, seen, _, _, _, _, h5, _⟩ := hi.obj
    subst e
    rw [hcur] at h5
    cases h5
  refine opw_next hA hi (fun hr => ⟨.inl rfl, fun _ => ?_, fun _ _ _ _ _ _ _ _ e => by simp at e⟩) fun x ra rb w16 hr hA hk hch hi => ⟨.inr ⟨((x.1.1, x.1.2, ()), (x.2.1.1, x.2.1.2.1, x.2.1.2.2.1, (x.2.2.1, x.2.2.2.1, x.2.2.2.2), ()), ()), rfl⟩, fun e => by simp at e, fun _ _ _ _ _ _ _ _ _ => ?_⟩
  · subst hr
    simp only [List.map_nil, List.filter_nil, List.append_nil] at hperm
    refine at_sortT hA hout (by omega) fun l' w18 hA _ hch ho' hp hw => ⟨rfl, ?_⟩
    have hll : l'.length = out.length := hp.length_eq
    have e : n12 = l'.length := by omega
    subst e
    refine hR _ _ hA.below ⟨l', a11, n13, rfl, ho', fun x hx => (hvo x (hp.mem_iff.1 hx)).step fun b cur hc => hch.block b (Array.getElem?_eq_some_iff.1 hc).1 fun hown => ?_, (hp.map _).trans hperm, hw.imp fun h hh => h ((cfT_lt _ _).2 hh)⟩
    obtain ⟨cur', hc'⟩ := hout.blk hown
    exact cells_ne hc' hc (by decide) rfl
  · have hout := hout.chg hch fun k hk e => hob k hk e
    have hvo : ∀ x ∈ out, VO W w16 x := fun x hx => (hvo x hx).step fun b cur' hc => hch.block b (Array.getElem?_eq_some_iff.1 hc).1 fun e => by
      obtain ⟨es, clock, since, c0, seen, _, _, _, _, h5, _⟩ := hi14.obj
      rw [e, h5] at hc
      cases hc
    have hxm : x ∈ m := hsub x (by rw [hr]; simp)
    refine opw_entry hi ⟨_, _, _, _, _, _, _, _, rfl, ?_⟩
    intro n37 hn37 w38 hev hu
    have hb38 := hev.bel (by simpa using hn37)
    have hA8 : At W [n37] w38 := ⟨(hA.call hb38).chg, hu⟩
    have B : At w16 [n37] w38 := ⟨Chg.of_below hb38, hu⟩
    refine at_inv hA8 (hf w38 hA8.below x.2) fun w40 hA hk hb40 => ⟨_, rfl, hk, ?_⟩
    have B := B.call hb40
    have hsz0 := hi.left
    rw [hr] at hleft
    simp only [List.length_append, List.length_cons] at hleft hsz0
    have hrs : ∀ y ∈ ra ++ rb, y ∈ m := fun y hy => hsub y (by
      rw [hr]
      rcases List.mem_append.1 hy with hy | hy
      · exact List.mem_append_left _ hy
      · exact List.mem_append_right _ (List.mem_cons_of_mem _ hy))
    have hp2 : (p x.2.1 = true → ((out ++ [x.2]).map (·.1) ++ ((ra ++ rb).map (·.2.1)).filter p).Perm ((m.map (·.2.1)).filter p)) ∧ (p x.2.1 = false → (out.map (·.1) ++ ((ra ++ rb).map (·.2.1)).filter p).Perm ((m.map (·.2.1)).filter p)) := by
      rw [hr, List.map_append, List.filter_append, List.map_cons, List.filter_cons] at hperm
      constructor
      · intro hp
        rw [if_pos hp] at hperm
        rw [List.map_append, List.map_append, List.filter_append, List.append_assoc]
        refine List.Perm.trans ?_ hperm
        refine List.Perm.append_left _ ?_
        show ([x.2.1] ++ (_ ++ _)).Perm _
        rw [List.singleton_append]
        exact List.perm_middle.symm
      · intro hp
        rw [if_neg (by rw [hp]; decide)] at hperm
        rw [List.map_append, List.filter_append]
        exact hperm
    refine brB (fun hp => ?_) (fun hp => ?_)
    · have hx0 := h0.vs x hxm
      obtain ⟨_, _, _, hne, hv⟩ := h0.ok x hxm
      have hl132 := vec_len' hv
      refine at_calll hA (c79 w40 (hx0.keep (KeepC.of_bel hA.below)) (by omega)) (fun _ _ => rfl) fun a c w43 hA hk hb43 ho hs => ⟨_, _, _, rfl, hk, fun w47 hev hu => ?_⟩
      have hsz16 := hA.size
      have hw16 : W.heap.size ≤ w16.heap.size := (‹At W [] w16›).size
      have hA := hA.evo (by intro d hd; simp at hd; omega) hev hu
      have B := (B.call hb43).evo (by intro d hd; simp at hd; omega) hev hu
      have ho := ho.evo (by intro d hd hd2; simp at hd hd2; omega) hev
      have hout := (hout.more (gs' := [n37]) (by intro g h1 _; simp at h1; omega)).call B.below
      refine opw_push (f := trE) (e' := 48) (bytes := 48) hA hout (x.2.1, (a, x.2.1.2.2.2.length, c)) (by kernel_rfl) (by kernel_rfl) rfl (fun _ _ => rfl) (tr_one _) (by omega) (by decide) fun a2 c2 w54 hA hout' hgr _ => ?_
      have hvo47 : ∀ y ∈ out, VO W w47 y := fun y hy => (hvo y hy).call B.below
      obtain ⟨b, cur', eb, hge, hbk, _⟩ := ho.ptr (List.length_pos_iff.2 hne)
      have hnew : VO W w47 (x.2.1, (a, x.2.1.2.2.2.length, c)) := ⟨ho.sl fun _ _ => rfl, b, cur', eb, hbk, by
        have := ho.mine b (by rw [eb]; rfl)
        simpa using this⟩
      have keep73 : ∀ (b : Nat) (cur : Array Value), w47.heap[b]? = some (Obj.cells cur 73 (0, 0)) → w54.heap[b]? = w47.heap[b]? := fun b cur hc => hgr.block b (Array.getElem?_eq_some_iff.1 hc).1 fun e => by
        obtain ⟨cur', hc'⟩ := hout.blk e.symm
        exact cells_ne hc' hc (by decide) rfl
      have hi47 := hi.call B.below
      have hq47 : w54.heap[q]? = w47.heap[q]? := hgr.block q hi47.lts.1 fun e => hob q e.symm rfl
      have hr47 : w54.heap[r]? = w47.heap[r]? := hgr.block r hi47.lts.2.1 fun e => by
        obtain ⟨cur', hc'⟩ := hout.blk e.symm
        obtain ⟨es, clock, since, c0, seen, h5, _⟩ := hi47.obj
        rw [hc'] at h5
        cases h5
      have hi54 := hi47.keep hq47 hr47
      refine ⟨⟨hA.sub (by simp), out ++ [(x.2.1, (a, x.2.1.2.2.2.length, c))], ra ++ rb, some x, hout'.more (by simp), hi54, fun y hy => ?_, ?_, hrs⟩, ?_⟩
      · rcases List.mem_append.1 hy with hy | hy
        · exact (hvo47 y hy).step keep73
        · rw [List.mem_singleton] at hy
          subst hy
          exact hnew.step keep73
      · have := hp2.1 hp
        rw [List.map_append] at this ⊢
        exact this
      · have := hi54.left
        rw [List.length_append] at this
        simp only
        omega
    · have hi40 := hi.call B.below
      refine ⟨⟨hA.sub (by simp), out, ra ++ rb, some x, hout.call B.below, hi40, fun y hy => (hvo y hy).call B.below, hp2.2 hp, hrs⟩, ?_⟩
      have := hi40.left
      rw [List.length_append] at this
      simp only
      omega
end Go.Vc.J

/- Tables of tasks: All, Of, On, Sum; the same without a table; the reference's rows. -/
set_option maxRecDepth 20000
set_option maxHeartbeats 1000000
namespace Go.Vc.J
open Go Go.Vc Go.Vc.V Go.RowKit Go.Proofs Vct

variable {w W W' W2 : World} {M N : Nat → Prop} {gs ds : List Nat} {g r : Nat} {cap : Int} {m : List (KyT × TR)}

/-! ### All, Of, On -/
theorem c85 (x : TR) (W : World) : Ret Try.prog 85 #[trV x] W (.bool true) := by
  intro R h
  refine f85_calls _ _ _ _ _ _ W R ?_
  unfold f85_vc
  exact fun n1 hn1 w2 hb2 _ => h _ hb2
theorem c86 {b : Nat} {f : Int} (hb : W.heap[b]? = some (.cells #[.int .i64 f] 2 (0, 0))) (x : TR) : Ret Try.prog 86 #[trV x, .pointer (some ⟨b, 0, none⟩)] W (.bool (decide (x.1.1 = f))) := by
  intro R h
  refine f86_calls _ _ _ _ _ _ _ W R ?_
  unfold f86_vc
  refine fun n1 hn1 => ⟨_, rd_f0 (r := []) hb (by kernel_rfl) nod, fun w3 hb3 _ => ?_⟩
  have := h _ hb3
  rwa [show decide (x.1.1 = f) = (x.1.1 == f) from by rw [Bool.eq_iff_iff]; simp] at this
theorem c87 {b : Nat} {f : Int} (hb : W.heap[b]? = some (.cells #[.int .i64 f] 2 (0, 0))) (x : TR) : Ret Try.prog 87 #[trV x, .pointer (some ⟨b, 0, none⟩)] W (.bool (decide (x.1.2.2.1 = f))) := by
  intro R h
  refine f87_calls _ _ _ _ _ _ _ W R ?_
  unfold f87_vc
  refine fun n1 hn1 => ⟨_, rd_f0 (r := []) hb (by kernel_rfl) nod, fun w3 hb3 _ => ?_⟩
  have := h _ hb3
  rwa [show decide (x.1.2.2.1 = f) = (x.1.2.2.1 == f) from by rw [Bool.eq_iff_iff]; simp] at this
theorem thoseQ.base {W0 : World} {p : TkT → Bool} {v : Value} (h : thoseQ W m p v W') (hs : W0.heap.size ≤ W.heap.size) : thoseQ W0 m p v W' := by
  obtain ⟨l, a, c, e, ho, hvo, hp, hw⟩ := h
  refine ⟨l, a, c, e, ho.base (fun k hk => .inl ?_) (fun _ h => by cases h), fun x hx => ?_, hp, hw⟩
  · have := ho.mine k hk
    simp at this
    omega
  · obtain ⟨h1, b, cur, h2, h3, h4⟩ := hvo x hx
    exact ⟨h1, b, cur, h2, h3, Nat.le_trans hs h4⟩
def pAll : TkT → Bool := fun _ => true
def pOf (f : Int) : TkT → Bool := fun t => decide (t.1 = f)
def pOn (f : Int) : TkT → Bool := fun t => decide (t.2.2.1 = f)
theorem c31 (h : TbS W g r cap m) (hl : m.length ≤ 1000) : RetQ Try.prog 31 #[ptr g] W (thoseQ W m pAll) := by
  intro R hR
  refine f31_calls _ W R ?_
  unfold f31_vc
  refine at_callq (At.refl W) (c84 (p := pAll) h hl fun W' _ x => RetI.of (by kernel_rfl) (c85 x W')) fun v w2 hA _ hb hq => ?_
  obtain ⟨l, a, c, e, rest⟩ := hq
  exact ⟨_, _, _, by rw [e], hR _ _ hA.below ⟨l, a, c, rfl, rest⟩⟩
theorem c33 (f : Int) (h : TbS W g r cap m) (hl : m.length ≤ 1000) : RetQ Try.prog 33 #[ptr g, .int .i64 f] W (thoseQ W m (pOf f)) := by
  intro R hR
  refine f33_calls _ f W R ?_
  unfold f33_vc
  refine opw_boxS (At.refl W) fun b w2 hb0 hA _ hb2 hblk => ⟨_, rfl, ?_⟩
  refine at_callq hA (c84 (p := pOf f) (h.call hb2) hl fun W' hb x => RetI.of (by kernel_rfl) (c86 (by rw [hb.block (Array.getElem?_eq_some_iff.1 hblk).1, hblk]; rfl) x)) fun v w5 hA _ hb hq => ?_
  obtain ⟨l, a, c, e, rest⟩ := hq.base hb2.size
  exact ⟨_, _, _, by rw [e], hR _ _ hA.below ⟨l, a, c, rfl, rest⟩⟩
theorem c35 (f : Int) (h : TbS W g r cap m) (hl : m.length ≤ 1000) : RetQ Try.prog 35 #[ptr g, .int .i64 f] W (thoseQ W m (pOn f)) := by
  intro R hR
  refine f35_calls _ f W R ?_
  unfold f35_vc
  refine opw_boxS (At.refl W) fun b w2 hb0 hA _ hb2 hblk => ⟨_, rfl, ?_⟩
  refine at_callq hA (c84 (p := pOn f) (h.call hb2) hl fun W' hb x => RetI.of (by kernel_rfl) (c87 (by rw [hb.block (Array.getElem?_eq_some_iff.1 hblk).1, hblk]; rfl) x)) fun v w5 hA _ hb hq => ?_
  obtain ⟨l, a, c, e, rest⟩ := hq.base hb2.size
  exact ⟨_, _, _, by rw [e], hR _ _ hA.below ⟨l, a, c, rfl, rest⟩⟩

/-! ### Without a table -/
theorem c84n {t : Option Addr} {fv : Value} (h : NoT W t) : Ret Try.prog 84 #[.pointer t, fv] W (.slice none 0 0) := by
  intro R hR
  refine f84_calls _ fv W R ?_
  unfold f84_vc
  refine at_callb (At.refl W) (c81n h) fun w2 hA _ hb2 => ⟨_, rfl, brB (fun e => by cases e) (fun _ => ?_)⟩
  exact at_sortT (l := []) hA OwnL.nil (by decide) fun l' w' hA _ _ _ _ _ => ⟨rfl, leaf hR hA rfl⟩
theorem c33n {t : Option Addr} (f : Int) (h : NoT W t) : Ret Try.prog 33 #[.pointer t, .int .i64 f] W (.slice none 0 0) := by
  intro R hR
  refine f33_calls _ f W R ?_
  unfold f33_vc
  refine opw_boxS (At.refl W) fun b w2 hb0 hA _ hb2 hblk => ⟨_, rfl, ?_⟩
  exact at_callb hA (c84n (h.call hb2)) fun w5 hA _ _ => ⟨_, _, _, rfl, leaf hR hA rfl⟩
theorem c26n {t : Option Addr} (frame id : Int) (h : NoT W t) : Ret Try.prog 26 #[.pointer t, .int .i64 frame, .int .i64 id] W (.tuple #[zT, .bool false]) := by
  intro R hR
  refine f26_calls _ frame id W R ?_
  unfold f26_vc
  intro n1 hn1 w2 hb2 hu2
  have hA : At W [n1] w2 := ⟨((At.refl W).call hb2).chg, hu2⟩
  refine at_callb hA (c24n frame id (h.call hb2)) fun w4 hA hk hb4 => ⟨_, _, _, _, _, _, _, rfl, hk, ?_⟩
  have hsz := hA.size
  exact fun n12 hn12 => brB (fun e => by cases e) (fun _ w19 hev hu => leaf hR (hA.evo (by intro d hd; simp at hd; omega) hev hu) rfl)
theorem c30n {t : Option Addr} (x : TR) (h : NoT W t) : Ret Try.prog 30 #[.pointer t, trV x] W (.int .i64 40) := by
  intro R hR
  refine f30_calls _ _ _ _ _ _ _ W R ?_
  unfold f30_vc
  intro n1 hn1 w2 hb2 hu2
  have hA : At W [n1] w2 := ⟨((At.refl W).call hb2).chg, hu2⟩
  refine at_callb hA (c24n _ _ (h.call hb2)) fun w4 hA hk hb4 => ⟨_, _, _, _, _, _, _, rfl, hk, ?_⟩
  intro n12 hn12 w13 hev hu
  have hsz := hA.size
  have hA := hA.evo (by intro d hd; simp at hd; omega) hev hu
  exact at_callb hA (c81n (h.call hA.below)) fun w15 hA hk hb => ⟨_, rfl, hk, brNB (fun _ => leaf hR hA rfl) (fun e => by cases e)⟩

/-! ### Sums -/
abbrev Ar4 := Int × Int × Int × Int
abbrev a4V (x : Ar4) : Value := .agg #[.int .i64 x.1, .int .i64 x.2.1, .int .i64 x.2.2.1, .int .i64 x.2.2.2]
def ofA (l : List PartT) : Ar4 := if vecB l = true then (sumK 0 l, sumK 1 l, sumK 2 l, sumK 3 l) else (0, 0, 0, 0)
theorem ofV_eq (l : List PartT) : ofV l = a4V (ofA l) := by
  unfold ofV ofA
  split <;> rfl
def addC (x y : Ar4) : Prop := sumR x.1 x.2.1 x.2.2.1 x.2.2.2 ∧ sumR y.1 y.2.1 y.2.2.1 y.2.2.2 ∧ sumR (x.1 + y.1) (x.2.1 + y.2.1) (x.2.2.1 + y.2.2.1) (x.2.2.2 + y.2.2.2)
instance (x y : Ar4) : Decidable (addC x y) := by unfold addC; infer_instance
def addA (x y : Ar4) : Ar4 := (x.1 + y.1, x.2.1 + y.2.1, x.2.2.1 + y.2.2.1, x.2.2.2 + y.2.2.2)
abbrev zA : Ar4 := (0, 0, 0, 0)
def sumF : Ar4 → List (List PartT) → Ar4
  | acc, [] => acc
  | acc, v :: r => if addC acc (ofA v) then sumF (addA acc (ofA v)) r else zA
theorem c49ok {x y : Ar4} (h : addC x y) (W : World) : Ret Try.prog 49 #[a4V x, a4V y] W (.tuple #[a4V (addA x y), .bool true]) := by
  have := c49 x.1 x.2.1 x.2.2.1 x.2.2.2 y.1 y.2.1 y.2.2.1 y.2.2.2 W
  rwa [show sumA x.1 x.2.1 x.2.2.1 x.2.2.2 y.1 y.2.1 y.2.2.1 y.2.2.2 = _ from if_pos h] at this
theorem c49no {x y : Ar4} (h : ¬ addC x y) (W : World) : Ret Try.prog 49 #[a4V x, a4V y] W (.tuple #[a4V zA, .bool false]) := by
  have := c49 x.1 x.2.1 x.2.2.1 x.2.2.2 y.1 y.2.1 y.2.2.1 y.2.2.2 W
  rwa [show sumA x.1 x.2.1 x.2.2.1 x.2.2.2 y.1 y.2.1 y.2.2.1 y.2.2.2 = _ from if_neg h] at this
theorem c88ok {x y : Ar4} (h : addC x y) (W : World) : Ret Try.prog 88 #[a4V x, a4V y] W (.tuple #[a4V (addA x y), .bool true]) := by
  have := c88 x.1 x.2.1 x.2.2.1 x.2.2.2 y.1 y.2.1 y.2.2.1 y.2.2.2 W
  rwa [show sumA x.1 x.2.1 x.2.2.1 x.2.2.2 y.1 y.2.1 y.2.2.1 y.2.2.2 = _ from if_pos h] at this
theorem c88no {x y : Ar4} (h : ¬ addC x y) (W : World) : Ret Try.prog 88 #[a4V x, a4V y] W (.tuple #[a4V zA, .bool false]) := by
  have := c88 x.1 x.2.1 x.2.2.1 x.2.2.2 y.1 y.2.1 y.2.2.1 y.2.2.2 W
  rwa [show sumA x.1 x.2.1 x.2.2.1 x.2.2.2 y.1 y.2.1 y.2.2.1 y.2.2.2 = _ from if_neg h] at this
theorem c50' {l : List PartT} {a : Option Addr} {n c : Nat} (W : World) (hs : SlE W 3 partE l a n c) : Ret Try.prog 50 #[.slice a n c] W (a4V (ofA l)) := by
  have := c50 W hs
  rwa [ofV_eq] at this
theorem c89' {l : List PartT} {a : Option Addr} {n c : Nat} (W : World) (hs : SlE W 3 partE l a n c) : Ret Try.prog 89 #[.slice a n c] W (a4V (ofA l)) := by
  have := c89 W hs
  rwa [ofV_eq] at this
theorem sle_chg {α : Type} {n : Nat} {f : α → List Value} {l : List α} {a : Option Addr} {len c : Nat} (h : SlE W n f l a len c) (hc : Chg N W W') (hd : ∀ b, a = some b → ¬ N b.block) : SlE W' n f l a len c := by
  obtain ⟨h1, h2, h3, h4, h6⟩ := h
  refine ⟨h1, h2, h3, h4, fun i x hx => ?_⟩
  obtain ⟨ad, cs, ha, hl, hcs, hr⟩ := h6 i x hx
  refine ⟨ad, cs, ha, hl, fun j v hv => ?_, hr⟩
  have hlt := World.block_lt_of_cell? W _ (hcs j v hv)
  rw [World.cell?_of_block (w := W) (w' := W') (hc.block _ hlt (by rw [add_block, add_block]; exact hd ad ha))]
  exact hcs j v hv
/-- What Sum tells. -/
def sumQ (m : List (KyT × TR)) (f : Int) (v : Value) : Prop := ∃ D : List TkT, D.Perm ((m.map (·.2.1)).filter (pOf f)) ∧ (D.Pairwise fun x y => ¬ lexT y x) ∧ v = a4V (sumF zA (D.map (·.2.2.2)))
theorem pairwise_map' {α β : Type} {f : α → β} {R : β → β → Prop} {l : List α} (h : l.Pairwise fun x y => R (f x) (f y)) : (l.map f).Pairwise R := List.pairwise_map.2 h
theorem c36 (f : Int) (h : TbS W g r cap m) (hl : m.length ≤ 1000) : RetQ Try.prog 36 #[ptr g, .int .i64 f] W fun v _ => sumQ m f v := by
  intro R hR
  refine f36_calls _ f W R ?_
  unfold f36_vc
  intro n1 hn1 n2 hn2 w3 hb3 hu3
  have hA : At W [n1, n2] w3 := ⟨((At.refl W).call hb3).chg, hu3⟩
  have hu1 : n1 < w3.heap.size := hu3 n1 (by simp)
  have hu2 : n2 < w3.heap.size := hu3 n2 (by simp)
  refine at_callq hA (c33 f (h.call hb3) hl) fun v w5 hA hk hb5 hq => ?_
  obtain ⟨l, a, c, e, ho, hvo, hp, hpw⟩ := hq
  subst e
  have hsl := ho.sl fun _ _ => rfl
  have hll : l.length ≤ 1000 := by
    have h1 := hp.length_eq
    rw [List.length_map] at h1
    have h2 := List.length_filter_le (pOf f) (m.map (·.2.1))
    rw [List.length_map] at h2
    omega
  have hab : ∀ b, a = some b → b.block ≠ n1 ∧ b.block ≠ n2 := fun b hb => by
    subst hb
    by_cases h0 : 0 < l.length
    · obtain ⟨g', cur, e, _⟩ := ho.ptr h0
      cases e
      have := ho.mine g' rfl
      simp only [or_false] at this
      exact ⟨by simp only; omega, by simp only; omega⟩
    · rcases ho.row0.2 with ⟨hv, _⟩ | ⟨g', cap', cur, hv, _, hgg, _⟩
      · cases hv
      · cases hv
        have := ho.mine g' rfl
        simp only [or_false] at this
        exact ⟨by simp only; omega, by simp only; omega⟩
  have hW5 := hA.size
  have out : ∀ {gs w'} {acc : Ar4}, At W gs w' → sumF zA (l.map (·.1.2.2.2)) = acc → R (.returned (a4V acc)) w' := fun hA he => hR _ _ hA.below ⟨l.map (·.1), hp, pairwise_map' hpw, by rw [List.map_map, ← he]; rfl⟩
  refine ⟨_, _, _, rfl, hk, fun v W' => At W [n1, n2] W' ∧ Chg (fun b => b = n1 ∨ b = n2) w5 W' ∧ ∃ i : Nat, v.1 = i ∧ i ≤ l.length ∧ sumF (v.2.2.2.2.2.1, v.2.2.2.2.2.2.1, v.2.2.2.2.2.2.2.1, v.2.2.2.2.2.2.2.2.1) ((l.drop i).map (·.1.2.2.2)) = sumF zA (l.map (·.1.2.2.2)), fun v _ => ((l.length : Int) - v.1).toNat, ⟨hA, Chg.refl _ _, 0, rfl, Nat.zero_le _, rfl⟩, ?_⟩
  rintro x11 x12 x13 x14 x15 x16 x17 x18 x19 w20 ⟨hA, hch, i, hi, hil, hsum⟩
  simp only at hi hsum
  subst hi
  have hsz := hA.size
  refine brD (fun hlt => ?_) (fun hge w74 hev hu => ?_)
  · obtain ⟨x, hx⟩ : ∃ x, l[i]? = some x := ⟨_, List.getElem?_eq_getElem (by omega)⟩
    have hsl20 := sle_chg hsl hch fun b hb hh => hh.elim (hab b hb).1 (hab b hb).2
    obtain ⟨ad, g1, el, _⟩ := elt_at (P := Try.prog) (k := .i64) (t := 44) hsl20 hx (e := 48) (by kernel_rfl) (by kernel_rfl)
    have hvx : VecR w20 x := by
      obtain ⟨hv, b, cur, e, _, hb⟩ := hvo x (List.mem_of_getElem? hx)
      refine sle_chg hv hch fun b' hb' hh => ?_
      rw [e] at hb'
      cases hb'
      simp only at hh
      omega
    refine ⟨ad, g1, _, _, _, _, _, _, el.agg 4 (by kernel_rfl) (by kernel_rfl) (by simp) (by simp), ?_⟩
    have hdr : l.drop i = x :: l.drop (i + 1) := by
      rw [List.drop_eq_getElem_cons (by omega)]
      congr 1
      have := List.getElem?_eq_getElem (l := l) (i := i) (by omega)
      rw [hx] at this
      exact (Option.some.inj this).symm
    rw [hdr, List.map_cons, sumF] at hsum
    have good : ∀ {nx : Nat} {w1 w2 : World} {gs gs' : List Nat}, addC (x16, x17, x18, x19) (ofA x.1.2.2.2) → w20.heap.size ≤ nx → At W gs w1 → Bel w20 w1 → Evo [n2, nx] w1 w2 → Under gs' w2 → [n1, n2].all (gs'.contains ·) = true →
        (At W [n1, n2] w2 ∧ Chg (fun b => b = n1 ∨ b = n2) w5 w2 ∧ ∃ j : Nat, IntKind.i64.wrap ((i : Int) + 1) = j ∧ j ≤ l.length ∧ sumF (addA (x16, x17, x18, x19) (ofA x.1.2.2.2)) ((l.drop j).map (·.1.2.2.2)) = sumF zA (l.map (·.1.2.2.2))) ∧ ((l.length : Int) - IntKind.i64.wrap ((i : Int) + 1)).toNat < ((l.length : Int) - (i : Int)).toNat := by
      intro nx w1 w2 gs gs' hc hnx hA hb hev hu hin
      rw [if_pos hc] at hsum
      have hA2 : At W gs' w2 := hA.evo (by intro d hd; simp at hd; omega) hev hu
      rw [wrap_i64 (by omega) (by omega)]
      have e1 : (i : Int) + 1 = ((i + 1 : Nat) : Int) := rfl
      refine ⟨⟨hA2.sub fun g hg => ?_, ?_, i + 1, e1, by omega, hsum⟩, by omega⟩
      · have := List.all_eq_true.1 hin g hg
        simpa using this
      · have h5 := hch.size
        have c1 := hch.trans (Chg.of_below (N := noB) hb) fun _ _ e => e.elim
        exact c1.trans (Chg.of_evo hev) fun b hb5 hm => by
          simp at hm
          rcases hm with rfl | rfl
          · exact .inr rfl
          · omega
    have no : ∀ {nx : Nat} {w1 w2 : World} {gs gs' : List Nat}, ¬ addC (x16, x17, x18, x19) (ofA x.1.2.2.2) → w20.heap.size ≤ nx → At W gs w1 → Evo [n1, nx] w1 w2 → Under gs' w2 → R (.returned (a4V zA)) w2 := by
      intro nx w1 w2 gs gs' hc hnx hA hev hu
      rw [if_neg hc] at hsum
      exact out (hA.evo (by intro d hd; simp at hd; omega) hev hu) hsum.symm
    intro n28 hn28
    have start : ∀ {gs' w29}, Evo [n28] w20 w29 → Under gs' w29 → At W gs' w29 ∧ Bel w20 w29 := fun hev hu => by
      have hb := hev.bel (by simpa using hn28)
      exact ⟨⟨(hA.call hb).chg, hu⟩, hb⟩
    by_cases hc : addC (x16, x17, x18, x19) (ofA x.1.2.2.2)
    · refine ⟨fun w29 hev hu => ?_, fun n57 hn57 w58 hev hu => ?_⟩
      · obtain ⟨hA, hb29⟩ := start hev hu
        refine at_callb hA (c50' w29 (hvx.keep (KeepC.of_bel hb29))) fun w31 hA hk hb31 => ⟨_, _, _, _, rfl, hk, ?_, ?_⟩
        · refine at_callb hA (c49ok hc w31) fun w37 hA hk hb37 => ⟨_, _, _, _, _, rfl, hk, fun n43 hn43 => brNB (fun e => by cases e) (fun _ w45 hev hu => ?_)⟩
          have := hb29.size; have := hb31.size; have := hb37.size
          exact good hc (by omega) hA ((hb29.trans hb31).trans hb37) hev hu (by simp)
        · intro n46 hn46 w47 hb47 hu
          have hA : At W [n1, n2, n28, n46] w47 := ⟨(hA.call hb47).chg, hu⟩
          refine at_callb hA (c49ok hc w47) fun w49 hA hk hb49 => ⟨_, _, _, _, _, rfl, hk, brNB (fun e => by cases e) (fun _ w56 hev hu => ?_)⟩
          have := hb29.size; have := hb31.size
          exact good hc (by omega) hA (((hb29.trans hb31).trans hb47).trans hb49) hev hu (by simp)
      · obtain ⟨hA, hb58⟩ := start hev hu
        refine at_callb hA (c50' w58 (hvx.keep (KeepC.of_bel hb58))) fun w60 hA hk hb60 => ⟨_, _, _, _, rfl, hk, ?_⟩
        refine at_callb hA (c49ok hc w60) fun w66 hA hk hb66 => ⟨_, _, _, _, _, rfl, hk, brNB (fun e => by cases e) (fun _ w73 hev hu => ?_)⟩
        exact good hc hn57 hA ((hb58.trans hb60).trans hb66) hev hu (by simp)
    · refine ⟨fun w29 hev hu => ?_, fun n57 hn57 w58 hev hu => ?_⟩
      · obtain ⟨hA, hb29⟩ := start hev hu
        refine at_callb hA (c50' w29 (hvx.keep (KeepC.of_bel hb29))) fun w31 hA hk hb31 => ⟨_, _, _, _, rfl, hk, ?_, ?_⟩
        · refine at_callb hA (c49no hc w31) fun w37 hA hk hb37 => ⟨_, _, _, _, _, rfl, hk, fun n43 hn43 => brNB (fun _ w45 hev hu => ?_) (fun e => by cases e)⟩
          have := hb29.size; have := hb31.size; have := hb37.size
          exact no hc (by omega) hA hev hu
        · intro n46 hn46 w47 hb47 hu
          have hA : At W [n1, n2, n28, n46] w47 := ⟨(hA.call hb47).chg, hu⟩
          refine at_callb hA (c49no hc w47) fun w49 hA hk hb49 => ⟨_, _, _, _, _, rfl, hk, brNB (fun _ w56 hev hu => ?_) (fun e => by cases e)⟩
          have := hb29.size; have := hb31.size
          exact no hc (by omega) hA hev hu
      · obtain ⟨hA, hb58⟩ := start hev hu
        refine at_callb hA (c50' w58 (hvx.keep (KeepC.of_bel hb58))) fun w60 hA hk hb60 => ⟨_, _, _, _, rfl, hk, ?_⟩
        refine at_callb hA (c49no hc w60) fun w66 hA hk hb66 => ⟨_, _, _, _, _, rfl, hk, brNB (fun _ w73 hev hu => ?_) (fun e => by cases e)⟩
        exact no hc hn57 hA hev hu
  · rw [show i = l.length by omega, List.drop_length, List.map_nil, sumF] at hsum
    exact out (hA.evo (by intro d hd; simp at hd; omega) hev hu) hsum.symm
theorem c36n {t : Option Addr} (f : Int) (h : NoT W t) : Ret Try.prog 36 #[.pointer t, .int .i64 f] W (a4V zA) := by
  intro R hR
  refine f36_calls _ f W R ?_
  unfold f36_vc
  intro n1 hn1 n2 hn2 w3 hb3 hu3
  have hA : At W [n1, n2] w3 := ⟨((At.refl W).call hb3).chg, hu3⟩
  refine at_callb hA (c33n f (h.call hb3)) fun w5 hA hk hb5 => ⟨_, _, _, rfl, hk, ?_⟩
  refine ⟨fun v W' => At W [n1, n2] W' ∧ v = (0, 0, 0, 0, 0, 0, 0, 0, 0, ()), fun _ _ => 0, ⟨hA, rfl⟩, ?_⟩
  rintro x11 x12 x13 x14 x15 x16 x17 x18 x19 w20 ⟨hA, hv⟩
  have hv1 := congrArg (·.1) hv
  have hv2 := congrArg (·.2.2.2.2.2) hv
  simp only at hv1 hv2
  cases hv2
  subst hv1
  exact brD (fun hlt => absurd hlt (by decide)) (fun _ w74 hev hu => leaf hR (hA.evo (by intro d hd; simp at hd; omega) hev hu) rfl)
end Go.Vc.J

/- The reference's tables of tasks, told as rows. -/
set_option maxRecDepth 20000
set_option maxHeartbeats 1000000
namespace Go.Vc.J
open Go Go.Vc Go.Vc.V Go.RowKit Go.Proofs Vct

variable {w W W' W2 : World} {M N : Nat → Prop} {gs ds : List Nat}

instance : DecidableEq TkT := @instDecidableEqProd Int (Int × Int × List PartT) inferInstance (@instDecidableEqProd Int (Int × List PartT) inferInstance (@instDecidableEqProd Int (List PartT) inferInstance inferInstance))
/-- A row of tasks. -/
structure MR (W : World) (L : List TR) (a : Option Addr) (n c : Nat) : Prop where
  sl : SlE W 4 trE L a n c
  vs : ∀ x ∈ L, VecR W x
theorem MR.keep {L : List TR} {a : Option Addr} {n c : Nat} (h : MR W L a n c) (hk : KeepC W W') : MR W' L a n c := ⟨sle_keepC h.sl hk, fun x hx => (h.vs x hx).keep hk⟩
theorem MR.call {L : List TR} {a : Option Addr} {n c : Nat} (h : MR W L a n c) (hb : Bel W W') : MR W' L a n c := h.keep (KeepC.of_bel hb)
def ixP {α : Type} (p : α → Bool) : List α → Nat → Int
  | [], _ => -1
  | x :: r, i => if p x = true then i else ixP p r (i + 1)
theorem ixP_step {α : Type} {p : α → Bool} {l : List α} {i : Nat} {x : α} (hx : l[i]? = some x) : ixP p (l.drop i) i = if p x = true then (i : Int) else ixP p (l.drop (i + 1)) (i + 1) := by
  rw [drop_cons hx, ixP]
def isK (f i : Int) (x : TR) : Bool := decide (x.1.1 = f ∧ x.1.2.1 = i)
abbrev mV (cap : Int) (a : Option Addr) (n c : Nat) : Value := .agg #[.int .i64 cap, .slice a n c]
theorem c23 {L : List TR} {a : Option Addr} {n c : Nat} (cap f i : Int) (W : World) (h : SlE W 4 trE L a n c) : Ret Try.prog 23 #[mV cap a n c, .int .i64 f, .int .i64 i] W (.int .i64 (ixP (isK f i) L 0)) := by
  intro R hR
  refine f23_calls cap a n c f i W R ?_
  unfold f23_vc
  have hn := h.len_le
  intro n1 hn1
  refine ⟨fun v W' => At W [n1] W' ∧ ∃ k : Nat, v.1 = k ∧ k ≤ L.length ∧ ixP (isK f i) (L.drop k) k = ixP (isK f i) L 0, fun v _ => (n - v.1).toNat, ⟨fun w4 hb4 hu => ⟨⟨((At.refl W).call hb4).chg, hu⟩, 0, rfl, Nat.zero_le _, rfl⟩, ?_⟩⟩
  rintro x5 w6 ⟨hA, k, hk, hkl, hx⟩
  simp only at hk
  subst hk
  refine brD (fun hlt => ?_) (fun hge => leaf hR hA ?_)
  · obtain ⟨x, hxk⟩ : ∃ x, L[k]? = some x := ⟨_, List.getElem?_eq_getElem (by omega)⟩
    obtain ⟨ad, g1, el, _⟩ := elt_at (P := Try.prog) (k := .i64) (t := 44) (h.call hA.below) hxk (e := 48) (by kernel_rfl) (by kernel_rfl)
    rw [ixP_step hxk] at hx
    have next : isK f i x = false → (At W [n1] w6 ∧ ∃ j : Nat, ((k + 1 : Nat) : Int) = j ∧ j ≤ L.length ∧ ixP (isK f i) (L.drop j) j = ixP (isK f i) L 0) ∧ ((n : Int) - ((k + 1 : Nat) : Int)).toNat < ((n : Int) - (k : Int)).toNat := fun hno => by
      rw [if_neg (by rw [hno]; decide)] at hx
      exact ⟨⟨hA, k + 1, rfl, by omega, hx⟩, by omega⟩
    rw [succ_i k (by omega)]
    refine ⟨ad, g1, _, el.one (by kernel_rfl) (by simp), brE (fun e1 => ⟨ad, g1, _, (el.sub (o := 1) (by decide)).one (by kernel_rfl) (by simp), brE (fun e2 => leaf hR hA ?_) (fun e2 => next (decide_eq_false fun hh => e2 hh.2))⟩) (fun e1 => next (decide_eq_false fun hh => e1 hh.1))⟩
    rw [if_pos (show isK f i x = true from decide_eq_true ⟨e1, e2⟩)] at hx
    rw [← hx]
  · rw [show k = L.length by omega, List.drop_length, ixP] at hx
    rw [← hx]
theorem c25 {L1 L2 : List TR} {a a2 : Option Addr} {n c n2 c2 : Nat} (W : World) (h1 : MR W L1 a n c) (h2 : MR W L2 a2 n2 c2) : Ret Try.prog 25 #[.slice a n c, .slice a2 n2 c2] W (.bool (decide (L1.map (·.1) = L2.map (·.1)))) := by
  intro R h
  refine f25_calls a n c a2 n2 c2 W R ?_
  unfold f25_vc
  have hn := h1.sl.len_le
  have e1 := h1.sl.1
  have e2 := h2.sl.1
  refine brN (fun hne => leaf h (At.refl W) ?_) (fun heq => ?_)
  · rw [decide_eq_false fun e => hne (by have := congrArg List.length e; simp only [List.length_map] at this; rw [e1, e2, this])]
  · have hll : L1.length = L2.length := by omega
    refine ⟨fun s W' => At W [] W' ∧ ∃ i : Nat, s.1 = i ∧ i ≤ L1.length ∧ (L1.take i).map (·.1) = (L2.take i).map (·.1), fun s _ => (n - s.1).toNat, ⟨At.refl W, 0, rfl, Nat.zero_le _, rfl⟩, ?_⟩
    rintro x3 w4 ⟨hA, i, hi, hil, ht⟩
    simp only at hi
    subst hi
    refine brD (fun hlt => ?_) (fun hge => leaf h hA ?_)
    · obtain ⟨x, hx⟩ : ∃ x, L1[i]? = some x := ⟨_, List.getElem?_eq_getElem (by omega)⟩
      obtain ⟨y, hy⟩ : ∃ x, L2[i]? = some x := ⟨_, List.getElem?_eq_getElem (by omega)⟩
      obtain ⟨ad, g1, el, _⟩ := elt_at (P := Try.prog) (k := .i64) (t := 44) (h1.sl.call hA.below) hx (e := 48) (by kernel_rfl) (by kernel_rfl)
      obtain ⟨ad2, g2, el2, _⟩ := elt_at (P := Try.prog) (k := .i64) (t := 44) (h2.sl.call hA.below) hy (e := 48) (by kernel_rfl) (by kernel_rfl)
      have bad : ∀ {gs w'}, x.1 ≠ y.1 → At W gs w' → R (.returned (.bool false)) w' := fun hne hA => by
        rw [decide_eq_false fun e => hne (by
          have := congrArg (·[i]?) e
          simp only [List.getElem?_map, hx, hy, Option.map_some, Option.some.injEq] at this
          exact this)] at h
        exact leaf h hA rfl
      have r1 : ∀ {W'}, Bel w4 W' → Elt W' ad (trE x) := fun hb => el.below hb
      have r2 : ∀ {W'}, Bel w4 W' → Elt W' ad2 (trE y) := fun hb => el2.below hb
      have b0 := Bel.refl w4
      refine ⟨ad, g1, _, (el.sub (o := 1) (by decide)).one (by kernel_rfl) (by simp), ad2, g2, _, (el2.sub (o := 1) (by decide)).one (by kernel_rfl) (by simp), brN (fun hne w9 hb9 => bad (fun e => hne (by rw [e])) (hA.call hb9)) (fun q1 => ?_)⟩
      refine ⟨ad, g1, _, el.one (by kernel_rfl) (by simp), ad2, g2, _, el2.one (by kernel_rfl) (by simp), brN (fun hne w9 hb9 => bad (fun e => hne (by rw [e])) (hA.call hb9)) (fun q2 => ?_)⟩
      refine ⟨ad, g1, _, (el.sub (o := 2) (by decide)).one (by kernel_rfl) (by simp), ad2, g2, _, (el2.sub (o := 2) (by decide)).one (by kernel_rfl) (by simp), brN (fun hne w9 hb9 => bad (fun e => hne (by rw [e])) (hA.call hb9)) (fun q3 => ?_)⟩
      refine ⟨ad, g1, _, _, _, (el.sub (o := 3) (by decide)).one (by kernel_rfl) (by simp), ad2, g2, _, _, _, (el2.sub (o := 3) (by decide)).one (by kernel_rfl) (by simp), fun w28 hb28 => ?_⟩
      have hA := hA.call hb28
      refine at_callb hA (c82 w28 ((h1.vs x (List.mem_of_getElem? hx)).keep (KeepC.of_bel hA.below)) ((h2.vs y (List.mem_of_getElem? hy)).keep (KeepC.of_bel hA.below))) fun w30 hA hk hb30 => ⟨_, rfl, ?_⟩
      have hbb := hb28.trans hb30
      refine ⟨((r2 hbb).sub (o := 2) (by decide)).one (by kernel_rfl) (by simp), ((r1 hbb).sub (o := 2) (by decide)).one (by kernel_rfl) (by simp), (r2 hbb).one (by kernel_rfl) (by simp), (r1 hbb).one (by kernel_rfl) (by simp), ((r2 hbb).sub (o := 1) (by decide)).one (by kernel_rfl) (by simp), ((r1 hbb).sub (o := 1) (by decide)).one (by kernel_rfl) (by simp), brNB (fun hno => bad (fun e => of_decide_eq_false hno (by rw [e])) hA) (fun hyes => ?_)⟩
      rw [succ_i i (by omega)]
      refine ⟨⟨hA, i + 1, rfl, by omega, ?_⟩, by simp only; omega⟩
      have hv := of_decide_eq_true hyes
      have hxy : x.1 = y.1 := by
        obtain ⟨⟨x1, x2, x3, x4⟩, xs⟩ := x
        obtain ⟨⟨y1, y2, y3, y4⟩, ys⟩ := y
        simp only at q1 q2 q3 hv
        subst q1 q2 q3 hv
        rfl
      rw [List.take_add_one, List.take_add_one, hx, hy, List.map_append, List.map_append, ht]
      simp [hxy]
    · rw [show i = L1.length by omega, List.take_length, hll, List.take_length] at ht
      rw [decide_eq_true ht]
theorem c27 (x : TR) (ok : Bool) (W : World) : RetL Try.prog 27 #[trV x, .bool ok] W 48 4 trE (if ok = true then [x] else []) := by
  intro R h
  refine f27_calls _ _ _ _ _ _ ok W R ?_
  unfold f27_vc
  intro n1 hn1
  cases ok with
  | false => exact brNB (fun _ w2 hb2 hu2 => leafl h (gs := []) ((At.refl W).call hb2) OwnL.nil rfl) (fun e => by cases e)
  | true =>
    refine brNB (fun e => by cases e) (fun _ w3 hb3 hu3 => ?_)
    have hA : At W [n1] w3 := ⟨((At.refl W).call hb3).chg, hu3⟩
    exact opw_litL (e' := 48) (f := trE) (size := 4) (l := [x]) hA rfl (fun _ _ => rfl) (by decide) (by kernel_rfl) fun g w5 _ hA hk _ ho => ⟨_, _, _, rfl, hk, leafl h hA ho rfl⟩
/-! ### Acts -/
abbrev actE (x : Bool × TR) : List Value := [.bool x.1, .int .i64 x.2.1.1, .int .i64 x.2.1.2.1, .int .i64 x.2.1.2.2.1, .slice x.2.2.1 x.2.2.2.1 x.2.2.2.2]
structure AR (W : World) (L : List (Bool × TR)) (a : Option Addr) (n c : Nat) : Prop where
  sl : SlE W 5 actE L a n c
  vs : ∀ x ∈ L, VecR W x.2
theorem AR.keep {L : List (Bool × TR)} {a : Option Addr} {n c : Nat} (h : AR W L a n c) (hk : KeepC W W') : AR W' L a n c := ⟨sle_keepC h.sl hk, fun x hx => (h.vs x hx).keep hk⟩
theorem c20 {L : List (Bool × TR)} {a : Option Addr} {n c : Nat} (W : World) (h : AR W L a n c) : RetQ Try.prog 20 #[.slice a n c] W fun v _ => ∃ b : Bool, v = .bool b ∧ (b = true → L.length ≤ 100) := by
  intro R hR
  refine f20_calls a n c W R ?_
  unfold f20_vc
  have hn := h.sl.len_le
  have hn0 := h.sl.1
  refine ⟨fun v W' => At W [] W' ∧ ∃ i : Nat, v.2.1 = i ∧ i ≤ L.length, fun v _ => (n - v.2.1).toNat, ⟨At.refl W, 0, rfl, Nat.zero_le _⟩, ?_⟩
  rintro x3 x4 w5 ⟨hA, i, hi, hil⟩
  simp only at hi
  subst hi
  refine brD (fun hlt => ?_) (fun hge => brD (fun hl => hR _ _ hA.below ⟨_, rfl, fun _ => by omega⟩) (fun _ => hR _ _ hA.below ⟨_, rfl, fun e => by cases e⟩))
  obtain ⟨x, hx⟩ : ∃ x, L[i]? = some x := ⟨_, List.getElem?_eq_getElem (by omega)⟩
  obtain ⟨ad, g1, el, _⟩ := elt_at (P := Try.prog) (k := .i64) (t := 39) (h.sl.call hA.below) hx (e := 50) (by kernel_rfl) (by kernel_rfl)
  rw [succ_i i (by omega)]
  refine ⟨ad, g1, _, _, _, ((el.sub (o := 1) (by decide)).sub (o := 3) (by decide)).one (by kernel_rfl) (by simp), ⟨hA, i + 1, rfl, by omega⟩, by simp only; omega⟩

/-! ### End, Of -/
theorem c28 {L : List TR} {a : Option Addr} {n c : Nat} (cap f i : Int) (W : World) (h : SlE W 4 trE L a n c) (hl : L.length ≤ 1000) : RetQ Try.prog 28 #[mV cap a n c, .int .i64 f, .int .i64 i] W fun v w' => ∃ a' c', v = mV cap a' (L.filter fun x => !isK f i x).length c' ∧ OwnL W [] w' 48 4 trE (.slice a' (L.filter fun x => !isK f i x).length c') (L.filter fun x => !isK f i x) := by
  intro R hR
  refine f28_calls cap a n c f i W R ?_
  unfold f28_vc
  have hn := h.len_le
  intro n1 hn1 n2 hn2 n3 hn3
  refine ⟨fun v W' => At W [n1, n2, n3] W' ∧ v.2.1 = cap ∧ ∃ k : Nat, v.1 = k ∧ k ≤ L.length ∧ OwnL W [n1, n2, n3] W' 48 4 trE (.slice v.2.2.1.1 v.2.2.1.2.1 v.2.2.1.2.2) ((L.take k).filter fun x => !isK f i x), fun v _ => ((n : Int) - v.1).toNat, fun w6 hev hu => ⟨(At.refl W).evo (by intro d hd; simp at hd; omega) hev hu, rfl, 0, rfl, Nat.zero_le _, OwnL.nil⟩, ?_⟩
  rintro x7 x8 a9 n10 n11 w12 ⟨hA, hcap, k, hk, hkl, ho⟩
  simp only at hcap hk ho
  subst hcap hk
  refine ⟨fun _ W' => W' = w12 ∧ k < L.length, ⟨brD (fun hlt => ⟨rfl, by omega⟩) (fun hge w14 hev hu => ?_), ?_⟩⟩
  · have hA2 := hA.evo (by intro d hd; simp at hd; omega) hev hu
    have ho2 := ho.evo (by intro d hd hd2; simp at hd hd2; omega) hev
    rw [show k = L.length by omega, List.take_length] at ho2
    have hlen := ho2.len
    subst hlen
    exact hR _ _ hA2.below ⟨_, _, rfl, ho2.more (by simp)⟩
  rintro w15 ⟨rfl, hlt⟩
  obtain ⟨x, hx⟩ : ∃ x, L[k]? = some x := ⟨_, List.getElem?_eq_getElem hlt⟩
  obtain ⟨ad, g1, el, _⟩ := elt_at (P := Try.prog) (k := .i64) (t := 44) (h.call hA.below) hx (e := 48) (by kernel_rfl) (by kernel_rfl)
  have htk : (L.take (k + 1)).filter (fun x => !isK f i x) = (L.take k).filter (fun x => !isK f i x) ++ (if isK f i x = true then [] else [x]) := by
    rw [List.take_add_one, hx, List.filter_append]
    congr 1
    by_cases hq : isK f i x = true
    · simp [hq]
    · simp [hq]
  have hfl : ((L.take k).filter fun x => !isK f i x).length ≤ k := Nat.le_trans (List.length_filter_le ..) (by simp; omega)
  rw [succ_i k (by omega)]
  have push : isK f i x = false → ∀ w25, Bel w15 w25 → Under [n1, n2, n3] w25 → OpW Try.prog (valueS (Instr.buildSlice 44 1 #[(0, trV x)])) w25 fun v26 w27 => ∃ a28 n29 n30, v26 = .slice a28 n29 n30 ∧ Keeps [n1, n2, n3] w25 w27 ∧ OpW Try.prog (builtin .append #[44, 44] 44 #[false, false] #[.slice a9 n10 n11, .slice a28 n29 n30]) w27 fun v31 w32 => ∃ a33 n34 n35, v31 = .slice a33 n34 n35 ∧ Keeps [n1, n2, n3] w27 w32 ∧ ∀ w36, Evo [n3] w32 w36 → Under [n1, n2, n3] w36 →
      (At W [n1, n2, n3] w36 ∧ x8 = x8 ∧ ∃ j : Nat, ((k + 1 : Nat) : Int) = j ∧ j ≤ L.length ∧ OwnL W [n1, n2, n3] w36 48 4 trE (.slice a33 n34 n35) ((L.take j).filter fun x => !isK f i x)) ∧ ((n : Int) - ((k + 1 : Nat) : Int)).toNat < ((n : Int) - (k : Int)).toNat := by
    intro hno w25 hb hu
    have hA : At W [n1, n2, n3] w25 := ⟨(hA.call hb).chg, hu⟩
    refine opw_push (f := trE) (e' := 48) (bytes := 48) hA (ho.call hb) x (by kernel_rfl) (by kernel_rfl) rfl (fun _ _ => rfl) (tr_one _) (by omega) (by decide) fun a2 c2 w32 hA ho2 _ _ w36 hev hu => ?_
    refine ⟨⟨hA.evo (by intro d hd; simp at hd; omega) hev hu, rfl, k + 1, rfl, by omega, ?_⟩, by omega⟩
    rw [htk, if_neg (by rw [hno]; decide)]
    exact ho2.evo (by intro d hd hd2; simp at hd hd2; omega) hev
  refine ⟨ad, g1, _, el.one (by kernel_rfl) (by simp), brN (fun hne => ⟨ad, g1, _, _, _, _, _, _, el.agg 4 (by kernel_rfl) (by kernel_rfl) (by simp) (by simp), push (decide_eq_false fun hh => hne hh.1)⟩) (fun he => ?_)⟩
  refine ⟨ad, g1, _, (el.sub (o := 1) (by decide)).one (by kernel_rfl) (by simp), brN (fun hne => ⟨ad, g1, _, _, _, _, _, _, el.agg 4 (by kernel_rfl) (by kernel_rfl) (by simp) (by simp), push (decide_eq_false fun hh => hne hh.2)⟩) (fun he2 => ?_)⟩
  refine ⟨⟨hA, rfl, k + 1, rfl, by omega, ?_⟩, by simp only; omega⟩
  simp only
  rw [htk, if_pos (show isK f i x = true from decide_eq_true ⟨he, he2⟩), List.append_nil]
  exact ho
theorem c34 {L : List TR} {a : Option Addr} {n c : Nat} (cap f g : Int) (W : World) (h : SlE W 4 trE L a n c) (hl : L.length ≤ 1000) : RetL Try.prog 34 #[mV cap a n c, .int .i64 f, .int .i64 g] W 48 4 trE (L.filter fun x => decide (x.1.1 = f ∨ x.1.2.2.1 = g)) := by
  intro R hR
  refine f34_calls cap a n c f g W R ?_
  unfold f34_vc
  have hn := h.len_le
  intro n1 hn1
  refine ⟨fun v W' => At W [n1] W' ∧ ∃ k : Nat, v.2.1 = k ∧ k ≤ L.length ∧ OwnL W [n1] W' 48 4 trE (.slice v.1.1 v.1.2.1 v.1.2.2) ((L.take k).filter fun x => decide (x.1.1 = f ∨ x.1.2.2.1 = g)), fun v _ => ((n : Int) - v.2.1).toNat, fun w4 hb4 hu => ⟨⟨((At.refl W).call hb4).chg, hu⟩, 0, rfl, Nat.zero_le _, OwnL.nil⟩, ?_⟩
  rintro a5 n6 n7 x8 w9 ⟨hA, k, hk, hkl, ho⟩
  simp only at hk ho
  subst hk
  refine brD (fun hlt => ?_) (fun hge => ?_)
  · obtain ⟨x, hx⟩ : ∃ x, L[k]? = some x := ⟨_, List.getElem?_eq_getElem (by omega)⟩
    obtain ⟨ad, g1, el, _⟩ := elt_at (P := Try.prog) (k := .i64) (t := 44) (h.call hA.below) hx (e := 48) (by kernel_rfl) (by kernel_rfl)
    have htk : (L.take (k + 1)).filter (fun x => decide (x.1.1 = f ∨ x.1.2.2.1 = g)) = (L.take k).filter (fun x => decide (x.1.1 = f ∨ x.1.2.2.1 = g)) ++ (if x.1.1 = f ∨ x.1.2.2.1 = g then [x] else []) := by
      rw [List.take_add_one, hx, List.filter_append]
      congr 1
      by_cases hq : x.1.1 = f ∨ x.1.2.2.1 = g
      · simp [hq]
      · simp [hq]
    have hfl : ((L.take k).filter fun x => decide (x.1.1 = f ∨ x.1.2.2.1 = g)).length ≤ k := Nat.le_trans (List.length_filter_le ..) (by simp; omega)
    rw [succ_i k (by omega)]
    have push : (x.1.1 = f ∨ x.1.2.2.1 = g) → OpW Try.prog (valueS (Instr.buildSlice 44 1 #[(0, trV x)])) w9 fun v26 w27 => ∃ a28 n29 n30, v26 = .slice a28 n29 n30 ∧ Keeps [n1] w9 w27 ∧ OpW Try.prog (builtin .append #[44, 44] 44 #[false, false] #[.slice a5 n6 n7, .slice a28 n29 n30]) w27 fun v31 w32 => ∃ a33 n34 n35, v31 = .slice a33 n34 n35 ∧ Keeps [n1] w27 w32 ∧
        (At W [n1] w32 ∧ ∃ j : Nat, ((k + 1 : Nat) : Int) = j ∧ j ≤ L.length ∧ OwnL W [n1] w32 48 4 trE (.slice a33 n34 n35) ((L.take j).filter fun x => decide (x.1.1 = f ∨ x.1.2.2.1 = g))) ∧ ((n : Int) - ((k + 1 : Nat) : Int)).toNat < ((n : Int) - (k : Int)).toNat := by
      intro hq
      refine opw_push (f := trE) (e' := 48) (bytes := 48) hA ho x (by kernel_rfl) (by kernel_rfl) rfl (fun _ _ => rfl) (tr_one _) (by omega) (by decide) fun a2 c2 w32 hA ho2 _ _ => ?_
      refine ⟨⟨hA, k + 1, rfl, by omega, ?_⟩, by omega⟩
      rw [htk, if_pos hq]
      exact ho2
    refine ⟨ad, g1, _, el.one (by kernel_rfl) (by simp), brE (fun he => ⟨ad, g1, _, _, _, _, _, _, el.agg 4 (by kernel_rfl) (by kernel_rfl) (by simp) (by simp), push (.inl he)⟩) (fun hne => ?_)⟩
    refine ⟨ad, g1, _, (el.sub (o := 2) (by decide)).one (by kernel_rfl) (by simp), brE (fun he => ⟨ad, g1, _, _, _, _, _, _, el.agg 4 (by kernel_rfl) (by kernel_rfl) (by simp) (by simp), push (.inr he)⟩) (fun hne2 => ?_)⟩
    refine ⟨⟨hA, k + 1, rfl, by omega, ?_⟩, by simp only; omega⟩
    simp only
    rw [htk, if_neg (fun hh => hh.elim hne hne2), List.append_nil]
    exact ho
  · rw [show k = L.length by omega, List.take_length] at ho
    exact leafl hR hA ho rfl
end Go.Vc.J

/- The arguments of tasks' laws, read: acts. -/
set_option maxRecDepth 20000
namespace Go.Vc.J
open Go Go.Vc Go.Vc.V Go.RowKit
abbrev iG : GT := .int .i64
abbrev ptG : GT := .st (.pair iG (.pair iG (.pair iG .unit)))
abbrev PtA := Int × Int × Int × Unit
def ptOf (x : PtA) : PartT := (x.1, x.2.1, x.2.2.1)
theorem row_M {α β : Type} {w : World} {n : Nat} {R : α → List Value → Prop} {R' : β → List Value → Prop} {k : α → β} {l : List α} {a : Option Addr} {len c : Nat} (hs : SlR w n R l a len c) (hR : ∀ x cs, R x cs → R' (k x) cs) : SlR w n R' (l.map k) a len c := by
  refine ⟨by rw [List.length_map]; exact hs.1, hs.2.1, hs.2.2.1, hs.2.2.2.1, fun i y hy => ?_⟩
  rw [List.getElem?_map] at hy
  cases hx : l[i]? with
  | none => rw [hx] at hy; cases hy
  | some x =>
    rw [hx] at hy
    simp only [Option.map_some, Option.some.injEq] at hy
    subst hy
    obtain ⟨ad, cs, ha, hl, hcs, hr⟩ := hs.at_ hx
    exact ⟨ad, cs, ha, hl, hcs, hR _ _ hr⟩
theorem pt_R {w : World} {x : PtA} {cs : List Value} (h : ptG.R w x cs) : cs = partE (ptOf x) := by
  obtain ⟨c1, c2, rfl, ⟨rfl, _, _⟩, c3, c4, rfl, ⟨rfl, _, _⟩, c5, c6, rfl, ⟨rfl, _, _⟩, rfl⟩ := h
  rfl
theorem pts_V {w : World} {l : List PtA} {v : Value} (h : GT.V w (.sl ptG) l v) : ∃ a n c, v = .slice a n c ∧ SlE w 3 partE (l.map ptOf) a n c := by
  obtain ⟨a, n, c, hv, hs⟩ := h
  simp at hv
  exact ⟨a, n, c, hv, row_M hs fun _ _ => pt_R⟩
theorem two_V {w : World} {x : Int × Int × Unit} {v : Value} (h : GT.V w (.st (.pair iG (.pair iG .unit))) x v) : v = .agg #[.int .i64 x.1, .int .i64 x.2.1] := by
  obtain ⟨cs, rfl, c1, c2, rfl, ⟨rfl, _, _⟩, c3, c4, rfl, ⟨rfl, _, _⟩, rfl⟩ := h
  rfl
/-- A row, as a row of what its elements are. -/
theorem row_C {α β : Type} {w : World} {n : Nat} {R : α → List Value → Prop} {R' : β → List Value → Prop} {Q : β → Prop} {l : List α} {a : Option Addr} {len c : Nat} (hs : SlR w n R l a len c) (hR : ∀ x cs, R x cs → ∃ y, R' y cs ∧ Q y) : ∃ L, SlR w n R' L a len c ∧ ∀ y ∈ L, Q y := by
  have h : ∀ i : Fin l.length, ∃ y, (∃ ad cs, a = some ad ∧ cs.length = n ∧ (∀ (j : Nat) (v : Value), cs[j]? = some v → w.cell? ((ad.add (i.1 * n)).add j) = some v) ∧ R' y cs) ∧ Q y := fun i => by
    obtain ⟨ad, cs, ha, hl, hcs, hr⟩ := hs.at_ (List.getElem?_eq_getElem i.2)
    obtain ⟨y, hy, hq⟩ := hR _ _ hr
    exact ⟨y, ⟨ad, cs, ha, hl, hcs, hy⟩, hq⟩
  refine ⟨List.ofFn fun i => Classical.choose (h i), ⟨by rw [List.length_ofFn]; exact hs.1, hs.2.1, hs.2.2.1, hs.2.2.2.1, fun i y hy => ?_⟩, fun y hy => ?_⟩
  · obtain ⟨hi, rfl⟩ := List.getElem?_eq_some_iff.1 hy
    rw [List.getElem_ofFn]
    rw [List.length_ofFn] at hi
    exact (Classical.choose_spec (h ⟨i, hi⟩)).1
  · obtain ⟨i, hi, rfl⟩ := List.getElem_of_mem hy
    rw [List.getElem_ofFn]
    exact (Classical.choose_spec (h _)).2
abbrev tkG : GT := .st (.pair iG (.pair iG (.pair iG (.pair (.sl ptG) .unit))))
abbrev acG : GT := .st (.pair .bool (.pair tkG .unit))
theorem act_R {w : World} {x : acG.T} {cs : List Value} (h : acG.R w x cs) : ∃ y : Bool × TR, cs = actE y ∧ VecR w y.2 := by
  obtain ⟨c1, c2, rfl, rfl, c3, c4, rfl, hm, rfl⟩ := h
  obtain ⟨d1, d2, rfl, ⟨rfl, _, _⟩, d3, d4, rfl, ⟨rfl, _, _⟩, d5, d6, rfl, ⟨rfl, _, _⟩, d7, d8, rfl, ⟨a, n, c, rfl, hs⟩, rfl⟩ := hm
  exact ⟨(x.1, ((x.2.1.1, x.2.1.2.1, x.2.1.2.2.1, x.2.1.2.2.2.1.map ptOf), (a, n, c))), rfl, row_M hs fun _ _ => pt_R⟩
theorem acts_V {w : World} {l : (GT.sl acG).T} {v : Value} (h : GT.V w (.sl acG) l v) : ∃ L a n c, v = .slice a n c ∧ AR w L a n c := by
  obtain ⟨a, n, c, hv, hs⟩ := h
  simp at hv
  obtain ⟨L, h1, h2⟩ := row_C hs (R' := fun y cs => cs = actE y) (Q := fun y => VecR w y.2) fun _ _ => act_R
  exact ⟨L, a, n, c, hv, h1, h2⟩
end Go.Vc.J

