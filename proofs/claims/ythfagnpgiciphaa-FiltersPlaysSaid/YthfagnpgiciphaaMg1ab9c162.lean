/- Own texts of this claim, laid together: FT3, VcInv, Jk1, VcSort, Fz1, FZ1, VcSlice. -/
import Derived.Test.YthfagnpgiciphaaMgf66db6d6
import Derived.Test.YthfagnpgiciphaaProg
import Derived.Shelf.SlSortCmp.NoneTotal

/- The formulas of functions, printed by a program (VcTool.lean): each is what the generator's formula comes to, by the kernel's reckoning; whoever proves one has the function's contract. -/
set_option maxRecDepth 100000
set_option maxHeartbeats 1000000
set_option linter.unusedVariables false
namespace Vct
open Go Go.Vc Go.RowKit
/-! manciple/manciplelaw25.Few -/
def h20 : Hints := ⟨[], [14], [8, 23], [], [], [(3, ⟨[(3, .int .i64), (4, .int .i64)], []⟩)], [], [], []⟩
def f20_vc (la : Option Addr) (ln : Nat) (lc : Nat) (w : World) (R : Ending → World → Prop) : Prop :=
 ∃ (J1 : Int × Int × Unit → World → Prop),
 ∃ (J2 : Int × Int × Unit → World → Nat),
 J1 (0, 0, ()) w ∧
 ∀ (x3 x4 : Int) (w5 : World),
 J1 (x3, x4, ()) w5 →
 (decide (x4 < (↑ln : Int)) = true →
 ∃ (ad6 : Addr),
 Gives Proofs.Try.prog (Instr.indexAt 39 (Value.slice la ln lc) (Value.int IntKind.i64 x4)) (Value.pointer (some ad6)) ∧
 ∃ (a7 : Option Addr),
 ∃ (n8 : Nat),
 ∃ (n9 : Nat),
 Reads Proofs.Try.prog [] (Instr.loadAt 23 (Value.pointer (some (Addr.mk (Addr.mk ad6.block (ad6.off + 1) none).block ((Addr.mk ad6.block (ad6.off + 1) none).off + 3) none)))) w5 (Value.slice a7 n8 n9) ∧
 J1 (IntKind.i64.wrap (x3 + (↑n8 : Int)), IntKind.i64.wrap (x4 + 1), ()) w5 ∧ J2 (IntKind.i64.wrap (x3 + (↑n8 : Int)), IntKind.i64.wrap (x4 + 1), ()) w5 < J2 (x3, x4, ()) w5) ∧
 (decide (x4 < (↑ln : Int)) = false → (decide ((↑ln : Int) ≤ 100) = true → R (Ending.returned (Value.bool (decide (x3 ≤ 400)))) w5) ∧ (decide ((↑ln : Int) ≤ 100) = false → R (Ending.returned (Value.bool false)) w5))
theorem f20_eq (la : Option Addr) (ln : Nat) (lc : Nat) (w : World) (R : Ending → World → Prop) : (fnF Go.Proofs.Try.prog h20 Go.Proofs.Try.f20 [Value.slice la ln lc] w R).den = f20_vc la ln lc w R := by kernel_rfl
theorem f20_calls (la : Option Addr) (ln : Nat) (lc : Nat) (w : World) (R : Ending → World → Prop) (h : f20_vc la ln lc w R) : Calls Go.Proofs.Try.prog 20 (List.toArray [Value.slice la ln lc]) w R :=
 fn_sound (H := h20) (fn := Go.Proofs.Try.f20) (by kernel_rfl) (by kernel_rfl) (by kernel_rfl) ((f20_eq la ln lc w R).mpr h)


/-! manciple/tasks.New -/
def h21 : Hints := ⟨[], [], [4], [], [], [], [], [], []⟩
def f21_vc (cap : Int) (w : World) (R : Ending → World → Prop) : Prop :=
 (decide (cap < 1) = true → R (Ending.returned (Value.pointer none)) w) ∧
 (decide (cap < 1) = false →
 OpW Proofs.Try.prog (valueS (Instr.makeMap 69 none)) w fun (v1 : Value) (w2 : World) =>
 ∃ (r3 : Option Nat),
 v1 = Value.map r3 ∧
 OpW Proofs.Try.prog (valueS (Instr.box 71 (Value.agg #[Value.int IntKind.i64 cap, Value.map r3]))) w2 fun (v4 : Value) (w5 : World) =>
 ∃ (ad6 : Addr), v4 = Value.pointer (some ad6) ∧ R (Ending.returned (Value.pointer (some ad6))) w5)
theorem f21_eq (cap : Int) (w : World) (R : Ending → World → Prop) : (fnF Go.Proofs.Try.prog h21 Go.Proofs.Try.f21 [Value.int IntKind.i64 cap] w R).den = f21_vc cap w R := by kernel_rfl
theorem f21_calls (cap : Int) (w : World) (R : Ending → World → Prop) (h : f21_vc cap w R) : Calls Go.Proofs.Try.prog 21 (List.toArray [Value.int IntKind.i64 cap]) w R :=
 fn_sound (H := h21) (fn := Go.Proofs.Try.f21) (by kernel_rfl) (by kernel_rfl) (by kernel_rfl) ((f21_eq cap w R).mpr h)


/-! manciple/manciplelaw25.works -/
def h22 : Hints := ⟨[7], [], [35, 39, 43, 47, 50, 55, 60, 66], [], [], [], [], [], []⟩
def f22_vc  (w : World) (R : Ending → World → Prop) : Prop :=
 Calls Proofs.Try.prog 21 #[Value.int IntKind.i64 2] w fun (e1 : Ending) (w2 : World) =>
 ∃ (a3 : Option Addr),
 e1 = Ending.returned (Value.pointer a3) ∧
 OpW Proofs.Try.prog (valueS (Instr.buildSlice 23 1 #[(0, Value.agg #[Value.int IntKind.i64 0, Value.int IntKind.i64 0, Value.int IntKind.i64 2])])) w2 fun (v4 : Value) (w5 : World) =>
 ∃ (a6 : Option Addr),
 ∃ (n7 : Nat),
 ∃ (n8 : Nat),
 v4 = Value.slice a6 n7 n8 ∧
 Calls Proofs.Try.prog 30 #[Value.pointer a3, Value.agg #[Value.int IntKind.i64 1, Value.int IntKind.i64 7, Value.int IntKind.i64 5, Value.slice a6 n7 n8]] w5 fun (e9 : Ending) (w10 : World) =>
 ∃ (x11 : Int),
 e9 = Ending.returned (Value.int IntKind.i64 x11) ∧
 Calls Proofs.Try.prog 30 #[Value.pointer a3, Value.agg #[Value.int IntKind.i64 2, Value.int IntKind.i64 7, Value.int IntKind.i64 5, Value.slice a6 n7 n8]] w10 fun (e12 : Ending) (w13 : World) =>
 ∃ (x14 : Int),
 e12 = Ending.returned (Value.int IntKind.i64 x14) ∧
 Calls Proofs.Try.prog 30 #[Value.pointer a3, Value.agg #[Value.int IntKind.i64 1, Value.int IntKind.i64 7, Value.int IntKind.i64 5, Value.slice a6 n7 n8]] w13 fun (e15 : Ending) (w16 : World) =>
 ∃ (x17 : Int),
 e15 = Ending.returned (Value.int IntKind.i64 x17) ∧
 Calls Proofs.Try.prog 30 #[Value.pointer a3, Value.agg #[Value.int IntKind.i64 1, Value.int IntKind.i64 8, Value.int IntKind.i64 5, Value.slice a6 n7 n8]] w16 fun (e18 : Ending) (w19 : World) =>
 ∃ (x20 : Int),
 e18 = Ending.returned (Value.int IntKind.i64 x20) ∧
 Calls Proofs.Try.prog 26 #[Value.pointer a3, Value.int IntKind.i64 1, Value.int IntKind.i64 7] w19 fun (e21 : Ending) (w22 : World) =>
 ∃ (x23 : Int),
 ∃ (x24 : Int),
 ∃ (x25 : Int),
 ∃ (a26 : Option Addr),
 ∃ (n27 : Nat),
 ∃ (n28 : Nat),
 ∃ (b29 : Bool),
 e21 = Ending.returned (Value.tuple #[Value.agg #[Value.int IntKind.i64 x23, Value.int IntKind.i64 x24, Value.int IntKind.i64 x25, Value.slice a26 n27 n28], Value.bool b29]) ∧
 ∀ (n30 : Nat),
 w22.heap.size ≤ n30 →
 ((x11 == 0) = true →
 ((x14 == 0) = true →
 ((x17 == 42) = true →
 ((x20 == 32) = true →
 (b29 = true →
 ((x25 == 5) = true →
 ∀ (w31 : World),
 Evo [n30] w22 w31 →
 Under [n30] w31 →
 Calls Proofs.Try.prog 32 #[Value.pointer a3] w31 fun (e32 : Ending) (w33 : World) =>
 ∃ (x34 : Int),
 e32 = Ending.returned (Value.int IntKind.i64 x34) ∧
 Keeps [n30] w31 w33 ∧
 ((x34 == 1) = true →
 Calls Proofs.Try.prog 36 #[Value.pointer a3, Value.int IntKind.i64 2] w33 fun (e35 : Ending) (w36 : World) =>
 ∃ (x37 : Int),
 ∃ (x38 : Int),
 ∃ (x39 : Int),
 ∃ (x40 : Int),
 e35 =
 Ending.returned
 (Value.agg
 #[Value.int IntKind.i64 x37, Value.int IntKind.i64 x38, Value.int IntKind.i64 x39, Value.int IntKind.i64 x40]) ∧
 Keeps [n30] w33 w36 ∧
 ((x37 == 2 && (x38 == 0 && (x39 == 0 && (x40 == 0 && true)))) = true →
 Calls Proofs.Try.prog 35 #[Value.pointer a3, Value.int IntKind.i64 5] w36 fun (e41 : Ending) (w42 : World) =>
 ∃ (a43 : Option Addr),
 ∃ (n44 : Nat),
 ∃ (n45 : Nat),
 e41 = Ending.returned (Value.slice a43 n44 n45) ∧
 Keeps [n30] w36 w42 ∧ R (Ending.returned (Value.bool ((↑n44 : Int) == 1))) w42) ∧
 ((x37 == 2 && (x38 == 0 && (x39 == 0 && (x40 == 0 && true)))) = false → R (Ending.returned (Value.bool false)) w36)) ∧
 ((x34 == 1) = false → R (Ending.returned (Value.bool false)) w33)) ∧
 ((x25 == 5) = false → ∀ (w46 : World), Evo [n30] w22 w46 → Under [n30] w46 → R (Ending.returned (Value.bool false)) w46)) ∧
 (b29 = false → ∀ (w47 : World), Evo [n30] w22 w47 → Under [n30] w47 → R (Ending.returned (Value.bool false)) w47)) ∧
 ((x20 == 32) = false → ∀ (w48 : World), Evo [n30] w22 w48 → Under [n30] w48 → R (Ending.returned (Value.bool false)) w48)) ∧
 ((x17 == 42) = false → ∀ (w49 : World), Evo [n30] w22 w49 → Under [n30] w49 → R (Ending.returned (Value.bool false)) w49)) ∧
 ((x14 == 0) = false → ∀ (w50 : World), Evo [n30] w22 w50 → Under [n30] w50 → R (Ending.returned (Value.bool false)) w50)) ∧
 ((x11 == 0) = false → ∀ (w51 : World), Evo [n30] w22 w51 → Under [n30] w51 → R (Ending.returned (Value.bool false)) w51)
theorem f22_eq  (w : World) (R : Ending → World → Prop) : (fnF Go.Proofs.Try.prog h22 Go.Proofs.Try.f22 [] w R).den = f22_vc  w R := by kernel_rfl
theorem f22_calls  (w : World) (R : Ending → World → Prop) (h : f22_vc  w R) : Calls Go.Proofs.Try.prog 22 (List.toArray []) w R :=
 fn_sound (H := h22) (fn := Go.Proofs.Try.f22) (by kernel_rfl) (by kernel_rfl) (by kernel_rfl) ((f22_eq  w R).mpr h)


/-! (manciple/mancipleref25.M).At -/
def h23 : Hints := ⟨[3], [18, 27], [12, 32, 23], [], [], [(2, ⟨[(7, .int .i64)], []⟩)], [], [], []⟩
def f23_vc (m_0 : Int) (m_1a : Option Addr) (m_1n : Nat) (m_1c : Nat) (frame : Int) (id : Int) (w : World) (R : Ending → World → Prop) : Prop :=
 ∀ (n1 : Nat),
 w.heap.size ≤ n1 →
 ∃ (J2 : Int × Unit → World → Prop),
 ∃ (J3 : Int × Unit → World → Nat),
 (∀ (w4 : World), Bel w w4 → Under [n1] w4 → J2 (0, ()) w4) ∧
 ∀ (x5 : Int) (w6 : World),
 J2 (x5, ()) w6 →
 (decide (x5 < (↑m_1n : Int)) = true →
 ∃ (ad7 : Addr),
 Gives Proofs.Try.prog (Instr.indexAt 44 (Value.slice m_1a m_1n m_1c) (Value.int IntKind.i64 x5)) (Value.pointer (some ad7)) ∧
 ∃ (x8 : Int),
 Reads Proofs.Try.prog [] (Instr.loadAt 2 (Value.pointer (some ad7))) w6 (Value.int IntKind.i64 x8) ∧
 ((x8 == frame) = true →
 ∃ (ad9 : Addr),
 Gives Proofs.Try.prog (Instr.indexAt 44 (Value.slice m_1a m_1n m_1c) (Value.int IntKind.i64 x5)) (Value.pointer (some ad9)) ∧
 ∃ (x10 : Int),
 Reads Proofs.Try.prog [] (Instr.loadAt 2 (Value.pointer (some (Addr.mk ad9.block (ad9.off + 1) none)))) w6 (Value.int IntKind.i64 x10) ∧
 ((x10 == id) = true → R (Ending.returned (Value.int IntKind.i64 x5)) w6) ∧ ((x10 == id) = false → J2 (IntKind.i64.wrap (x5 + 1), ()) w6 ∧ J3 (IntKind.i64.wrap (x5 + 1), ()) w6 < J3 (x5, ()) w6)) ∧
 ((x8 == frame) = false → J2 (IntKind.i64.wrap (x5 + 1), ()) w6 ∧ J3 (IntKind.i64.wrap (x5 + 1), ()) w6 < J3 (x5, ()) w6)) ∧
 (decide (x5 < (↑m_1n : Int)) = false → R (Ending.returned (Value.int IntKind.i64 (-1))) w6)
theorem f23_eq (m_0 : Int) (m_1a : Option Addr) (m_1n : Nat) (m_1c : Nat) (frame : Int) (id : Int) (w : World) (R : Ending → World → Prop) : (fnF Go.Proofs.Try.prog h23 Go.Proofs.Try.f23 [Value.agg #[Value.int IntKind.i64 m_0, Value.slice m_1a m_1n m_1c], Value.int IntKind.i64 frame, Value.int IntKind.i64 id] w R).den = f23_vc m_0 m_1a m_1n m_1c frame id w R := by kernel_rfl
theorem f23_calls (m_0 : Int) (m_1a : Option Addr) (m_1n : Nat) (m_1c : Nat) (frame : Int) (id : Int) (w : World) (R : Ending → World → Prop) (h : f23_vc m_0 m_1a m_1n m_1c frame id w R) : Calls Go.Proofs.Try.prog 23 (List.toArray [Value.agg #[Value.int IntKind.i64 m_0, Value.slice m_1a m_1n m_1c], Value.int IntKind.i64 frame, Value.int IntKind.i64 id]) w R :=
 fn_sound (H := h23) (fn := Go.Proofs.Try.f23) (by kernel_rfl) (by kernel_rfl) (by kernel_rfl) ((f23_eq m_0 m_1a m_1n m_1c frame id w R).mpr h)


/-! (*manciple/tasks.Table).Get -/
def h24 : Hints := ⟨[6, 8], [16], [12, 25], [], [], [], [], [], []⟩
def f24_vc (t : Option Addr) (frame : Int) (id : Int) (w : World) (R : Ending → World → Prop) : Prop :=
 ∀ (n1 : Nat),
 w.heap.size ≤ n1 →
 ∀ (w2 : World),
 Bel w w2 →
 Under [n1] w2 →
 Calls Proofs.Try.prog 81 #[Value.pointer t] w2 fun (e3 : Ending) (w4 : World) =>
 ∃ (b5 : Bool),
 e3 = Ending.returned (Value.bool b5) ∧
 Keeps [n1] w2 w4 ∧
 ((!b5) = true →
 ∀ (w6 : World), Evo [n1] w4 w6 → Under [n1] w6 → R (Ending.returned (Value.tuple #[Value.agg #[Value.int IntKind.i64 0, Value.int IntKind.i64 0, Value.int IntKind.i64 0, Value.slice none 0 0], Value.bool false])) w6) ∧
 ((!b5) = false →
 ∃ (ad7 : Addr),
 t = some ad7 ∧
 ∃ (r8 : Option Nat),
 Reads Proofs.Try.prog [] (Instr.loadAt 69 (Value.pointer (some (Addr.mk ad7.block (ad7.off + 1) none)))) w4 (Value.map r8) ∧
 ∃ (x9 : Int),
 ∃ (x10 : Int),
 ∃ (x11 : Int),
 ∃ (a12 : Option Addr),
 ∃ (n13 : Nat),
 ∃ (n14 : Nat),
 ∃ (b15 : Bool),
 Reads Proofs.Try.prog [] (Instr.lookup 69 (Value.map r8) (Value.agg #[Value.int IntKind.i64 frame, Value.int IntKind.i64 id]) true) w4
 (Value.tuple #[Value.agg #[Value.int IntKind.i64 x9, Value.int IntKind.i64 x10, Value.int IntKind.i64 x11, Value.slice a12 n13 n14], Value.bool b15]) ∧
 ∀ (n16 : Nat),
 w4.heap.size ≤ n16 →
 (b15 = true →
 ∀ (w17 : World),
 Evo [n16] w4 w17 →
 Under [n1, n16] w17 →
 Calls Proofs.Try.prog 79 #[Value.slice a12 n13 n14] w17 fun (e18 : Ending) (w19 : World) =>
 ∃ (a20 : Option Addr),
 ∃ (n21 : Nat),
 ∃ (n22 : Nat),
 e18 = Ending.returned (Value.slice a20 n21 n22) ∧
 Keeps [n1, n16] w17 w19 ∧
 ∀ (w23 : World),
 Evo [n1, n16] w19 w23 →
 Under [n1, n16] w23 →
 R
 (Ending.returned
 (Value.tuple #[Value.agg #[Value.int IntKind.i64 x9, Value.int IntKind.i64 x10, Value.int IntKind.i64 x11, Value.slice a20 n21 n22], Value.bool b15]))
 w23) ∧
 (b15 = false →
 ∀ (w24 : World),
 Evo [n1, n16] w4 w24 →
 Under [n1, n16] w24 →
 R (Ending.returned (Value.tuple #[Value.agg #[Value.int IntKind.i64 x9, Value.int IntKind.i64 x10, Value.int IntKind.i64 x11, Value.slice a12 n13 n14], Value.bool b15])) w24))
theorem f24_eq (t : Option Addr) (frame : Int) (id : Int) (w : World) (R : Ending → World → Prop) : (fnF Go.Proofs.Try.prog h24 Go.Proofs.Try.f24 [Value.pointer t, Value.int IntKind.i64 frame, Value.int IntKind.i64 id] w R).den = f24_vc t frame id w R := by kernel_rfl
theorem f24_calls (t : Option Addr) (frame : Int) (id : Int) (w : World) (R : Ending → World → Prop) (h : f24_vc t frame id w R) : Calls Go.Proofs.Try.prog 24 (List.toArray [Value.pointer t, Value.int IntKind.i64 frame, Value.int IntKind.i64 id]) w R :=
 fn_sound (H := h24) (fn := Go.Proofs.Try.f24) (by kernel_rfl) (by kernel_rfl) (by kernel_rfl) ((f24_eq t frame id w R).mpr h)


/-! manciple/mancipleref25.Same -/
def h25 : Hints := ⟨[], [19, 24, 31, 36, 44, 49, 57, 62], [10, 14, 67, 28, 41, 54], [(6, [0, 1, 2, 3, 4, 5, 6, 7, 8, 9, 10, 11, 12, 13, 14, 15, 16, 17, 18, 19, 20, 21, 22, 23, 24, 25, 26, 27, 28, 29, 30, 31, 32, 33, 34, 35, 36, 37, 38, 39, 40, 41, 42, 43, 44, 45, 46, 47, 48, 49, 50])], [], [(4, ⟨[(5, .int .i64)], []⟩)], [], [], []⟩
def f25_vc (aa : Option Addr) (an : Nat) (ac : Nat) (ba : Option Addr) (bn : Nat) (bc : Nat) (w : World) (R : Ending → World → Prop) : Prop :=
 (((↑an : Int) != (↑bn : Int)) = true → R (Ending.returned (Value.bool false)) w) ∧
 (((↑an : Int) != (↑bn : Int)) = false →
 ∃ (J1 : Int × Unit → World → Prop),
 ∃ (J2 : Int × Unit → World → Nat),
 J1 (0, ()) w ∧
 ∀ (x3 : Int) (w4 : World),
 J1 (x3, ()) w4 →
 (decide (x3 < (↑an : Int)) = true →
 ∃ (ad5 : Addr),
 Gives Proofs.Try.prog (Instr.indexAt 44 (Value.slice aa an ac) (Value.int IntKind.i64 x3)) (Value.pointer (some ad5)) ∧
 ∃ (x6 : Int),
 Reads Proofs.Try.prog [] (Instr.loadAt 2 (Value.pointer (some (Addr.mk ad5.block (ad5.off + 1) none)))) w4 (Value.int IntKind.i64 x6) ∧
 ∃ (ad7 : Addr),
 Gives Proofs.Try.prog (Instr.indexAt 44 (Value.slice ba bn bc) (Value.int IntKind.i64 x3)) (Value.pointer (some ad7)) ∧
 ∃ (x8 : Int),
 Reads Proofs.Try.prog [] (Instr.loadAt 2 (Value.pointer (some (Addr.mk ad7.block (ad7.off + 1) none)))) w4 (Value.int IntKind.i64 x8) ∧
 ((x6 != x8) = true → ∀ (w9 : World), Bel w4 w9 → R (Ending.returned (Value.bool false)) w9) ∧
 ((x6 != x8) = false →
 ∃ (ad10 : Addr),
 Gives Proofs.Try.prog (Instr.indexAt 44 (Value.slice aa an ac) (Value.int IntKind.i64 x3)) (Value.pointer (some ad10)) ∧
 ∃ (x11 : Int),
 Reads Proofs.Try.prog [] (Instr.loadAt 2 (Value.pointer (some ad10))) w4 (Value.int IntKind.i64 x11) ∧
 ∃ (ad12 : Addr),
 Gives Proofs.Try.prog (Instr.indexAt 44 (Value.slice ba bn bc) (Value.int IntKind.i64 x3)) (Value.pointer (some ad12)) ∧
 ∃ (x13 : Int),
 Reads Proofs.Try.prog [] (Instr.loadAt 2 (Value.pointer (some ad12))) w4 (Value.int IntKind.i64 x13) ∧
 ((x11 != x13) = true → ∀ (w14 : World), Bel w4 w14 → R (Ending.returned (Value.bool false)) w14) ∧
 ((x11 != x13) = false →
 ∃ (ad15 : Addr),
 Gives Proofs.Try.prog (Instr.indexAt 44 (Value.slice aa an ac) (Value.int IntKind.i64 x3)) (Value.pointer (some ad15)) ∧
 ∃ (x16 : Int),
 Reads Proofs.Try.prog [] (Instr.loadAt 2 (Value.pointer (some (Addr.mk ad15.block (ad15.off + 2) none)))) w4 (Value.int IntKind.i64 x16) ∧
 ∃ (ad17 : Addr),
 Gives Proofs.Try.prog (Instr.indexAt 44 (Value.slice ba bn bc) (Value.int IntKind.i64 x3)) (Value.pointer (some ad17)) ∧
 ∃ (x18 : Int),
 Reads Proofs.Try.prog [] (Instr.loadAt 2 (Value.pointer (some (Addr.mk ad17.block (ad17.off + 2) none)))) w4 (Value.int IntKind.i64 x18) ∧
 ((x16 != x18) = true → ∀ (w19 : World), Bel w4 w19 → R (Ending.returned (Value.bool false)) w19) ∧
 ((x16 != x18) = false →
 ∃ (ad20 : Addr),
 Gives Proofs.Try.prog (Instr.indexAt 44 (Value.slice aa an ac) (Value.int IntKind.i64 x3)) (Value.pointer (some ad20)) ∧
 ∃ (a21 : Option Addr),
 ∃ (n22 : Nat),
 ∃ (n23 : Nat),
 Reads Proofs.Try.prog [] (Instr.loadAt 23 (Value.pointer (some (Addr.mk ad20.block (ad20.off + 3) none)))) w4 (Value.slice a21 n22 n23) ∧
 ∃ (ad24 : Addr),
 Gives Proofs.Try.prog (Instr.indexAt 44 (Value.slice ba bn bc) (Value.int IntKind.i64 x3)) (Value.pointer (some ad24)) ∧
 ∃ (a25 : Option Addr),
 ∃ (n26 : Nat),
 ∃ (n27 : Nat),
 Reads Proofs.Try.prog [] (Instr.loadAt 23 (Value.pointer (some (Addr.mk ad24.block (ad24.off + 3) none)))) w4 (Value.slice a25 n26 n27) ∧
 ∀ (w28 : World),
 Bel w4 w28 →
 Calls Proofs.Try.prog 82 #[Value.slice a21 n22 n23, Value.slice a25 n26 n27] w28 fun (e29 : Ending) (w30 : World) =>
 ∃ (b31 : Bool),
 e29 = Ending.returned (Value.bool b31) ∧
 Reads Proofs.Try.prog [] (Instr.loadAt 2 (Value.pointer (some (Addr.mk ad17.block (ad17.off + 2) none)))) w30
 (Value.int IntKind.i64 x18) ∧
 Reads Proofs.Try.prog [] (Instr.loadAt 2 (Value.pointer (some (Addr.mk ad15.block (ad15.off + 2) none)))) w30
 (Value.int IntKind.i64 x16) ∧
 Reads Proofs.Try.prog [] (Instr.loadAt 2 (Value.pointer (some ad12))) w30 (Value.int IntKind.i64 x13) ∧
 Reads Proofs.Try.prog [] (Instr.loadAt 2 (Value.pointer (some ad10))) w30 (Value.int IntKind.i64 x11) ∧
 Reads Proofs.Try.prog [] (Instr.loadAt 2 (Value.pointer (some (Addr.mk ad7.block (ad7.off + 1) none)))) w30
 (Value.int IntKind.i64 x8) ∧
 Reads Proofs.Try.prog [] (Instr.loadAt 2 (Value.pointer (some (Addr.mk ad5.block (ad5.off + 1) none)))) w30
 (Value.int IntKind.i64 x6) ∧
 ((!b31) = true → R (Ending.returned (Value.bool false)) w30) ∧
 ((!b31) = false →
 J1 (IntKind.i64.wrap (x3 + 1), ()) w30 ∧ J2 (IntKind.i64.wrap (x3 + 1), ()) w30 < J2 (x3, ()) w4))))) ∧
 (decide (x3 < (↑an : Int)) = false → R (Ending.returned (Value.bool true)) w4))
theorem f25_eq (aa : Option Addr) (an : Nat) (ac : Nat) (ba : Option Addr) (bn : Nat) (bc : Nat) (w : World) (R : Ending → World → Prop) : (fnF Go.Proofs.Try.prog h25 Go.Proofs.Try.f25 [Value.slice aa an ac, Value.slice ba bn bc] w R).den = f25_vc aa an ac ba bn bc w R := by kernel_rfl
theorem f25_calls (aa : Option Addr) (an : Nat) (ac : Nat) (ba : Option Addr) (bn : Nat) (bc : Nat) (w : World) (R : Ending → World → Prop) (h : f25_vc aa an ac ba bn bc w R) : Calls Go.Proofs.Try.prog 25 (List.toArray [Value.slice aa an ac, Value.slice ba bn bc]) w R :=
 fn_sound (H := h25) (fn := Go.Proofs.Try.f25) (by kernel_rfl) (by kernel_rfl) (by kernel_rfl) ((f25_eq aa an ac ba bn bc w R).mpr h)


/-! (*manciple/tasks.Table).End -/
def h26 : Hints := ⟨[6, 8], [19], [17], [], [], [], [], [], []⟩
def f26_vc (t : Option Addr) (frame : Int) (id : Int) (w : World) (R : Ending → World → Prop) : Prop :=
 ∀ (n1 : Nat),
 w.heap.size ≤ n1 →
 ∀ (w2 : World),
 Bel w w2 →
 Under [n1] w2 →
 Calls Proofs.Try.prog 24 #[Value.pointer t, Value.int IntKind.i64 frame, Value.int IntKind.i64 id] w2 fun (e3 : Ending) (w4 : World) =>
 ∃ (x5 : Int),
 ∃ (x6 : Int),
 ∃ (x7 : Int),
 ∃ (a8 : Option Addr),
 ∃ (n9 : Nat),
 ∃ (n10 : Nat),
 ∃ (b11 : Bool),
 e3 = Ending.returned (Value.tuple #[Value.agg #[Value.int IntKind.i64 x5, Value.int IntKind.i64 x6, Value.int IntKind.i64 x7, Value.slice a8 n9 n10], Value.bool b11]) ∧
 Keeps [n1] w2 w4 ∧
 ∀ (n12 : Nat),
 w4.heap.size ≤ n12 →
 (b11 = true →
 ∃ (ad13 : Addr),
 t = some ad13 ∧
 ∃ (r14 : Option Nat),
 Reads Proofs.Try.prog [n12] (Instr.loadAt 69 (Value.pointer (some (Addr.mk ad13.block (ad13.off + 1) none)))) w4 (Value.map r14) ∧
 ∀ (w15 : World),
 Evo [n12] w4 w15 →
 Under [n1, n12] w15 →
 OpW Proofs.Try.prog (builtin Builtin.delete #[69, 40] 0 #[false, false] #[Value.map r14, Value.agg #[Value.int IntKind.i64 frame, Value.int IntKind.i64 id]]) w15
 fun (v16 : Value) (w17 : World) =>
 v16 = Value.tuple #[] ∧
 Keeps [n1, n12] w15 w17 ∧
 ∀ (w18 : World),
 Evo [n1] w17 w18 →
 Under [n1, n12] w18 →
 R (Ending.returned (Value.tuple #[Value.agg #[Value.int IntKind.i64 x5, Value.int IntKind.i64 x6, Value.int IntKind.i64 x7, Value.slice a8 n9 n10], Value.bool b11])) w18) ∧
 (b11 = false →
 ∀ (w19 : World),
 Evo [n1, n12] w4 w19 →
 Under [n1, n12] w19 → R (Ending.returned (Value.tuple #[Value.agg #[Value.int IntKind.i64 x5, Value.int IntKind.i64 x6, Value.int IntKind.i64 x7, Value.slice a8 n9 n10], Value.bool b11])) w19)
theorem f26_eq (t : Option Addr) (frame : Int) (id : Int) (w : World) (R : Ending → World → Prop) : (fnF Go.Proofs.Try.prog h26 Go.Proofs.Try.f26 [Value.pointer t, Value.int IntKind.i64 frame, Value.int IntKind.i64 id] w R).den = f26_vc t frame id w R := by kernel_rfl
theorem f26_calls (t : Option Addr) (frame : Int) (id : Int) (w : World) (R : Ending → World → Prop) (h : f26_vc t frame id w R) : Calls Go.Proofs.Try.prog 26 (List.toArray [Value.pointer t, Value.int IntKind.i64 frame, Value.int IntKind.i64 id]) w R :=
 fn_sound (H := h26) (fn := Go.Proofs.Try.f26) (by kernel_rfl) (by kernel_rfl) (by kernel_rfl) ((f26_eq t frame id w R).mpr h)


/-! manciple/manciplelaw25.one -/
def h27 : Hints := ⟨[2], [], [6], [], [], [], [], [], []⟩
def f27_vc (x_0 : Int) (x_1 : Int) (x_2 : Int) (x_3a : Option Addr) (x_3n : Nat) (x_3c : Nat) (ok : Bool) (w : World) (R : Ending → World → Prop) : Prop :=
 ∀ (n1 : Nat),
 w.heap.size ≤ n1 →
 ((!ok) = true → ∀ (w2 : World), Bel w w2 → Under [n1] w2 → R (Ending.returned (Value.slice none 0 0)) w2) ∧
 ((!ok) = false →
 ∀ (w3 : World),
 Bel w w3 →
 Under [n1] w3 →
 OpW Proofs.Try.prog (valueS (Instr.buildSlice 44 1 #[(0, Value.agg #[Value.int IntKind.i64 x_0, Value.int IntKind.i64 x_1, Value.int IntKind.i64 x_2, Value.slice x_3a x_3n x_3c])])) w3 fun (v4 : Value) (w5 : World) =>
 ∃ (a6 : Option Addr), ∃ (n7 : Nat), ∃ (n8 : Nat), v4 = Value.slice a6 n7 n8 ∧ Keeps [n1] w3 w5 ∧ R (Ending.returned (Value.slice a6 n7 n8)) w5)
theorem f27_eq (x_0 : Int) (x_1 : Int) (x_2 : Int) (x_3a : Option Addr) (x_3n : Nat) (x_3c : Nat) (ok : Bool) (w : World) (R : Ending → World → Prop) : (fnF Go.Proofs.Try.prog h27 Go.Proofs.Try.f27 [Value.agg #[Value.int IntKind.i64 x_0, Value.int IntKind.i64 x_1, Value.int IntKind.i64 x_2, Value.slice x_3a x_3n x_3c], Value.bool ok] w R).den = f27_vc x_0 x_1 x_2 x_3a x_3n x_3c ok w R := by kernel_rfl
theorem f27_calls (x_0 : Int) (x_1 : Int) (x_2 : Int) (x_3a : Option Addr) (x_3n : Nat) (x_3c : Nat) (ok : Bool) (w : World) (R : Ending → World → Prop) (h : f27_vc x_0 x_1 x_2 x_3a x_3n x_3c ok w R) : Calls Go.Proofs.Try.prog 27 (List.toArray [Value.agg #[Value.int IntKind.i64 x_0, Value.int IntKind.i64 x_1, Value.int IntKind.i64 x_2, Value.slice x_3a x_3n x_3c], Value.bool ok]) w R :=
 fn_sound (H := h27) (fn := Go.Proofs.Try.f27) (by kernel_rfl) (by kernel_rfl) (by kernel_rfl) ((f27_eq x_0 x_1 x_2 x_3a x_3n x_3c ok w R).mpr h)


/-! (manciple/mancipleref25.M).End -/
def h28 : Hints := ⟨[3, 6, 7], [22, 31, 42], [16, 36, 27], [(6, [0, 1, 2, 3, 4, 5, 6, 7, 8, 9, 10])], [], [(3, ⟨[(8, .int .i64)], [(7, .cons (.int .i64) (.cons (.sl) (.nil)))]⟩)], [(5, ⟨[], []⟩)], [], []⟩
def f28_vc (m_0 : Int) (m_1a : Option Addr) (m_1n : Nat) (m_1c : Nat) (frame : Int) (id : Int) (w : World) (R : Ending → World → Prop) : Prop :=
 ∀ (n1 : Nat),
 w.heap.size ≤ n1 →
 ∀ (n2 : Nat),
 w.heap.size ≤ n2 →
 ∀ (n3 : Nat),
 w.heap.size ≤ n3 →
 ∃ (J4 : Int × Int × (Option Addr × Nat × Nat) × Unit → World → Prop),
 ∃ (J5 : Int × Int × (Option Addr × Nat × Nat) × Unit → World → Nat),
 (∀ (w6 : World), Evo [n3] w w6 → Under [n1, n2, n3] w6 → J4 (0, m_0, (none, 0, 0), ()) w6) ∧
 ∀ (x7 x8 : Int) (a9 : Option Addr) (n10 n11 : Nat) (w12 : World),
 J4 (x7, x8, (a9, n10, n11), ()) w12 →
 ∃ (J13 : Unit → World → Prop),
 ((decide (x7 < (↑m_1n : Int)) = true → J13 () w12) ∧
 (decide (x7 < (↑m_1n : Int)) = false → ∀ (w14 : World), Evo [n2] w12 w14 → Under [n1, n2, n3] w14 → R (Ending.returned (Value.agg #[Value.int IntKind.i64 x8, Value.slice a9 n10 n11])) w14)) ∧
 ∀ (w15 : World),
 J13 () w15 →
 ∃ (ad16 : Addr),
 Gives Proofs.Try.prog (Instr.indexAt 44 (Value.slice m_1a m_1n m_1c) (Value.int IntKind.i64 x7)) (Value.pointer (some ad16)) ∧
 ∃ (x17 : Int),
 Reads Proofs.Try.prog [] (Instr.loadAt 2 (Value.pointer (some ad16))) w15 (Value.int IntKind.i64 x17) ∧
 ((x17 != frame) = true →
 ∃ (ad18 : Addr),
 Gives Proofs.Try.prog (Instr.indexAt 44 (Value.slice m_1a m_1n m_1c) (Value.int IntKind.i64 x7)) (Value.pointer (some ad18)) ∧
 ∃ (x19 : Int),
 ∃ (x20 : Int),
 ∃ (x21 : Int),
 ∃ (a22 : Option Addr),
 ∃ (n23 : Nat),
 ∃ (n24 : Nat),
 Reads Proofs.Try.prog [] (Instr.loadAt 48 (Value.pointer (some ad18))) w15
 (Value.agg #[Value.int IntKind.i64 x19, Value.int IntKind.i64 x20, Value.int IntKind.i64 x21, Value.slice a22 n23 n24]) ∧
 ∀ (w25 : World),
 Bel w15 w25 →
 Under [n1, n2, n3] w25 →
 OpW Proofs.Try.prog
 (valueS (Instr.buildSlice 44 1 #[(0, Value.agg #[Value.int IntKind.i64 x19, Value.int IntKind.i64 x20, Value.int IntKind.i64 x21, Value.slice a22 n23 n24])])) w25
 fun (v26 : Value) (w27 : World) =>
 ∃ (a28 : Option Addr),
 ∃ (n29 : Nat),
 ∃ (n30 : Nat),
 v26 = Value.slice a28 n29 n30 ∧
 Keeps [n1, n2, n3] w25 w27 ∧
 OpW Proofs.Try.prog (builtin Builtin.append #[44, 44] 44 #[false, false] #[Value.slice a9 n10 n11, Value.slice a28 n29 n30]) w27
 fun (v31 : Value) (w32 : World) =>
 ∃ (a33 : Option Addr),
 ∃ (n34 : Nat),
 ∃ (n35 : Nat),
 v31 = Value.slice a33 n34 n35 ∧
 Keeps [n1, n2, n3] w27 w32 ∧
 ∀ (w36 : World),
 Evo [n3] w32 w36 →
 Under [n1, n2, n3] w36 →
 J4 (IntKind.i64.wrap (x7 + 1), x8, (a33, n34, n35), ()) w36 ∧
 J5 (IntKind.i64.wrap (x7 + 1), x8, (a33, n34, n35), ()) w36 < J5 (x7, x8, (a9, n10, n11), ()) w12) ∧
 ((x17 != frame) = false →
 ∃ (ad37 : Addr),
 Gives Proofs.Try.prog (Instr.indexAt 44 (Value.slice m_1a m_1n m_1c) (Value.int IntKind.i64 x7)) (Value.pointer (some ad37)) ∧
 ∃ (x38 : Int),
 Reads Proofs.Try.prog [] (Instr.loadAt 2 (Value.pointer (some (Addr.mk ad37.block (ad37.off + 1) none)))) w15 (Value.int IntKind.i64 x38) ∧
 ((x38 != id) = true →
 ∃ (ad39 : Addr),
 Gives Proofs.Try.prog (Instr.indexAt 44 (Value.slice m_1a m_1n m_1c) (Value.int IntKind.i64 x7)) (Value.pointer (some ad39)) ∧
 ∃ (x40 : Int),
 ∃ (x41 : Int),
 ∃ (x42 : Int),
 ∃ (a43 : Option Addr),
 ∃ (n44 : Nat),
 ∃ (n45 : Nat),
 Reads Proofs.Try.prog [] (Instr.loadAt 48 (Value.pointer (some ad39))) w15
 (Value.agg #[Value.int IntKind.i64 x40, Value.int IntKind.i64 x41, Value.int IntKind.i64 x42, Value.slice a43 n44 n45]) ∧
 ∀ (w46 : World),
 Bel w15 w46 →
 Under [n1, n2, n3] w46 →
 OpW Proofs.Try.prog
 (valueS (Instr.buildSlice 44 1 #[(0, Value.agg #[Value.int IntKind.i64 x40, Value.int IntKind.i64 x41, Value.int IntKind.i64 x42, Value.slice a43 n44 n45])]))
 w46 fun (v47 : Value) (w48 : World) =>
 ∃ (a49 : Option Addr),
 ∃ (n50 : Nat),
 ∃ (n51 : Nat),
 v47 = Value.slice a49 n50 n51 ∧
 Keeps [n1, n2, n3] w46 w48 ∧
 OpW Proofs.Try.prog (builtin Builtin.append #[44, 44] 44 #[false, false] #[Value.slice a9 n10 n11, Value.slice a49 n50 n51]) w48
 fun (v52 : Value) (w53 : World) =>
 ∃ (a54 : Option Addr),
 ∃ (n55 : Nat),
 ∃ (n56 : Nat),
 v52 = Value.slice a54 n55 n56 ∧
 Keeps [n1, n2, n3] w48 w53 ∧
 ∀ (w57 : World),
 Evo [n3] w53 w57 →
 Under [n1, n2, n3] w57 →
 J4 (IntKind.i64.wrap (x7 + 1), x8, (a54, n55, n56), ()) w57 ∧
 J5 (IntKind.i64.wrap (x7 + 1), x8, (a54, n55, n56), ()) w57 < J5 (x7, x8, (a9, n10, n11), ()) w12) ∧
 ((x38 != id) = false → J4 (IntKind.i64.wrap (x7 + 1), x8, (a9, n10, n11), ()) w15 ∧ J5 (IntKind.i64.wrap (x7 + 1), x8, (a9, n10, n11), ()) w15 < J5 (x7, x8, (a9, n10, n11), ()) w12))
theorem f28_eq (m_0 : Int) (m_1a : Option Addr) (m_1n : Nat) (m_1c : Nat) (frame : Int) (id : Int) (w : World) (R : Ending → World → Prop) : (fnF Go.Proofs.Try.prog h28 Go.Proofs.Try.f28 [Value.agg #[Value.int IntKind.i64 m_0, Value.slice m_1a m_1n m_1c], Value.int IntKind.i64 frame, Value.int IntKind.i64 id] w R).den = f28_vc m_0 m_1a m_1n m_1c frame id w R := by kernel_rfl
theorem f28_calls (m_0 : Int) (m_1a : Option Addr) (m_1n : Nat) (m_1c : Nat) (frame : Int) (id : Int) (w : World) (R : Ending → World → Prop) (h : f28_vc m_0 m_1a m_1n m_1c frame id w R) : Calls Go.Proofs.Try.prog 28 (List.toArray [Value.agg #[Value.int IntKind.i64 m_0, Value.slice m_1a m_1n m_1c], Value.int IntKind.i64 frame, Value.int IntKind.i64 id]) w R :=
 fn_sound (H := h28) (fn := Go.Proofs.Try.f28) (by kernel_rfl) (by kernel_rfl) (by kernel_rfl) ((f28_eq m_0 m_1a m_1n m_1c frame id w R).mpr h)


/-! (manciple/mancipleref25.M).Launch -/
def h29 : Hints := ⟨[2, 3, 4, 6, 9], [64], [34, 42, 49, 58, 88, 102, 13, 18, 23, 29, 68, 74, 80], [], [], [(10, ⟨[(7, .bool), (8, .int .i64)], [(6, .cons (.int .i64) (.cons (.sl) (.nil)))]⟩)], [(16, ⟨[(7, .bool)], [(6, .cons (.int .i64) (.cons (.sl) (.nil)))]⟩), (19, ⟨[], [(6, .cons (.int .i64) (.cons (.sl) (.nil)))]⟩)], [], []⟩
def f29_vc (m_0 : Int) (m_1a : Option Addr) (m_1n : Nat) (m_1c : Nat) (x_0 : Int) (x_1 : Int) (x_2 : Int) (x_3a : Option Addr) (x_3n : Nat) (x_3c : Nat) (w : World) (R : Ending → World → Prop) : Prop :=
 ∀ (n1 : Nat),
 w.heap.size ≤ n1 →
 ∀ (n2 : Nat),
 w.heap.size ≤ n2 →
 ∀ (n3 : Nat),
 w.heap.size ≤ n3 →
 (decide (x_0 < 1) = true → ∀ (w4 : World), Evo [n3] w w4 → Under [n1, n2, n3] w4 → R (Ending.returned (Value.tuple #[Value.agg #[Value.int IntKind.i64 m_0, Value.slice m_1a m_1n m_1c], Value.int IntKind.i64 41])) w4) ∧
 (decide (x_0 < 1) = false →
 (decide (x_1 < 1) = true → ∀ (w5 : World), Evo [n3] w w5 → Under [n1, n2, n3] w5 → R (Ending.returned (Value.tuple #[Value.agg #[Value.int IntKind.i64 m_0, Value.slice m_1a m_1n m_1c], Value.int IntKind.i64 41])) w5) ∧
 (decide (x_1 < 1) = false →
 (decide (x_2 < 1) = true → ∀ (w6 : World), Evo [n3] w w6 → Under [n1, n2, n3] w6 → R (Ending.returned (Value.tuple #[Value.agg #[Value.int IntKind.i64 m_0, Value.slice m_1a m_1n m_1c], Value.int IntKind.i64 41])) w6) ∧
 (decide (x_2 < 1) = false →
 (((↑x_3n : Int) == 0) = true →
 ∀ (w7 : World), Evo [n3] w w7 → Under [n1, n2, n3] w7 → R (Ending.returned (Value.tuple #[Value.agg #[Value.int IntKind.i64 m_0, Value.slice m_1a m_1n m_1c], Value.int IntKind.i64 41])) w7) ∧
 (((↑x_3n : Int) == 0) = false →
 ∀ (w8 : World),
 Bel w w8 →
 Under [n1, n2, n3] w8 →
 Calls Proofs.Try.prog 83 #[Value.slice x_3a x_3n x_3c] w8 fun (e9 : Ending) (w10 : World) =>
 ∃ (b11 : Bool),
 e9 = Ending.returned (Value.bool b11) ∧
 Keeps [n1, n2, n3] w8 w10 ∧
 ((!b11) = true →
 ∀ (w12 : World),
 Evo [n3] w10 w12 → Under [n1, n2, n3] w12 → R (Ending.returned (Value.tuple #[Value.agg #[Value.int IntKind.i64 m_0, Value.slice m_1a m_1n m_1c], Value.int IntKind.i64 41])) w12) ∧
 ((!b11) = false →
 Calls Proofs.Try.prog 23 #[Value.agg #[Value.int IntKind.i64 m_0, Value.slice m_1a m_1n m_1c], Value.int IntKind.i64 x_0, Value.int IntKind.i64 x_1] w10 fun (e13 : Ending) (w14 : World) =>
 ∃ (x15 : Int),
 e13 = Ending.returned (Value.int IntKind.i64 x15) ∧
 Keeps [n1, n2, n3] w10 w14 ∧
 (decide (x15 ≥ 0) = true →
 ∀ (w16 : World),
 Evo [n3] w14 w16 → Under [n1, n2, n3] w16 → R (Ending.returned (Value.tuple #[Value.agg #[Value.int IntKind.i64 m_0, Value.slice m_1a m_1n m_1c], Value.int IntKind.i64 42])) w16) ∧
 (decide (x15 ≥ 0) = false →
 (decide ((↑m_1n : Int) ≥ m_0) = true →
 ∀ (w17 : World),
 Evo [n3] w14 w17 →
 Under [n1, n2, n3] w17 → R (Ending.returned (Value.tuple #[Value.agg #[Value.int IntKind.i64 m_0, Value.slice m_1a m_1n m_1c], Value.int IntKind.i64 32])) w17) ∧
 (decide ((↑m_1n : Int) ≥ m_0) = false →
 ∀ (n18 : Nat),
 w14.heap.size ≤ n18 →
 ∃ (J19 : Bool × Int × Int × (Option Addr × Nat × Nat) × Unit → World → Prop),
 ∃ (J20 : Bool × Int × Int × (Option Addr × Nat × Nat) × Unit → World → Nat),
 (∀ (w21 : World), Evo [n18] w14 w21 → Under [n1, n2, n3, n18] w21 → J19 (false, 0, m_0, (none, 0, 0), ()) w21) ∧
 ∀ (b22 : Bool) (x23 x24 : Int) (a25 : Option Addr) (n26 n27 : Nat) (w28 : World),
 J19 (b22, x23, x24, (a25, n26, n27), ()) w28 →
 (decide (x23 < (↑m_1n : Int)) = true →
 ∃ (ad29 : Addr),
 Gives Proofs.Try.prog (Instr.indexAt 44 (Value.slice m_1a m_1n m_1c) (Value.int IntKind.i64 x23)) (Value.pointer (some ad29)) ∧
 ∃ (x30 : Int),
 ∃ (x31 : Int),
 ∃ (x32 : Int),
 ∃ (a33 : Option Addr),
 ∃ (n34 : Nat),
 ∃ (n35 : Nat),
 Reads Proofs.Try.prog [] (Instr.loadAt 48 (Value.pointer (some ad29))) w28
 (Value.agg #[Value.int IntKind.i64 x30, Value.int IntKind.i64 x31, Value.int IntKind.i64 x32, Value.slice a33 n34 n35]) ∧
 ∀ (n36 : Nat),
 w28.heap.size ≤ n36 →
 ∃ (J37 : Bool × Int × (Option Addr × Nat × Nat) × Unit → World → Prop),
 (((!b22) = true →
 (decide (x30 > x_0) = true →
 ∀ (w38 : World),
 Evo [n36] w28 w38 →
 Under [n1, n2, n3, n18, n36] w38 →
 OpW Proofs.Try.prog
 (valueS
 (Instr.buildSlice 44 1
 #[(0,
 Value.agg
 #[Value.int IntKind.i64 x_0, Value.int IntKind.i64 x_1, Value.int IntKind.i64 x_2,
 Value.slice x_3a x_3n x_3c])]))
 w38 fun (v39 : Value) (w40 : World) =>
 ∃ (a41 : Option Addr),
 ∃ (n42 : Nat),
 ∃ (n43 : Nat),
 v39 = Value.slice a41 n42 n43 ∧
 Keeps [n1, n2, n3, n18, n36] w38 w40 ∧
 OpW Proofs.Try.prog
 (builtin Builtin.append #[44, 44] 44 #[false, false] #[Value.slice a25 n26 n27, Value.slice a41 n42 n43])
 w40 fun (v44 : Value) (w45 : World) =>
 ∃ (a46 : Option Addr),
 ∃ (n47 : Nat),
 ∃ (n48 : Nat),
 v44 = Value.slice a46 n47 n48 ∧
 Keeps [n1, n2, n3, n18, n36] w40 w45 ∧
 ∀ (w49 : World),
 Evo [n18] w45 w49 →
 Under [n1, n2, n3, n18, n36] w49 → J37 (true, x24, (a46, n47, n48), ()) w49) ∧
 (decide (x30 > x_0) = false →
 ((x30 == x_0) = true →
 (decide (x31 > x_1) = true →
 ∀ (w50 : World),
 Evo [n36] w28 w50 →
 Under [n1, n2, n3, n18, n36] w50 →
 OpW Proofs.Try.prog
 (valueS
 (Instr.buildSlice 44 1
 #[(0,
 Value.agg
 #[Value.int IntKind.i64 x_0, Value.int IntKind.i64 x_1, Value.int IntKind.i64 x_2,
 Value.slice x_3a x_3n x_3c])]))
 w50 fun (v51 : Value) (w52 : World) =>
 ∃ (a53 : Option Addr),
 ∃ (n54 : Nat),
 ∃ (n55 : Nat),
 v51 = Value.slice a53 n54 n55 ∧
 Keeps [n1, n2, n3, n18, n36] w50 w52 ∧
 OpW Proofs.Try.prog
 (builtin Builtin.append #[44, 44] 44 #[false, false]
 #[Value.slice a25 n26 n27, Value.slice a53 n54 n55])
 w52 fun (v56 : Value) (w57 : World) =>
 ∃ (a58 : Option Addr),
 ∃ (n59 : Nat),
 ∃ (n60 : Nat),
 v56 = Value.slice a58 n59 n60 ∧
 Keeps [n1, n2, n3, n18, n36] w52 w57 ∧
 ∀ (w61 : World),
 Evo [n18] w57 w61 →
 Under [n1, n2, n3, n18, n36] w61 → J37 (true, x24, (a58, n59, n60), ()) w61) ∧
 (decide (x31 > x_1) = false →
 ∀ (w62 : World), Evo [n36] w28 w62 → Under [n1, n2, n3, n18, n36] w62 → J37 (b22, x24, (a25, n26, n27), ()) w62)) ∧
 ((x30 == x_0) = false →
 ∀ (w63 : World), Evo [n36] w28 w63 → Under [n1, n2, n3, n18, n36] w63 → J37 (b22, x24, (a25, n26, n27), ()) w63))) ∧
 ((!b22) = false →
 ∀ (w64 : World), Evo [n36] w28 w64 → Under [n1, n2, n3, n18, n36] w64 → J37 (b22, x24, (a25, n26, n27), ()) w64)) ∧
 ∀ (b65 : Bool) (x66 : Int) (a67 : Option Addr) (n68 n69 : Nat) (w70 : World),
 J37 (b65, x66, (a67, n68, n69), ()) w70 →
 OpW Proofs.Try.prog
 (valueS
 (Instr.buildSlice 44 1
 #[(0,
 Value.agg
 #[Value.int IntKind.i64 x30, Value.int IntKind.i64 x31, Value.int IntKind.i64 x32, Value.slice a33 n34 n35])]))
 w70 fun (v71 : Value) (w72 : World) =>
 ∃ (a73 : Option Addr),
 ∃ (n74 : Nat),
 ∃ (n75 : Nat),
 v71 = Value.slice a73 n74 n75 ∧
 Keeps [n1, n2, n3, n18, n36] w70 w72 ∧
 OpW Proofs.Try.prog
 (builtin Builtin.append #[44, 44] 44 #[false, false] #[Value.slice a67 n68 n69, Value.slice a73 n74 n75]) w72
 fun (v76 : Value) (w77 : World) =>
 ∃ (a78 : Option Addr),
 ∃ (n79 : Nat),
 ∃ (n80 : Nat),
 v76 = Value.slice a78 n79 n80 ∧
 Keeps [n1, n2, n3, n18, n36] w72 w77 ∧
 ∀ (w81 : World),
 Evo [n18] w77 w81 →
 Under [n1, n2, n3, n18, n36] w81 →
 J19 (b65, IntKind.i64.wrap (x23 + 1), x66, (a78, n79, n80), ()) w81 ∧
 J20 (b65, IntKind.i64.wrap (x23 + 1), x66, (a78, n79, n80), ()) w81 <
 J20 (b22, x23, x24, (a25, n26, n27), ()) w28) ∧
 (decide (x23 < (↑m_1n : Int)) = false →
 ∃ (J82 : Int × (Option Addr × Nat × Nat) × Unit → World → Prop),
 (((!b22) = true →
 OpW Proofs.Try.prog
 (valueS
 (Instr.buildSlice 44 1
 #[(0, Value.agg #[Value.int IntKind.i64 x_0, Value.int IntKind.i64 x_1, Value.int IntKind.i64 x_2, Value.slice x_3a x_3n x_3c])]))
 w28 fun (v83 : Value) (w84 : World) =>
 ∃ (a85 : Option Addr),
 ∃ (n86 : Nat),
 ∃ (n87 : Nat),
 v83 = Value.slice a85 n86 n87 ∧
 Keeps [n1, n2, n3, n18] w28 w84 ∧
 OpW Proofs.Try.prog (builtin Builtin.append #[44, 44] 44 #[false, false] #[Value.slice a25 n26 n27, Value.slice a85 n86 n87]) w84
 fun (v88 : Value) (w89 : World) =>
 ∃ (a90 : Option Addr),
 ∃ (n91 : Nat),
 ∃ (n92 : Nat),
 v88 = Value.slice a90 n91 n92 ∧
 Keeps [n1, n2, n3, n18] w84 w89 ∧
 ∀ (w93 : World), Evo [n18] w89 w93 → Under [n1, n2, n3, n18] w93 → J82 (x24, (a90, n91, n92), ()) w93) ∧
 ((!b22) = false → J82 (x24, (a25, n26, n27), ()) w28)) ∧
 ∀ (x94 : Int) (a95 : Option Addr) (n96 n97 : Nat) (w98 : World),
 J82 (x94, (a95, n96, n97), ()) w98 →
 ∀ (w99 : World),
 Evo [n3] w98 w99 →
 Under [n1, n2, n3, n18] w99 →
 R (Ending.returned (Value.tuple #[Value.agg #[Value.int IntKind.i64 x94, Value.slice a95 n96 n97], Value.int IntKind.i64 0])) w99))))))))
theorem f29_eq (m_0 : Int) (m_1a : Option Addr) (m_1n : Nat) (m_1c : Nat) (x_0 : Int) (x_1 : Int) (x_2 : Int) (x_3a : Option Addr) (x_3n : Nat) (x_3c : Nat) (w : World) (R : Ending → World → Prop) : (fnF Go.Proofs.Try.prog h29 Go.Proofs.Try.f29 [Value.agg #[Value.int IntKind.i64 m_0, Value.slice m_1a m_1n m_1c], Value.agg #[Value.int IntKind.i64 x_0, Value.int IntKind.i64 x_1, Value.int IntKind.i64 x_2, Value.slice x_3a x_3n x_3c]] w R).den = f29_vc m_0 m_1a m_1n m_1c x_0 x_1 x_2 x_3a x_3n x_3c w R := by kernel_rfl
theorem f29_calls (m_0 : Int) (m_1a : Option Addr) (m_1n : Nat) (m_1c : Nat) (x_0 : Int) (x_1 : Int) (x_2 : Int) (x_3a : Option Addr) (x_3n : Nat) (x_3c : Nat) (w : World) (R : Ending → World → Prop) (h : f29_vc m_0 m_1a m_1n m_1c x_0 x_1 x_2 x_3a x_3n x_3c w R) : Calls Go.Proofs.Try.prog 29 (List.toArray [Value.agg #[Value.int IntKind.i64 m_0, Value.slice m_1a m_1n m_1c], Value.agg #[Value.int IntKind.i64 x_0, Value.int IntKind.i64 x_1, Value.int IntKind.i64 x_2, Value.slice x_3a x_3n x_3c]]) w R :=
 fn_sound (H := h29) (fn := Go.Proofs.Try.f29) (by kernel_rfl) (by kernel_rfl) (by kernel_rfl) ((f29_eq m_0 m_1a m_1n m_1c x_0 x_1 x_2 x_3a x_3n x_3c w R).mpr h)


/-! (*manciple/tasks.Table).Launch -/
def h30 : Hints := ⟨[3, 5], [50, 55, 64], [16, 20, 46, 48, 24, 29, 34, 40], [(8, [0, 1, 2, 3, 4, 5, 6, 7, 8, 9, 10]), (11, [0, 1, 2, 3, 4, 5, 6, 7, 8, 9, 10])], [], [], [], [], []⟩
def f30_vc (t : Option Addr) (x_0 : Int) (x_1 : Int) (x_2 : Int) (x_3a : Option Addr) (x_3n : Nat) (x_3c : Nat) (w : World) (R : Ending → World → Prop) : Prop :=
 ∀ (n1 : Nat),
 w.heap.size ≤ n1 →
 ∀ (w2 : World),
 Bel w w2 →
 Under [n1] w2 →
 Calls Proofs.Try.prog 24 #[Value.pointer t, Value.int IntKind.i64 x_0, Value.int IntKind.i64 x_1] w2 fun (e3 : Ending) (w4 : World) =>
 ∃ (x5 : Int),
 ∃ (x6 : Int),
 ∃ (x7 : Int),
 ∃ (a8 : Option Addr),
 ∃ (n9 : Nat),
 ∃ (n10 : Nat),
 ∃ (b11 : Bool),
 e3 = Ending.returned (Value.tuple #[Value.agg #[Value.int IntKind.i64 x5, Value.int IntKind.i64 x6, Value.int IntKind.i64 x7, Value.slice a8 n9 n10], Value.bool b11]) ∧
 Keeps [n1] w2 w4 ∧
 ∀ (n12 : Nat),
 w4.heap.size ≤ n12 →
 ∀ (w13 : World),
 Evo [n12] w4 w13 →
 Under [n1, n12] w13 →
 Calls Proofs.Try.prog 81 #[Value.pointer t] w13 fun (e14 : Ending) (w15 : World) =>
 ∃ (b16 : Bool),
 e14 = Ending.returned (Value.bool b16) ∧
 Keeps [n1, n12] w13 w15 ∧
 ((!b16) = true → R (Ending.returned (Value.int IntKind.i64 40)) w15) ∧
 ((!b16) = false →
 (decide (x_0 < 1) = true → R (Ending.returned (Value.int IntKind.i64 41)) w15) ∧
 (decide (x_0 < 1) = false →
 (decide (x_1 < 1) = true → R (Ending.returned (Value.int IntKind.i64 41)) w15) ∧
 (decide (x_1 < 1) = false →
 (decide (x_2 < 1) = true → R (Ending.returned (Value.int IntKind.i64 41)) w15) ∧
 (decide (x_2 < 1) = false →
 (((↑x_3n : Int) == 0) = true → R (Ending.returned (Value.int IntKind.i64 41)) w15) ∧
 (((↑x_3n : Int) == 0) = false →
 Calls Proofs.Try.prog 17 #[Value.slice x_3a x_3n x_3c] w15 fun (e17 : Ending) (w18 : World) =>
 ∃ (b19 : Bool),
 e17 = Ending.returned (Value.bool b19) ∧
 Keeps [n1, n12] w15 w18 ∧
 ((!b19) = true → R (Ending.returned (Value.int IntKind.i64 41)) w18) ∧
 ((!b19) = false →
 (b11 = true → R (Ending.returned (Value.int IntKind.i64 42)) w18) ∧
 (b11 = false →
 ∃ (ad20 : Addr),
 t = some ad20 ∧
 ∃ (r21 : Option Nat),
 Reads Proofs.Try.prog [] (Instr.loadAt 69 (Value.pointer (some (Addr.mk ad20.block (ad20.off + 1) none)))) w18 (Value.map r21) ∧
 ∃ (x22 : Int),
 Reads Proofs.Try.prog [] (Builtin.len_ #[69] 3 #[Value.map r21]) w18 (Value.int IntKind.i64 x22) ∧
 ∃ (ad23 : Addr),
 t = some ad23 ∧
 ∃ (x24 : Int),
 Reads Proofs.Try.prog [] (Instr.loadAt 3 (Value.pointer (some ad23))) w18 (Value.int IntKind.i64 x24) ∧
 (decide (x22 ≥ x24) = true → ∀ (w25 : World), Bel w18 w25 → Under [n1, n12] w25 → R (Ending.returned (Value.int IntKind.i64 32)) w25) ∧
 (decide (x22 ≥ x24) = false →
 ∀ (w26 : World),
 Bel w18 w26 →
 Under [n1, n12] w26 →
 Calls Proofs.Try.prog 79 #[Value.slice x_3a x_3n x_3c] w26 fun (e27 : Ending) (w28 : World) =>
 ∃ (a29 : Option Addr),
 ∃ (n30 : Nat),
 ∃ (n31 : Nat),
 e27 = Ending.returned (Value.slice a29 n30 n31) ∧
 Keeps [n1, n12] w26 w28 ∧
 ∃ (ad32 : Addr),
 t = some ad32 ∧
 ∃ (r33 : Option Nat),
 Reads Proofs.Try.prog [n1] (Instr.loadAt 69 (Value.pointer (some (Addr.mk ad32.block (ad32.off + 1) none))))
 w28 (Value.map r33) ∧
 ∀ (w34 : World),
 Evo [n1] w28 w34 →
 Under [n1, n12] w34 →
 OpW Proofs.Try.prog
 (skipS
 (Instr.mapUpdate 69 (Value.map r33)
 (Value.agg #[Value.int IntKind.i64 x_0, Value.int IntKind.i64 x_1])
 (Value.agg
 #[Value.int IntKind.i64 x_0, Value.int IntKind.i64 x_1, Value.int IntKind.i64 x_2,
 Value.slice a29 n30 n31])))
 w34 fun (v35 : Value) (w36 : World) =>
 Keeps [n1, n12] w34 w36 ∧ R (Ending.returned (Value.int IntKind.i64 0)) w36))))))))
theorem f30_eq (t : Option Addr) (x_0 : Int) (x_1 : Int) (x_2 : Int) (x_3a : Option Addr) (x_3n : Nat) (x_3c : Nat) (w : World) (R : Ending → World → Prop) : (fnF Go.Proofs.Try.prog h30 Go.Proofs.Try.f30 [Value.pointer t, Value.agg #[Value.int IntKind.i64 x_0, Value.int IntKind.i64 x_1, Value.int IntKind.i64 x_2, Value.slice x_3a x_3n x_3c]] w R).den = f30_vc t x_0 x_1 x_2 x_3a x_3n x_3c w R := by kernel_rfl
theorem f30_calls (t : Option Addr) (x_0 : Int) (x_1 : Int) (x_2 : Int) (x_3a : Option Addr) (x_3n : Nat) (x_3c : Nat) (w : World) (R : Ending → World → Prop) (h : f30_vc t x_0 x_1 x_2 x_3a x_3n x_3c w R) : Calls Go.Proofs.Try.prog 30 (List.toArray [Value.pointer t, Value.agg #[Value.int IntKind.i64 x_0, Value.int IntKind.i64 x_1, Value.int IntKind.i64 x_2, Value.slice x_3a x_3n x_3c]]) w R :=
 fn_sound (H := h30) (fn := Go.Proofs.Try.f30) (by kernel_rfl) (by kernel_rfl) (by kernel_rfl) ((f30_eq t x_0 x_1 x_2 x_3a x_3n x_3c w R).mpr h)


/-! (*manciple/tasks.Table).All -/
def h31 : Hints := ⟨[], [], [], [], [], [], [], [], []⟩
def f31_vc (t : Option Addr) (w : World) (R : Ending → World → Prop) : Prop :=
 Calls Proofs.Try.prog 84 #[Value.pointer t, Value.func (Fn.func 85) #[] #[]] w fun (e1 : Ending) (w2 : World) =>
 ∃ (a3 : Option Addr), ∃ (n4 : Nat), ∃ (n5 : Nat), e1 = Ending.returned (Value.slice a3 n4 n5) ∧ R (Ending.returned (Value.slice a3 n4 n5)) w2
theorem f31_eq (t : Option Addr) (w : World) (R : Ending → World → Prop) : (fnF Go.Proofs.Try.prog h31 Go.Proofs.Try.f31 [Value.pointer t] w R).den = f31_vc t w R := by kernel_rfl
theorem f31_calls (t : Option Addr) (w : World) (R : Ending → World → Prop) (h : f31_vc t w R) : Calls Go.Proofs.Try.prog 31 (List.toArray [Value.pointer t]) w R :=
 fn_sound (H := h31) (fn := Go.Proofs.Try.f31) (by kernel_rfl) (by kernel_rfl) (by kernel_rfl) ((f31_eq t w R).mpr h)


/-! (*manciple/tasks.Table).Long -/
def h32 : Hints := ⟨[], [7], [5], [], [], [], [], [], []⟩
def f32_vc (t : Option Addr) (w : World) (R : Ending → World → Prop) : Prop :=
 Calls Proofs.Try.prog 81 #[Value.pointer t] w fun (e1 : Ending) (w2 : World) =>
 ∃ (b3 : Bool),
 e1 = Ending.returned (Value.bool b3) ∧
 ((!b3) = true → R (Ending.returned (Value.int IntKind.i64 0)) w2) ∧
 ((!b3) = false →
 ∃ (ad4 : Addr),
 t = some ad4 ∧
 ∃ (r5 : Option Nat),
 Reads Proofs.Try.prog [] (Instr.loadAt 69 (Value.pointer (some (Addr.mk ad4.block (ad4.off + 1) none)))) w2 (Value.map r5) ∧
 ∃ (x6 : Int), Reads Proofs.Try.prog [] (Builtin.len_ #[69] 3 #[Value.map r5]) w2 (Value.int IntKind.i64 x6) ∧ R (Ending.returned (Value.int IntKind.i64 x6)) w2)
theorem f32_eq (t : Option Addr) (w : World) (R : Ending → World → Prop) : (fnF Go.Proofs.Try.prog h32 Go.Proofs.Try.f32 [Value.pointer t] w R).den = f32_vc t w R := by kernel_rfl
theorem f32_calls (t : Option Addr) (w : World) (R : Ending → World → Prop) (h : f32_vc t w R) : Calls Go.Proofs.Try.prog 32 (List.toArray [Value.pointer t]) w R :=
 fn_sound (H := h32) (fn := Go.Proofs.Try.f32) (by kernel_rfl) (by kernel_rfl) (by kernel_rfl) ((f32_eq t w R).mpr h)


/-! (*manciple/tasks.Table).Of -/
def h33 : Hints := ⟨[], [], [], [], [], [], [], [], []⟩
def f33_vc (t : Option Addr) (frame : Int) (w : World) (R : Ending → World → Prop) : Prop :=
 OpW Proofs.Try.prog (valueS (Instr.box 2 (Value.int IntKind.i64 frame))) w fun (v1 : Value) (w2 : World) =>
 ∃ (ad3 : Addr),
 v1 = Value.pointer (some ad3) ∧
 Calls Proofs.Try.prog 84 #[Value.pointer t, Value.func (Fn.func 86) #[] #[Value.pointer (some ad3)]] w2 fun (e4 : Ending) (w5 : World) =>
 ∃ (a6 : Option Addr), ∃ (n7 : Nat), ∃ (n8 : Nat), e4 = Ending.returned (Value.slice a6 n7 n8) ∧ R (Ending.returned (Value.slice a6 n7 n8)) w5
theorem f33_eq (t : Option Addr) (frame : Int) (w : World) (R : Ending → World → Prop) : (fnF Go.Proofs.Try.prog h33 Go.Proofs.Try.f33 [Value.pointer t, Value.int IntKind.i64 frame] w R).den = f33_vc t frame w R := by kernel_rfl
theorem f33_calls (t : Option Addr) (frame : Int) (w : World) (R : Ending → World → Prop) (h : f33_vc t frame w R) : Calls Go.Proofs.Try.prog 33 (List.toArray [Value.pointer t, Value.int IntKind.i64 frame]) w R :=
 fn_sound (H := h33) (fn := Go.Proofs.Try.f33) (by kernel_rfl) (by kernel_rfl) (by kernel_rfl) ((f33_eq t frame w R).mpr h)


/-! (manciple/mancipleref25.M).Of -/
def h34 : Hints := ⟨[3], [19, 28, 38], [13, 33, 24], [], [], [(3, ⟨[(7, .sl), (8, .int .i64)], []⟩)], [], [], []⟩
def f34_vc (m_0 : Int) (m_1a : Option Addr) (m_1n : Nat) (m_1c : Nat) (frame : Int) (agent : Int) (w : World) (R : Ending → World → Prop) : Prop :=
 ∀ (n1 : Nat),
 w.heap.size ≤ n1 →
 ∃ (J2 : (Option Addr × Nat × Nat) × Int × Unit → World → Prop),
 ∃ (J3 : (Option Addr × Nat × Nat) × Int × Unit → World → Nat),
 (∀ (w4 : World), Bel w w4 → Under [n1] w4 → J2 ((none, 0, 0), 0, ()) w4) ∧
 ∀ (a5 : Option Addr) (n6 n7 : Nat) (x8 : Int) (w9 : World),
 J2 ((a5, n6, n7), x8, ()) w9 →
 (decide (x8 < (↑m_1n : Int)) = true →
 ∃ (ad10 : Addr),
 Gives Proofs.Try.prog (Instr.indexAt 44 (Value.slice m_1a m_1n m_1c) (Value.int IntKind.i64 x8)) (Value.pointer (some ad10)) ∧
 ∃ (x11 : Int),
 Reads Proofs.Try.prog [] (Instr.loadAt 2 (Value.pointer (some ad10))) w9 (Value.int IntKind.i64 x11) ∧
 ((x11 == frame) = true →
 ∃ (ad12 : Addr),
 Gives Proofs.Try.prog (Instr.indexAt 44 (Value.slice m_1a m_1n m_1c) (Value.int IntKind.i64 x8)) (Value.pointer (some ad12)) ∧
 ∃ (x13 : Int),
 ∃ (x14 : Int),
 ∃ (x15 : Int),
 ∃ (a16 : Option Addr),
 ∃ (n17 : Nat),
 ∃ (n18 : Nat),
 Reads Proofs.Try.prog [] (Instr.loadAt 48 (Value.pointer (some ad12))) w9
 (Value.agg #[Value.int IntKind.i64 x13, Value.int IntKind.i64 x14, Value.int IntKind.i64 x15, Value.slice a16 n17 n18]) ∧
 OpW Proofs.Try.prog (valueS (Instr.buildSlice 44 1 #[(0, Value.agg #[Value.int IntKind.i64 x13, Value.int IntKind.i64 x14, Value.int IntKind.i64 x15, Value.slice a16 n17 n18])])) w9
 fun (v19 : Value) (w20 : World) =>
 ∃ (a21 : Option Addr),
 ∃ (n22 : Nat),
 ∃ (n23 : Nat),
 v19 = Value.slice a21 n22 n23 ∧
 Keeps [n1] w9 w20 ∧
 OpW Proofs.Try.prog (builtin Builtin.append #[44, 44] 44 #[false, false] #[Value.slice a5 n6 n7, Value.slice a21 n22 n23]) w20 fun (v24 : Value) (w25 : World) =>
 ∃ (a26 : Option Addr),
 ∃ (n27 : Nat),
 ∃ (n28 : Nat),
 v24 = Value.slice a26 n27 n28 ∧
 Keeps [n1] w20 w25 ∧ J2 ((a26, n27, n28), IntKind.i64.wrap (x8 + 1), ()) w25 ∧ J3 ((a26, n27, n28), IntKind.i64.wrap (x8 + 1), ()) w25 < J3 ((a5, n6, n7), x8, ()) w9) ∧
 ((x11 == frame) = false →
 ∃ (ad29 : Addr),
 Gives Proofs.Try.prog (Instr.indexAt 44 (Value.slice m_1a m_1n m_1c) (Value.int IntKind.i64 x8)) (Value.pointer (some ad29)) ∧
 ∃ (x30 : Int),
 Reads Proofs.Try.prog [] (Instr.loadAt 2 (Value.pointer (some (Addr.mk ad29.block (ad29.off + 2) none)))) w9 (Value.int IntKind.i64 x30) ∧
 ((x30 == agent) = true →
 ∃ (ad31 : Addr),
 Gives Proofs.Try.prog (Instr.indexAt 44 (Value.slice m_1a m_1n m_1c) (Value.int IntKind.i64 x8)) (Value.pointer (some ad31)) ∧
 ∃ (x32 : Int),
 ∃ (x33 : Int),
 ∃ (x34 : Int),
 ∃ (a35 : Option Addr),
 ∃ (n36 : Nat),
 ∃ (n37 : Nat),
 Reads Proofs.Try.prog [] (Instr.loadAt 48 (Value.pointer (some ad31))) w9
 (Value.agg #[Value.int IntKind.i64 x32, Value.int IntKind.i64 x33, Value.int IntKind.i64 x34, Value.slice a35 n36 n37]) ∧
 OpW Proofs.Try.prog (valueS (Instr.buildSlice 44 1 #[(0, Value.agg #[Value.int IntKind.i64 x32, Value.int IntKind.i64 x33, Value.int IntKind.i64 x34, Value.slice a35 n36 n37])]))
 w9 fun (v38 : Value) (w39 : World) =>
 ∃ (a40 : Option Addr),
 ∃ (n41 : Nat),
 ∃ (n42 : Nat),
 v38 = Value.slice a40 n41 n42 ∧
 Keeps [n1] w9 w39 ∧
 OpW Proofs.Try.prog (builtin Builtin.append #[44, 44] 44 #[false, false] #[Value.slice a5 n6 n7, Value.slice a40 n41 n42]) w39 fun (v43 : Value) (w44 : World) =>
 ∃ (a45 : Option Addr),
 ∃ (n46 : Nat),
 ∃ (n47 : Nat),
 v43 = Value.slice a45 n46 n47 ∧
 Keeps [n1] w39 w44 ∧
 J2 ((a45, n46, n47), IntKind.i64.wrap (x8 + 1), ()) w44 ∧ J3 ((a45, n46, n47), IntKind.i64.wrap (x8 + 1), ()) w44 < J3 ((a5, n6, n7), x8, ()) w9) ∧
 ((x30 == agent) = false → J2 ((a5, n6, n7), IntKind.i64.wrap (x8 + 1), ()) w9 ∧ J3 ((a5, n6, n7), IntKind.i64.wrap (x8 + 1), ()) w9 < J3 ((a5, n6, n7), x8, ()) w9))) ∧
 (decide (x8 < (↑m_1n : Int)) = false → R (Ending.returned (Value.slice a5 n6 n7)) w9)
theorem f34_eq (m_0 : Int) (m_1a : Option Addr) (m_1n : Nat) (m_1c : Nat) (frame : Int) (agent : Int) (w : World) (R : Ending → World → Prop) : (fnF Go.Proofs.Try.prog h34 Go.Proofs.Try.f34 [Value.agg #[Value.int IntKind.i64 m_0, Value.slice m_1a m_1n m_1c], Value.int IntKind.i64 frame, Value.int IntKind.i64 agent] w R).den = f34_vc m_0 m_1a m_1n m_1c frame agent w R := by kernel_rfl
theorem f34_calls (m_0 : Int) (m_1a : Option Addr) (m_1n : Nat) (m_1c : Nat) (frame : Int) (agent : Int) (w : World) (R : Ending → World → Prop) (h : f34_vc m_0 m_1a m_1n m_1c frame agent w R) : Calls Go.Proofs.Try.prog 34 (List.toArray [Value.agg #[Value.int IntKind.i64 m_0, Value.slice m_1a m_1n m_1c], Value.int IntKind.i64 frame, Value.int IntKind.i64 agent]) w R :=
 fn_sound (H := h34) (fn := Go.Proofs.Try.f34) (by kernel_rfl) (by kernel_rfl) (by kernel_rfl) ((f34_eq m_0 m_1a m_1n m_1c frame agent w R).mpr h)


/-! (*manciple/tasks.Table).On -/
def h35 : Hints := ⟨[], [], [], [], [], [], [], [], []⟩
def f35_vc (t : Option Addr) (agent : Int) (w : World) (R : Ending → World → Prop) : Prop :=
 OpW Proofs.Try.prog (valueS (Instr.box 2 (Value.int IntKind.i64 agent))) w fun (v1 : Value) (w2 : World) =>
 ∃ (ad3 : Addr),
 v1 = Value.pointer (some ad3) ∧
 Calls Proofs.Try.prog 84 #[Value.pointer t, Value.func (Fn.func 87) #[] #[Value.pointer (some ad3)]] w2 fun (e4 : Ending) (w5 : World) =>
 ∃ (a6 : Option Addr), ∃ (n7 : Nat), ∃ (n8 : Nat), e4 = Ending.returned (Value.slice a6 n7 n8) ∧ R (Ending.returned (Value.slice a6 n7 n8)) w5
theorem f35_eq (t : Option Addr) (agent : Int) (w : World) (R : Ending → World → Prop) : (fnF Go.Proofs.Try.prog h35 Go.Proofs.Try.f35 [Value.pointer t, Value.int IntKind.i64 agent] w R).den = f35_vc t agent w R := by kernel_rfl
theorem f35_calls (t : Option Addr) (agent : Int) (w : World) (R : Ending → World → Prop) (h : f35_vc t agent w R) : Calls Go.Proofs.Try.prog 35 (List.toArray [Value.pointer t, Value.int IntKind.i64 agent]) w R :=
 fn_sound (H := h35) (fn := Go.Proofs.Try.f35) (by kernel_rfl) (by kernel_rfl) (by kernel_rfl) ((f35_eq t agent w R).mpr h)


/-! (*manciple/tasks.Table).Sum -/
def h36 : Hints := ⟨[4, 5, 7, 8], [16], [15, 27], [], [], [(3, ⟨[(14, .int .i64)], [(4, .cons (.int .i64) (.cons (.int .i64) (.cons (.int .i64) (.cons (.int .i64) (.nil))))), (5, .cons (.int .i64) (.cons (.int .i64) (.cons (.int .i64) (.cons (.int .i64) (.nil)))))]⟩)], [], [], [(5, (.op 0 (.op 1 (.op 2 (.alt (.op 3 (.alt (.op 4 (.op 5 (.op 6 (.op 7 (.op 8 (.op 9 (.op 10 .nil))))))) (.op 8 (.op 4 (.op 5 (.op 6 (.op 7 (.op 9 (.op 10 .nil))))))))) (.op 8 (.op 3 (.op 4 (.op 5 (.op 6 (.op 7 (.op 9 (.op 10 .nil)))))))))))))]⟩
def f36_vc (t : Option Addr) (frame : Int) (w : World) (R : Ending → World → Prop) : Prop :=
 ∀ (n1 : Nat),
 w.heap.size ≤ n1 →
 ∀ (n2 : Nat),
 w.heap.size ≤ n2 →
 ∀ (w3 : World),
 Bel w w3 →
 Under [n1, n2] w3 →
 Calls Proofs.Try.prog 33 #[Value.pointer t, Value.int IntKind.i64 frame] w3 fun (e4 : Ending) (w5 : World) =>
 ∃ (a6 : Option Addr),
 ∃ (n7 : Nat),
 ∃ (n8 : Nat),
 e4 = Ending.returned (Value.slice a6 n7 n8) ∧
 Keeps [n1, n2] w3 w5 ∧
 ∃ (J9 : Int × Int × Int × Int × Int × Int × Int × Int × Int × Unit → World → Prop),
 ∃ (J10 : Int × Int × Int × Int × Int × Int × Int × Int × Int × Unit → World → Nat),
 J9 (0, 0, 0, 0, 0, 0, 0, 0, 0, ()) w5 ∧
 ∀ (x11 x12 x13 x14 x15 x16 x17 x18 x19 : Int) (w20 : World),
 J9 (x11, x12, x13, x14, x15, x16, x17, x18, x19, ()) w20 →
 (decide (x11 < (↑n7 : Int)) = true →
 ∃ (ad21 : Addr),
 Gives Proofs.Try.prog (Instr.indexAt 44 (Value.slice a6 n7 n8) (Value.int IntKind.i64 x11)) (Value.pointer (some ad21)) ∧
 ∃ (x22 : Int),
 ∃ (x23 : Int),
 ∃ (x24 : Int),
 ∃ (a25 : Option Addr),
 ∃ (n26 : Nat),
 ∃ (n27 : Nat),
 Reads Proofs.Try.prog [] (Instr.loadAt 48 (Value.pointer (some ad21))) w20
 (Value.agg #[Value.int IntKind.i64 x22, Value.int IntKind.i64 x23, Value.int IntKind.i64 x24, Value.slice a25 n26 n27]) ∧
 ∀ (n28 : Nat),
 w20.heap.size ≤ n28 →
 (∀ (w29 : World),
 Evo [n28] w20 w29 →
 Under [n1, n2, n28] w29 →
 Calls Proofs.Try.prog 50 #[Value.slice a25 n26 n27] w29 fun (e30 : Ending) (w31 : World) =>
 ∃ (x32 : Int),
 ∃ (x33 : Int),
 ∃ (x34 : Int),
 ∃ (x35 : Int),
 e30 = Ending.returned (Value.agg #[Value.int IntKind.i64 x32, Value.int IntKind.i64 x33, Value.int IntKind.i64 x34, Value.int IntKind.i64 x35]) ∧
 Keeps [n1, n2, n28] w29 w31 ∧
 (Calls Proofs.Try.prog 49
 #[Value.agg #[Value.int IntKind.i64 x16, Value.int IntKind.i64 x17, Value.int IntKind.i64 x18, Value.int IntKind.i64 x19],
 Value.agg #[Value.int IntKind.i64 x32, Value.int IntKind.i64 x33, Value.int IntKind.i64 x34, Value.int IntKind.i64 x35]]
 w31 fun (e36 : Ending) (w37 : World) =>
 ∃ (x38 : Int),
 ∃ (x39 : Int),
 ∃ (x40 : Int),
 ∃ (x41 : Int),
 ∃ (b42 : Bool),
 e36 =
 Ending.returned
 (Value.tuple
 #[Value.agg #[Value.int IntKind.i64 x38, Value.int IntKind.i64 x39, Value.int IntKind.i64 x40, Value.int IntKind.i64 x41],
 Value.bool b42]) ∧
 Keeps [n1, n2, n28] w31 w37 ∧
 ∀ (n43 : Nat),
 w37.heap.size ≤ n43 →
 ((!b42) = true →
 ∀ (w44 : World),
 Evo [n1, n43] w37 w44 →
 Under [n1, n2, n28, n43] w44 →
 R
 (Ending.returned
 (Value.agg #[Value.int IntKind.i64 0, Value.int IntKind.i64 0, Value.int IntKind.i64 0, Value.int IntKind.i64 0]))
 w44) ∧
 ((!b42) = false →
 ∀ (w45 : World),
 Evo [n2, n43] w37 w45 →
 Under [n1, n2, n28, n43] w45 →
 J9 (IntKind.i64.wrap (x11 + 1), x12, x13, x14, x15, x38, x39, x40, x41, ()) w45 ∧
 J10 (IntKind.i64.wrap (x11 + 1), x12, x13, x14, x15, x38, x39, x40, x41, ()) w45 <
 J10 (x11, x12, x13, x14, x15, x16, x17, x18, x19, ()) w20)) ∧
 ∀ (n46 : Nat),
 w31.heap.size ≤ n46 →
 ∀ (w47 : World),
 Bel w31 w47 →
 Under [n1, n2, n28, n46] w47 →
 Calls Proofs.Try.prog 49
 #[Value.agg #[Value.int IntKind.i64 x16, Value.int IntKind.i64 x17, Value.int IntKind.i64 x18, Value.int IntKind.i64 x19],
 Value.agg #[Value.int IntKind.i64 x32, Value.int IntKind.i64 x33, Value.int IntKind.i64 x34, Value.int IntKind.i64 x35]]
 w47 fun (e48 : Ending) (w49 : World) =>
 ∃ (x50 : Int),
 ∃ (x51 : Int),
 ∃ (x52 : Int),
 ∃ (x53 : Int),
 ∃ (b54 : Bool),
 e48 =
 Ending.returned
 (Value.tuple
 #[Value.agg #[Value.int IntKind.i64 x50, Value.int IntKind.i64 x51, Value.int IntKind.i64 x52, Value.int IntKind.i64 x53],
 Value.bool b54]) ∧
 Keeps [n1, n2, n28, n46] w47 w49 ∧
 ((!b54) = true →
 ∀ (w55 : World),
 Evo [n1, n46] w49 w55 →
 Under [n1, n2, n28, n46] w55 →
 R
 (Ending.returned
 (Value.agg #[Value.int IntKind.i64 0, Value.int IntKind.i64 0, Value.int IntKind.i64 0, Value.int IntKind.i64 0]))
 w55) ∧
 ((!b54) = false →
 ∀ (w56 : World),
 Evo [n2, n46] w49 w56 →
 Under [n1, n2, n28, n46] w56 →
 J9 (IntKind.i64.wrap (x11 + 1), x12, x13, x14, x15, x50, x51, x52, x53, ()) w56 ∧
 J10 (IntKind.i64.wrap (x11 + 1), x12, x13, x14, x15, x50, x51, x52, x53, ()) w56 <
 J10 (x11, x12, x13, x14, x15, x16, x17, x18, x19, ()) w20)) ∧
 ∀ (n57 : Nat),
 w20.heap.size ≤ n57 →
 ∀ (w58 : World),
 Evo [n28] w20 w58 →
 Under [n1, n2, n28, n57] w58 →
 Calls Proofs.Try.prog 50 #[Value.slice a25 n26 n27] w58 fun (e59 : Ending) (w60 : World) =>
 ∃ (x61 : Int),
 ∃ (x62 : Int),
 ∃ (x63 : Int),
 ∃ (x64 : Int),
 e59 = Ending.returned (Value.agg #[Value.int IntKind.i64 x61, Value.int IntKind.i64 x62, Value.int IntKind.i64 x63, Value.int IntKind.i64 x64]) ∧
 Keeps [n1, n2, n28, n57] w58 w60 ∧
 Calls Proofs.Try.prog 49
 #[Value.agg #[Value.int IntKind.i64 x16, Value.int IntKind.i64 x17, Value.int IntKind.i64 x18, Value.int IntKind.i64 x19],
 Value.agg #[Value.int IntKind.i64 x61, Value.int IntKind.i64 x62, Value.int IntKind.i64 x63, Value.int IntKind.i64 x64]]
 w60 fun (e65 : Ending) (w66 : World) =>
 ∃ (x67 : Int),
 ∃ (x68 : Int),
 ∃ (x69 : Int),
 ∃ (x70 : Int),
 ∃ (b71 : Bool),
 e65 =
 Ending.returned
 (Value.tuple
 #[Value.agg #[Value.int IntKind.i64 x67, Value.int IntKind.i64 x68, Value.int IntKind.i64 x69, Value.int IntKind.i64 x70],
 Value.bool b71]) ∧
 Keeps [n1, n2, n28, n57] w60 w66 ∧
 ((!b71) = true →
 ∀ (w72 : World),
 Evo [n1, n57] w66 w72 →
 Under [n1, n2, n28, n57] w72 →
 R
 (Ending.returned
 (Value.agg #[Value.int IntKind.i64 0, Value.int IntKind.i64 0, Value.int IntKind.i64 0, Value.int IntKind.i64 0]))
 w72) ∧
 ((!b71) = false →
 ∀ (w73 : World),
 Evo [n2, n57] w66 w73 →
 Under [n1, n2, n28, n57] w73 →
 J9 (IntKind.i64.wrap (x11 + 1), x12, x13, x14, x15, x67, x68, x69, x70, ()) w73 ∧
 J10 (IntKind.i64.wrap (x11 + 1), x12, x13, x14, x15, x67, x68, x69, x70, ()) w73 <
 J10 (x11, x12, x13, x14, x15, x16, x17, x18, x19, ()) w20)) ∧
 (decide (x11 < (↑n7 : Int)) = false →
 ∀ (w74 : World),
 Evo [n1] w20 w74 → Under [n1, n2] w74 → R (Ending.returned (Value.agg #[Value.int IntKind.i64 x16, Value.int IntKind.i64 x17, Value.int IntKind.i64 x18, Value.int IntKind.i64 x19])) w74)
theorem f36_eq (t : Option Addr) (frame : Int) (w : World) (R : Ending → World → Prop) : (fnF Go.Proofs.Try.prog h36 Go.Proofs.Try.f36 [Value.pointer t, Value.int IntKind.i64 frame] w R).den = f36_vc t frame w R := by kernel_rfl
theorem f36_calls (t : Option Addr) (frame : Int) (w : World) (R : Ending → World → Prop) (h : f36_vc t frame w R) : Calls Go.Proofs.Try.prog 36 (List.toArray [Value.pointer t, Value.int IntKind.i64 frame]) w R :=
 fn_sound (H := h36) (fn := Go.Proofs.Try.f36) (by kernel_rfl) (by kernel_rfl) (by kernel_rfl) ((f36_eq t frame w R).mpr h)


/-! (manciple/mancipleref25.M).Sum -/
def h37 : Hints := ⟨[2, 4, 5, 7], [19, 29], [13, 23, 37], [], [], [(3, ⟨[(6, .int .i64)], [(4, .cons (.int .i64) (.cons (.int .i64) (.cons (.int .i64) (.cons (.int .i64) (.nil))))), (5, .cons (.int .i64) (.cons (.int .i64) (.cons (.int .i64) (.cons (.int .i64) (.nil)))))]⟩)], [], [], [(6, (.op 0 (.op 1 (.op 2 (.op 3 (.op 4 (.op 5 (.op 6 (.alt (.op 7 (.alt (.op 8 (.op 9 (.op 10 (.op 11 (.op 12 (.op 13 (.op 14 .nil))))))) (.op 12 (.op 8 (.op 9 (.op 10 (.op 11 (.op 13 (.op 14 .nil))))))))) (.op 12 (.op 7 (.op 8 (.op 9 (.op 10 (.op 11 (.op 13 (.op 14 .nil)))))))))))))))))]⟩
def f37_vc (m_0 : Int) (m_1a : Option Addr) (m_1n : Nat) (m_1c : Nat) (frame : Int) (w : World) (R : Ending → World → Prop) : Prop :=
 ∀ (n1 : Nat),
 w.heap.size ≤ n1 →
 ∀ (n2 : Nat),
 w.heap.size ≤ n2 →
 ∀ (n3 : Nat),
 w.heap.size ≤ n3 →
 ∃ (J4 : Int × Int × Int × Int × Int × Int × Int × Int × Int × Unit → World → Prop),
 ∃ (J5 : Int × Int × Int × Int × Int × Int × Int × Int × Int × Unit → World → Nat),
 (∀ (w6 : World), Bel w w6 → Under [n1, n2, n3] w6 → J4 (0, 0, 0, 0, 0, 0, 0, 0, 0, ()) w6) ∧
 ∀ (x7 x8 x9 x10 x11 x12 x13 x14 x15 : Int) (w16 : World),
 J4 (x7, x8, x9, x10, x11, x12, x13, x14, x15, ()) w16 →
 (decide (x7 < (↑m_1n : Int)) = true →
 ∃ (ad17 : Addr),
 Gives Proofs.Try.prog (Instr.indexAt 44 (Value.slice m_1a m_1n m_1c) (Value.int IntKind.i64 x7)) (Value.pointer (some ad17)) ∧
 ∃ (x18 : Int),
 Reads Proofs.Try.prog [] (Instr.loadAt 2 (Value.pointer (some ad17))) w16 (Value.int IntKind.i64 x18) ∧
 ((x18 == frame) = true →
 ∃ (ad19 : Addr),
 Gives Proofs.Try.prog (Instr.indexAt 44 (Value.slice m_1a m_1n m_1c) (Value.int IntKind.i64 x7)) (Value.pointer (some ad19)) ∧
 ∃ (a20 : Option Addr),
 ∃ (n21 : Nat),
 ∃ (n22 : Nat),
 Reads Proofs.Try.prog [] (Instr.loadAt 23 (Value.pointer (some (Addr.mk ad19.block (ad19.off + 3) none)))) w16 (Value.slice a20 n21 n22) ∧
 (∀ (w23 : World),
 Bel w16 w23 →
 Under [n1, n2, n3] w23 →
 Calls Proofs.Try.prog 89 #[Value.slice a20 n21 n22] w23 fun (e24 : Ending) (w25 : World) =>
 ∃ (x26 : Int),
 ∃ (x27 : Int),
 ∃ (x28 : Int),
 ∃ (x29 : Int),
 e24 = Ending.returned (Value.agg #[Value.int IntKind.i64 x26, Value.int IntKind.i64 x27, Value.int IntKind.i64 x28, Value.int IntKind.i64 x29]) ∧
 Keeps [n1, n2, n3] w23 w25 ∧
 (Calls Proofs.Try.prog 88
 #[Value.agg #[Value.int IntKind.i64 x12, Value.int IntKind.i64 x13, Value.int IntKind.i64 x14, Value.int IntKind.i64 x15],
 Value.agg #[Value.int IntKind.i64 x26, Value.int IntKind.i64 x27, Value.int IntKind.i64 x28, Value.int IntKind.i64 x29]]
 w25 fun (e30 : Ending) (w31 : World) =>
 ∃ (x32 : Int),
 ∃ (x33 : Int),
 ∃ (x34 : Int),
 ∃ (x35 : Int),
 ∃ (b36 : Bool),
 e30 =
 Ending.returned
 (Value.tuple
 #[Value.agg #[Value.int IntKind.i64 x32, Value.int IntKind.i64 x33, Value.int IntKind.i64 x34, Value.int IntKind.i64 x35], Value.bool b36]) ∧
 Keeps [n1, n2, n3] w25 w31 ∧
 ∀ (n37 : Nat),
 w31.heap.size ≤ n37 →
 ((!b36) = true →
 ∀ (w38 : World),
 Evo [n2, n37] w31 w38 →
 Under [n1, n2, n3, n37] w38 →
 R (Ending.returned (Value.agg #[Value.int IntKind.i64 0, Value.int IntKind.i64 0, Value.int IntKind.i64 0, Value.int IntKind.i64 0]))
 w38) ∧
 ((!b36) = false →
 ∀ (w39 : World),
 Evo [n3, n37] w31 w39 →
 Under [n1, n2, n3, n37] w39 →
 J4 (IntKind.i64.wrap (x7 + 1), x8, x9, x10, x11, x32, x33, x34, x35, ()) w39 ∧
 J5 (IntKind.i64.wrap (x7 + 1), x8, x9, x10, x11, x32, x33, x34, x35, ()) w39 <
 J5 (x7, x8, x9, x10, x11, x12, x13, x14, x15, ()) w16)) ∧
 ∀ (n40 : Nat),
 w25.heap.size ≤ n40 →
 ∀ (w41 : World),
 Bel w25 w41 →
 Under [n1, n2, n3, n40] w41 →
 Calls Proofs.Try.prog 88
 #[Value.agg #[Value.int IntKind.i64 x12, Value.int IntKind.i64 x13, Value.int IntKind.i64 x14, Value.int IntKind.i64 x15],
 Value.agg #[Value.int IntKind.i64 x26, Value.int IntKind.i64 x27, Value.int IntKind.i64 x28, Value.int IntKind.i64 x29]]
 w41 fun (e42 : Ending) (w43 : World) =>
 ∃ (x44 : Int),
 ∃ (x45 : Int),
 ∃ (x46 : Int),
 ∃ (x47 : Int),
 ∃ (b48 : Bool),
 e42 =
 Ending.returned
 (Value.tuple
 #[Value.agg #[Value.int IntKind.i64 x44, Value.int IntKind.i64 x45, Value.int IntKind.i64 x46, Value.int IntKind.i64 x47],
 Value.bool b48]) ∧
 Keeps [n1, n2, n3, n40] w41 w43 ∧
 ((!b48) = true →
 ∀ (w49 : World),
 Evo [n2, n40] w43 w49 →
 Under [n1, n2, n3, n40] w49 →
 R
 (Ending.returned
 (Value.agg #[Value.int IntKind.i64 0, Value.int IntKind.i64 0, Value.int IntKind.i64 0, Value.int IntKind.i64 0]))
 w49) ∧
 ((!b48) = false →
 ∀ (w50 : World),
 Evo [n3, n40] w43 w50 →
 Under [n1, n2, n3, n40] w50 →
 J4 (IntKind.i64.wrap (x7 + 1), x8, x9, x10, x11, x44, x45, x46, x47, ()) w50 ∧
 J5 (IntKind.i64.wrap (x7 + 1), x8, x9, x10, x11, x44, x45, x46, x47, ()) w50 <
 J5 (x7, x8, x9, x10, x11, x12, x13, x14, x15, ()) w16)) ∧
 ∀ (n51 : Nat),
 w16.heap.size ≤ n51 →
 Reads Proofs.Try.prog [] (Instr.loadAt 23 (Value.pointer (some (Addr.mk ad19.block (ad19.off + 3) none)))) w16 (Value.slice a20 n21 n22) ∧
 ∀ (w52 : World),
 Bel w16 w52 →
 Under [n1, n2, n3, n51] w52 →
 Calls Proofs.Try.prog 89 #[Value.slice a20 n21 n22] w52 fun (e53 : Ending) (w54 : World) =>
 ∃ (x55 : Int),
 ∃ (x56 : Int),
 ∃ (x57 : Int),
 ∃ (x58 : Int),
 e53 = Ending.returned (Value.agg #[Value.int IntKind.i64 x55, Value.int IntKind.i64 x56, Value.int IntKind.i64 x57, Value.int IntKind.i64 x58]) ∧
 Keeps [n1, n2, n3, n51] w52 w54 ∧
 Calls Proofs.Try.prog 88
 #[Value.agg #[Value.int IntKind.i64 x12, Value.int IntKind.i64 x13, Value.int IntKind.i64 x14, Value.int IntKind.i64 x15],
 Value.agg #[Value.int IntKind.i64 x55, Value.int IntKind.i64 x56, Value.int IntKind.i64 x57, Value.int IntKind.i64 x58]]
 w54 fun (e59 : Ending) (w60 : World) =>
 ∃ (x61 : Int),
 ∃ (x62 : Int),
 ∃ (x63 : Int),
 ∃ (x64 : Int),
 ∃ (b65 : Bool),
 e59 =
 Ending.returned
 (Value.tuple
 #[Value.agg #[Value.int IntKind.i64 x61, Value.int IntKind.i64 x62, Value.int IntKind.i64 x63, Value.int IntKind.i64 x64], Value.bool b65]) ∧
 Keeps [n1, n2, n3, n51] w54 w60 ∧
 ((!b65) = true →
 ∀ (w66 : World),
 Evo [n2, n51] w60 w66 →
 Under [n1, n2, n3, n51] w66 →
 R (Ending.returned (Value.agg #[Value.int IntKind.i64 0, Value.int IntKind.i64 0, Value.int IntKind.i64 0, Value.int IntKind.i64 0]))
 w66) ∧
 ((!b65) = false →
 ∀ (w67 : World),
 Evo [n3, n51] w60 w67 →
 Under [n1, n2, n3, n51] w67 →
 J4 (IntKind.i64.wrap (x7 + 1), x8, x9, x10, x11, x61, x62, x63, x64, ()) w67 ∧
 J5 (IntKind.i64.wrap (x7 + 1), x8, x9, x10, x11, x61, x62, x63, x64, ()) w67 <
 J5 (x7, x8, x9, x10, x11, x12, x13, x14, x15, ()) w16)) ∧
 ((x18 == frame) = false →
 J4 (IntKind.i64.wrap (x7 + 1), x8, x9, x10, x11, x12, x13, x14, x15, ()) w16 ∧
 J5 (IntKind.i64.wrap (x7 + 1), x8, x9, x10, x11, x12, x13, x14, x15, ()) w16 < J5 (x7, x8, x9, x10, x11, x12, x13, x14, x15, ()) w16)) ∧
 (decide (x7 < (↑m_1n : Int)) = false →
 ∀ (w68 : World), Evo [n2] w16 w68 → Under [n1, n2, n3] w68 → R (Ending.returned (Value.agg #[Value.int IntKind.i64 x12, Value.int IntKind.i64 x13, Value.int IntKind.i64 x14, Value.int IntKind.i64 x15])) w68)
theorem f37_eq (m_0 : Int) (m_1a : Option Addr) (m_1n : Nat) (m_1c : Nat) (frame : Int) (w : World) (R : Ending → World → Prop) : (fnF Go.Proofs.Try.prog h37 Go.Proofs.Try.f37 [Value.agg #[Value.int IntKind.i64 m_0, Value.slice m_1a m_1n m_1c], Value.int IntKind.i64 frame] w R).den = f37_vc m_0 m_1a m_1n m_1c frame w R := by kernel_rfl
theorem f37_calls (m_0 : Int) (m_1a : Option Addr) (m_1n : Nat) (m_1c : Nat) (frame : Int) (w : World) (R : Ending → World → Prop) (h : f37_vc m_0 m_1a m_1n m_1c frame w R) : Calls Go.Proofs.Try.prog 37 (List.toArray [Value.agg #[Value.int IntKind.i64 m_0, Value.slice m_1a m_1n m_1c], Value.int IntKind.i64 frame]) w R :=
 fn_sound (H := h37) (fn := Go.Proofs.Try.f37) (by kernel_rfl) (by kernel_rfl) (by kernel_rfl) ((f37_eq m_0 m_1a m_1n m_1c frame w R).mpr h)


/-! (*manciple/tasks.Table).made -/
def h81 : Hints := ⟨[], [4, 7, 10], [5], [], [], [], [], [], []⟩
def f81_vc (t : Option Addr) (w : World) (R : Ending → World → Prop) : Prop :=
 ∃ (b1 : Bool),
 Gives Proofs.Try.prog (binOpS BinOp.neq 42 (Operand.tmp 3) (Operand.const (Value.pointer none)) (Value.pointer t) (Value.pointer none)) (Value.bool b1) ∧
 (b1 = true →
 ∃ (ad2 : Addr),
 t = some ad2 ∧
 ∃ (r3 : Option Nat),
 Reads Proofs.Try.prog [] (Instr.loadAt 69 (Value.pointer (some (Addr.mk ad2.block (ad2.off + 1) none)))) w (Value.map r3) ∧
 ∃ (b4 : Bool), Gives Proofs.Try.prog (binOpS BinOp.neq 69 (Operand.tmp 9) (Operand.const (Value.map none)) (Value.map r3) (Value.map none)) (Value.bool b4) ∧ R (Ending.returned (Value.bool b4)) w) ∧
 (b1 = false → R (Ending.returned (Value.bool false)) w)
theorem f81_eq (t : Option Addr) (w : World) (R : Ending → World → Prop) : (fnF Go.Proofs.Try.prog h81 Go.Proofs.Try.f81 [Value.pointer t] w R).den = f81_vc t w R := by kernel_rfl
theorem f81_calls (t : Option Addr) (w : World) (R : Ending → World → Prop) (h : f81_vc t w R) : Calls Go.Proofs.Try.prog 81 (List.toArray [Value.pointer t]) w R :=
 fn_sound (H := h81) (fn := Go.Proofs.Try.f81) (by kernel_rfl) (by kernel_rfl) (by kernel_rfl) ((f81_eq t w R).mpr h)


/-! (*manciple/tasks.Table).those -/
def h84 : Hints := ⟨[7], [11, 21], [9, 21], [], [], [(4, ⟨[(5, .sl)], []⟩)], [], [(15, .cons (.agg (.cons (.int .i64) (.cons (.int .i64) (.nil)))) (.cons (.agg (.cons (.int .i64) (.cons (.int .i64) (.cons (.int .i64) (.cons (.sl) (.nil)))))) (.nil))), (17, .cons (.agg (.cons (.int .i64) (.cons (.int .i64) (.nil)))) (.cons (.agg (.cons (.int .i64) (.cons (.int .i64) (.cons (.int .i64) (.cons (.sl) (.nil)))))) (.nil)))], []⟩
def f84_vc (t : Option Addr) (which : Value) (w : World) (R : Ending → World → Prop) : Prop :=
 Calls Proofs.Try.prog 81 #[Value.pointer t] w fun (e1 : Ending) (w2 : World) =>
 ∃ (b3 : Bool),
 e1 = Ending.returned (Value.bool b3) ∧
 (b3 = true →
 ∃ (ad4 : Addr),
 t = some ad4 ∧
 ∃ (r5 : Option Nat),
 Reads Proofs.Try.prog [] (Instr.loadAt 69 (Value.pointer (some (Addr.mk ad4.block (ad4.off + 1) none)))) w2 (Value.map r5) ∧
 OpW Proofs.Try.prog (valueS (Instr.range 69 (Value.map r5))) w2 fun (v6 : Value) (w7 : World) =>
 ∃ (ad8 : Addr),
 v6 = Value.pointer (some ad8) ∧
 ∃ (J9 : (Option Addr × Nat × Nat) × Unit → World → Prop),
 ∃ (J10 : (Option Addr × Nat × Nat) × Unit → World → Nat),
 J9 ((none, 0, 0), ()) w7 ∧
 ∀ (a11 : Option Addr) (n12 n13 : Nat) (w14 : World),
 J9 ((a11, n12, n13), ()) w14 →
 OpW Proofs.Try.prog (valueS (Instr.next (Value.pointer (some ad8)) false 0)) w14 fun (v15 : Value) (w16 : World) =>
 (v15 = Value.tuple #[Value.bool false] ∨
 ∃ (x :
 (nextShape
 (Hints.mk [7] [11, 21] [9, 21] [] [] [(4, LH.mk [(5, Sh.sl)] [])] []
 [(15,
 ((Sh.int IntKind.i64).cons ((Sh.int IntKind.i64).cons Sh.nil)).agg.cons
 (((Sh.int IntKind.i64).cons ((Sh.int IntKind.i64).cons ((Sh.int IntKind.i64).cons (Sh.sl.cons Sh.nil)))).agg.cons Sh.nil)),
 (17,
 ((Sh.int IntKind.i64).cons ((Sh.int IntKind.i64).cons Sh.nil)).agg.cons
 (((Sh.int IntKind.i64).cons ((Sh.int IntKind.i64).cons ((Sh.int IntKind.i64).cons (Sh.sl.cons Sh.nil)))).agg.cons Sh.nil))]
 [])
 #[Oper.mk (some 15) (Op.next (Operand.tmp 14) false) 0 "tasks.go:76" #[] none, Oper.mk (some 16) (Op.extract (Operand.tmp 15) 0) 4 "tasks.go:76" #[Edge.mk 0 Ground.data] none][0]).T),
 v15 =
 Value.tuple
 #[Value.bool true, Value.agg #[Value.int IntKind.i64 x.fst.fst, Value.int IntKind.i64 x.fst.snd.fst],
 Value.agg
 #[Value.int IntKind.i64 x.snd.fst.fst, Value.int IntKind.i64 x.snd.fst.snd.fst, Value.int IntKind.i64 x.snd.fst.snd.snd.fst,
 Value.slice x.snd.fst.snd.snd.snd.fst.fst x.snd.fst.snd.snd.snd.fst.snd.fst x.snd.fst.snd.snd.snd.fst.snd.snd]]) ∧
 (v15 = Value.tuple #[Value.bool false] →
 Calls Proofs.Try.prog 126 #[Value.slice a11 n12 n13, Value.func (Fn.func 127) #[] #[]] w16 fun (e17 : Ending) (w18 : World) =>
 e17 = Ending.returned (Value.tuple #[]) ∧ R (Ending.returned (Value.slice a11 n12 n13)) w18) ∧
 ∀ (x19 x20 x21 x22 x23 : Int) (a24 : Option Addr) (n25 n26 : Nat),
 v15 =
 Value.tuple
 #[Value.bool true, Value.agg #[Value.int IntKind.i64 x19, Value.int IntKind.i64 x20],
 Value.agg #[Value.int IntKind.i64 x21, Value.int IntKind.i64 x22, Value.int IntKind.i64 x23, Value.slice a24 n25 n26]] →
 OpW Proofs.Try.prog ((Instr.entry (Value.pointer (some ad8))).bind fun (__do_lift : Value) => pure (Next.value __do_lift)) w16 fun (v27 : Value) (w28 : World) =>
 ∃ (x29 : Int),
 ∃ (x30 : Int),
 ∃ (x31 : Int),
 ∃ (x32 : Int),
 ∃ (x33 : Int),
 ∃ (a34 : Option Addr),
 ∃ (n35 : Nat),
 ∃ (n36 : Nat),
 v27 =
 Value.tuple
 #[Value.agg #[Value.int IntKind.i64 x29, Value.int IntKind.i64 x30],
 Value.agg #[Value.int IntKind.i64 x31, Value.int IntKind.i64 x32, Value.int IntKind.i64 x33, Value.slice a34 n35 n36]] ∧
 ∀ (n37 : Nat),
 w28.heap.size ≤ n37 →
 ∀ (w38 : World),
 Evo [n37] w28 w38 →
 Under [n37] w38 →
 OpW Proofs.Try.prog (invokeS which #[Value.agg #[Value.int IntKind.i64 x31, Value.int IntKind.i64 x32, Value.int IntKind.i64 x33, Value.slice a34 n35 n36]]) w38
 fun (v39 : Value) (w40 : World) =>
 ∃ (b41 : Bool),
 v39 = Value.bool b41 ∧
 Keeps [n37] w38 w40 ∧
 (b41 = true →
 Calls Proofs.Try.prog 79 #[Value.slice a34 n35 n36] w40 fun (e42 : Ending) (w43 : World) =>
 ∃ (a44 : Option Addr),
 ∃ (n45 : Nat),
 ∃ (n46 : Nat),
 e42 = Ending.returned (Value.slice a44 n45 n46) ∧
 Keeps [n37] w40 w43 ∧
 ∀ (w47 : World),
 Evo [n37] w43 w47 →
 Under [n37] w47 →
 OpW Proofs.Try.prog
 (valueS
 (Instr.buildSlice 44 1
 #[(0, Value.agg #[Value.int IntKind.i64 x31, Value.int IntKind.i64 x32, Value.int IntKind.i64 x33, Value.slice a44 n45 n46])]))
 w47 fun (v48 : Value) (w49 : World) =>
 ∃ (a50 : Option Addr),
 ∃ (n51 : Nat),
 ∃ (n52 : Nat),
 v48 = Value.slice a50 n51 n52 ∧
 Keeps [n37] w47 w49 ∧
 OpW Proofs.Try.prog
 (builtin Builtin.append #[44, 44] 44 #[false, false] #[Value.slice a11 n12 n13, Value.slice a50 n51 n52]) w49
 fun (v53 : Value) (w54 : World) =>
 ∃ (a55 : Option Addr),
 ∃ (n56 : Nat),
 ∃ (n57 : Nat),
 v53 = Value.slice a55 n56 n57 ∧
 Keeps [n37] w49 w54 ∧
 J9 ((a55, n56, n57), ()) w54 ∧ J10 ((a55, n56, n57), ()) w54 < J10 ((a11, n12, n13), ()) w14) ∧
 (b41 = false → J9 ((a11, n12, n13), ()) w40 ∧ J10 ((a11, n12, n13), ()) w40 < J10 ((a11, n12, n13), ()) w14)) ∧
 (b3 = false → Calls Proofs.Try.prog 126 #[Value.slice none 0 0, Value.func (Fn.func 127) #[] #[]] w2 fun (e58 : Ending) (w59 : World) => e58 = Ending.returned (Value.tuple #[]) ∧ R (Ending.returned (Value.slice none 0 0)) w59)
theorem f84_eq (t : Option Addr) (which : Value) (w : World) (R : Ending → World → Prop) : (fnF Go.Proofs.Try.prog h84 Go.Proofs.Try.f84 [Value.pointer t, which] w R).den = f84_vc t which w R := by kernel_rfl
theorem f84_calls (t : Option Addr) (which : Value) (w : World) (R : Ending → World → Prop) (h : f84_vc t which w R) : Calls Go.Proofs.Try.prog 84 (List.toArray [Value.pointer t, which]) w R :=
 fn_sound (H := h84) (fn := Go.Proofs.Try.f84) (by kernel_rfl) (by kernel_rfl) (by kernel_rfl) ((f84_eq t which w R).mpr h)


/-! (*manciple/tasks.Table).All$1 -/
def h85 : Hints := ⟨[1], [], [], [], [], [], [], [], []⟩
def f85_vc (p_0 : Int) (p_1 : Int) (p_2 : Int) (p_3a : Option Addr) (p_3n : Nat) (p_3c : Nat) (w : World) (R : Ending → World → Prop) : Prop :=
 ∀ (n1 : Nat), w.heap.size ≤ n1 → ∀ (w2 : World), Bel w w2 → Under [n1] w2 → R (Ending.returned (Value.bool true)) w2
theorem f85_eq (p_0 : Int) (p_1 : Int) (p_2 : Int) (p_3a : Option Addr) (p_3n : Nat) (p_3c : Nat) (w : World) (R : Ending → World → Prop) : (fnF Go.Proofs.Try.prog h85 Go.Proofs.Try.f85 [Value.agg #[Value.int IntKind.i64 p_0, Value.int IntKind.i64 p_1, Value.int IntKind.i64 p_2, Value.slice p_3a p_3n p_3c]] w R).den = f85_vc p_0 p_1 p_2 p_3a p_3n p_3c w R := by kernel_rfl
theorem f85_calls (p_0 : Int) (p_1 : Int) (p_2 : Int) (p_3a : Option Addr) (p_3n : Nat) (p_3c : Nat) (w : World) (R : Ending → World → Prop) (h : f85_vc p_0 p_1 p_2 p_3a p_3n p_3c w R) : Calls Go.Proofs.Try.prog 85 (List.toArray [Value.agg #[Value.int IntKind.i64 p_0, Value.int IntKind.i64 p_1, Value.int IntKind.i64 p_2, Value.slice p_3a p_3n p_3c]]) w R :=
 fn_sound (H := h85) (fn := Go.Proofs.Try.f85) (by kernel_rfl) (by kernel_rfl) (by kernel_rfl) ((f85_eq p_0 p_1 p_2 p_3a p_3n p_3c w R).mpr h)


/-! (*manciple/tasks.Table).Of$1 -/
def h86 : Hints := ⟨[2], [], [], [], [], [], [], [], []⟩
def f86_vc (x_0 : Int) (x_1 : Int) (x_2 : Int) (x_3a : Option Addr) (x_3n : Nat) (x_3c : Nat) (cap0 : Value) (w : World) (R : Ending → World → Prop) : Prop :=
 ∀ (n1 : Nat), w.heap.size ≤ n1 → ∃ (x2 : Int), Reads Proofs.Try.prog [] (Instr.loadAt 2 cap0) w (Value.int IntKind.i64 x2) ∧ ∀ (w3 : World), Bel w w3 → Under [n1] w3 → R (Ending.returned (Value.bool (x_0 == x2))) w3
theorem f86_eq (x_0 : Int) (x_1 : Int) (x_2 : Int) (x_3a : Option Addr) (x_3n : Nat) (x_3c : Nat) (cap0 : Value) (w : World) (R : Ending → World → Prop) : (fnF Go.Proofs.Try.prog h86 Go.Proofs.Try.f86 [Value.agg #[Value.int IntKind.i64 x_0, Value.int IntKind.i64 x_1, Value.int IntKind.i64 x_2, Value.slice x_3a x_3n x_3c], cap0] w R).den = f86_vc x_0 x_1 x_2 x_3a x_3n x_3c cap0 w R := by kernel_rfl
theorem f86_calls (x_0 : Int) (x_1 : Int) (x_2 : Int) (x_3a : Option Addr) (x_3n : Nat) (x_3c : Nat) (cap0 : Value) (w : World) (R : Ending → World → Prop) (h : f86_vc x_0 x_1 x_2 x_3a x_3n x_3c cap0 w R) : Calls Go.Proofs.Try.prog 86 (List.toArray [Value.agg #[Value.int IntKind.i64 x_0, Value.int IntKind.i64 x_1, Value.int IntKind.i64 x_2, Value.slice x_3a x_3n x_3c], cap0]) w R :=
 fn_sound (H := h86) (fn := Go.Proofs.Try.f86) (by kernel_rfl) (by kernel_rfl) (by kernel_rfl) ((f86_eq x_0 x_1 x_2 x_3a x_3n x_3c cap0 w R).mpr h)


/-! (*manciple/tasks.Table).On$1 -/
def h87 : Hints := ⟨[2], [], [], [], [], [], [], [], []⟩
def f87_vc (x_0 : Int) (x_1 : Int) (x_2 : Int) (x_3a : Option Addr) (x_3n : Nat) (x_3c : Nat) (cap0 : Value) (w : World) (R : Ending → World → Prop) : Prop :=
 ∀ (n1 : Nat), w.heap.size ≤ n1 → ∃ (x2 : Int), Reads Proofs.Try.prog [] (Instr.loadAt 2 cap0) w (Value.int IntKind.i64 x2) ∧ ∀ (w3 : World), Bel w w3 → Under [n1] w3 → R (Ending.returned (Value.bool (x_2 == x2))) w3
theorem f87_eq (x_0 : Int) (x_1 : Int) (x_2 : Int) (x_3a : Option Addr) (x_3n : Nat) (x_3c : Nat) (cap0 : Value) (w : World) (R : Ending → World → Prop) : (fnF Go.Proofs.Try.prog h87 Go.Proofs.Try.f87 [Value.agg #[Value.int IntKind.i64 x_0, Value.int IntKind.i64 x_1, Value.int IntKind.i64 x_2, Value.slice x_3a x_3n x_3c], cap0] w R).den = f87_vc x_0 x_1 x_2 x_3a x_3n x_3c cap0 w R := by kernel_rfl
theorem f87_calls (x_0 : Int) (x_1 : Int) (x_2 : Int) (x_3a : Option Addr) (x_3n : Nat) (x_3c : Nat) (cap0 : Value) (w : World) (R : Ending → World → Prop) (h : f87_vc x_0 x_1 x_2 x_3a x_3n x_3c cap0 w R) : Calls Go.Proofs.Try.prog 87 (List.toArray [Value.agg #[Value.int IntKind.i64 x_0, Value.int IntKind.i64 x_1, Value.int IntKind.i64 x_2, Value.slice x_3a x_3n x_3c], cap0]) w R :=
 fn_sound (H := h87) (fn := Go.Proofs.Try.f87) (by kernel_rfl) (by kernel_rfl) (by kernel_rfl) ((f87_eq x_0 x_1 x_2 x_3a x_3n x_3c cap0 w R).mpr h)


/-! (*manciple/tasks.Table).those$1 -/
def h127 : Hints := ⟨[2, 3], [], [], [(1, [0, 1, 2, 3, 5, 6, 7, 8, 4, 9, 10, 11, 12])], [], [], [], [], []⟩
def f127_vc (a_0 : Int) (a_1 : Int) (a_2 : Int) (a_3a : Option Addr) (a_3n : Nat) (a_3c : Nat) (b_0 : Int) (b_1 : Int) (b_2 : Int) (b_3a : Option Addr) (b_3n : Nat) (b_3c : Nat) (w : World) (R : Ending → World → Prop) : Prop :=
 ∀ (n1 : Nat),
 w.heap.size ≤ n1 →
 ∀ (n2 : Nat),
 w.heap.size ≤ n2 →
 ∀ (w3 : World),
 Bel w w3 →
 Under [n1, n2] w3 →
 Calls Proofs.Try.prog 94 #[Value.int IntKind.i64 a_0, Value.int IntKind.i64 b_0] w3 fun (e4 : Ending) (w5 : World) =>
 ∃ (x6 : Int),
 e4 = Ending.returned (Value.int IntKind.i64 x6) ∧
 Keeps [n1, n2] w3 w5 ∧
 Calls Proofs.Try.prog 94 #[Value.int IntKind.i64 a_1, Value.int IntKind.i64 b_1] w5 fun (e7 : Ending) (w8 : World) =>
 ∃ (x9 : Int),
 e7 = Ending.returned (Value.int IntKind.i64 x9) ∧
 Keeps [n1, n2] w5 w8 ∧
 OpW Proofs.Try.prog (valueS (Instr.buildSlice 180 2 #[(0, Value.int IntKind.i64 x6), (1, Value.int IntKind.i64 x9)])) w8 fun (v10 : Value) (w11 : World) =>
 ∃ (a12 : Option Addr),
 ∃ (n13 : Nat),
 ∃ (n14 : Nat),
 v10 = Value.slice a12 n13 n14 ∧
 Keeps [n1, n2] w8 w11 ∧
 Calls Proofs.Try.prog 119 #[Value.slice a12 n13 n14] w11 fun (e15 : Ending) (w16 : World) =>
 ∃ (x17 : Int), e15 = Ending.returned (Value.int IntKind.i64 x17) ∧ Keeps [n1, n2] w11 w16 ∧ R (Ending.returned (Value.int IntKind.i64 x17)) w16
theorem f127_eq (a_0 : Int) (a_1 : Int) (a_2 : Int) (a_3a : Option Addr) (a_3n : Nat) (a_3c : Nat) (b_0 : Int) (b_1 : Int) (b_2 : Int) (b_3a : Option Addr) (b_3n : Nat) (b_3c : Nat) (w : World) (R : Ending → World → Prop) : (fnF Go.Proofs.Try.prog h127 Go.Proofs.Try.f127 [Value.agg #[Value.int IntKind.i64 a_0, Value.int IntKind.i64 a_1, Value.int IntKind.i64 a_2, Value.slice a_3a a_3n a_3c],
 Value.agg #[Value.int IntKind.i64 b_0, Value.int IntKind.i64 b_1, Value.int IntKind.i64 b_2, Value.slice b_3a b_3n b_3c]] w R).den = f127_vc a_0 a_1 a_2 a_3a a_3n a_3c b_0 b_1 b_2 b_3a b_3n b_3c w R := by kernel_rfl
theorem f127_calls (a_0 : Int) (a_1 : Int) (a_2 : Int) (a_3a : Option Addr) (a_3n : Nat) (a_3c : Nat) (b_0 : Int) (b_1 : Int) (b_2 : Int) (b_3a : Option Addr) (b_3n : Nat) (b_3c : Nat) (w : World) (R : Ending → World → Prop) (h : f127_vc a_0 a_1 a_2 a_3a a_3n a_3c b_0 b_1 b_2 b_3a b_3n b_3c w R) : Calls Go.Proofs.Try.prog 127 (List.toArray [Value.agg #[Value.int IntKind.i64 a_0, Value.int IntKind.i64 a_1, Value.int IntKind.i64 a_2, Value.slice a_3a a_3n a_3c],
 Value.agg #[Value.int IntKind.i64 b_0, Value.int IntKind.i64 b_1, Value.int IntKind.i64 b_2, Value.slice b_3a b_3n b_3c]]) w R :=
 fn_sound (H := h127) (fn := Go.Proofs.Try.f127) (by kernel_rfl) (by kernel_rfl) (by kernel_rfl) ((f127_eq a_0 a_1 a_2 a_3a a_3n a_3c b_0 b_1 b_2 b_3a b_3n b_3c w R).mpr h)

end Vct

/- Calls of functions' values. -/
namespace Go.Vc
open Go Go.RowKit
section
variable {P : Program} {w W : World} {M : Nat → Prop} {gs : List Nat} {fv : Value}

/-- A call of a function's value that returns a value, and changes nothing. -/
def RetI (P : Program) (fv : Value) (args : Array Value) (W : World) (v : Value) : Prop := ∀ K : Value → World → Prop, (∀ w', Bel W w' → K v w') → OpW P (invokeS fv args) W K
theorem opw_invoke {f : FuncId} {first cap args : Array Value} {K : Value → World → Prop} (he : pureRun P (invokeS (.func (.func f) first cap) args) = some (.enter f ((first ++ args) ++ cap))) (h : Calls P f ((first ++ args) ++ cap) W fun e w' => ∃ v, e = .returned v ∧ K v w') : OpW P (invokeS (.func (.func f) first cap) args) W K := by
  unfold OpW
  rw [pureRun_run he W]
  exact h
theorem RetI.of {f : FuncId} {first cap args : Array Value} {v : Value} (he : pureRun P (invokeS (.func (.func f) first cap) args) = some (.enter f ((first ++ args) ++ cap))) (h : Ret P f ((first ++ args) ++ cap) W v) : RetI P (.func (.func f) first cap) args W v := fun _ hK => opw_invoke he (h _ fun w' hb => ⟨v, rfl, hK w' hb⟩)
theorem at_inv {args : Array Value} {v : Value} {K : Value → World → Prop} (hA : AtF w M gs W) (hc : RetI P fv args W v) (hK : ∀ w', AtF w M gs w' → Keeps gs W w' → Bel W w' → K v w') : OpW P (invokeS fv args) W K := hc K fun w' hb => hK w' (hA.call hb) (hA.keeps hb) hb
end
end Go.Vc

/- Tables of tasks in memory: made, New, Get, End, Launch, Long. -/
set_option maxRecDepth 20000
set_option maxHeartbeats 1000000
namespace Go.Vc.J
open Go Go.Vc Go.Vc.V Go.RowKit Go.Proofs Vct

variable {w W W' W2 : World} {M : Nat → Prop} {gs ds : List Nat}

/-- All cells are as they were. -/
def KeepC (W W' : World) : Prop := ∀ (ad : Addr) (v : Value), W.cell? ad = some v → W'.cell? ad = some v
theorem KeepC.refl : KeepC W W := fun _ _ h => h
theorem KeepC.trans (h : KeepC W W') (k : KeepC W' W2) : KeepC W W2 := fun ad v hv => k ad v (h ad v hv)
theorem KeepC.of_bel (hb : Bel W W') : KeepC W W' := fun ad v h => cell_below hb.below ad v h
theorem KeepC.of_map {r : Nat} {es : Array MapEntry} {cl : Nat} (hc : Chg (fun b => b = r) W W') (hr : W.heap[r]? = some (.map es cl)) : KeepC W W' := fun ad v h => by
  have hne : ad.block ≠ r := fun e => by
    unfold World.cell? at h
    rw [e, hr] at h
    simp at h
  rw [World.cell?_of_block (hc.block ad.block (World.block_lt_of_cell? W ad h) hne)]
  exact h
theorem sle_keepC {α : Type} {n : Nat} {f : α → List Value} {l : List α} {a : Option Addr} {len c : Nat} (h : SlE W n f l a len c) (hk : KeepC W W') : SlE W' n f l a len c := h.mono hk fun _ _ h => h

abbrev Sl3 := Option Addr × Nat × Nat
abbrev TkT := Int × Int × Int × List PartT
abbrev TR := TkT × Sl3
abbrev trE (x : TR) : List Value := [.int .i64 x.1.1, .int .i64 x.1.2.1, .int .i64 x.1.2.2.1, .slice x.2.1 x.2.2.1 x.2.2.2]
abbrev trV (x : TR) : Value := .agg #[.int .i64 x.1.1, .int .i64 x.1.2.1, .int .i64 x.1.2.2.1, .slice x.2.1 x.2.2.1 x.2.2.2]
abbrev KyT := Int × Int
abbrev keyV (k : KyT) : Value := .agg #[.int .i64 k.1, .int .i64 k.2]
/-- The vector of a task lies where its slice says. -/
def VecR (W : World) (x : TR) : Prop := SlE W 3 partE x.1.2.2.2 x.2.1 x.2.2.1 x.2.2.2
theorem VecR.keep {x : TR} (h : VecR W x) (hk : KeepC W W') : VecR W' x := sle_keepC h hk
def okT (t : TkT) : Prop := 1 ≤ t.1 ∧ 1 ≤ t.2.1 ∧ 1 ≤ t.2.2.1 ∧ t.2.2.2 ≠ [] ∧ vecB t.2.2.2 = true
instance (t : TkT) : Decidable (okT t) := by unfold okT; infer_instance
def keyT (t : TkT) : KyT := (t.1, t.2.1)

theorem keyOk_k : KeyOk Try.prog 40 keyV where
  eq := fun k k' => by
    have h : eqB Try.prog 30 40 (keyV k) (keyV k') = some (k.1 == k'.1 && (k.2 == k'.2 && true)) := by kernel_rfl
    rw [h, Option.some.injEq, Bool.eq_iff_iff]
    obtain ⟨a, b⟩ := k
    obtain ⟨a', b'⟩ := k'
    simp
  now := fun d hd k k' b hb => by
    rw [Try.underlying40] at hd
    cases hd
    simp [Instr.sameNow] at hb
  chk := fun e k W => by
    have h : pureRun Try.prog (Instr.checkKey e 10000 40 (keyV k)) = some () := by kernel_rfl
    exact pureRun_run h W
  bits := fun k => by
    unfold Instr.sameBits
    simp [Instr.sameBits]
  und := ⟨_, Try.underlying40⟩

abbrev ptr (g : Nat) : Value := .pointer (some ⟨g, 0, none⟩)
/-- A table that New made. -/
structure TbS (W : World) (g r : Nat) (cap : Int) (m : List (KyT × TR)) : Prop where
  tb : W.heap[g]? = some (.cells ([.int .i64 cap, .map (some r)] : List Value).toArray 71 (0, 0))
  mp : OwnM W (fun b => b = r) [] W r keyV trV m
  nd : (m.map (·.1)).Nodup
  ks : ∀ x ∈ m, x.1 = keyT x.2.1
  vs : ∀ x ∈ m, VecR W x.2
  ok : ∀ x ∈ m, okT x.2.1
  cap1 : 1 ≤ cap
variable {g r : Nat} {cap : Int} {m : List (KyT × TR)}
theorem OwnM.re {κ α : Type} {w0 w1 : World} {M0 M1 : Nat → Prop} {gs0 gs1 : List Nat} {kf : κ → Value} {vf : α → Value} {m : List (κ × α)} (h : OwnM w0 M0 gs0 W r kf vf m) (hr : W'.heap[r]? = W.heap[r]?) (hm : w1.heap.size ≤ r ∨ M1 r) (ha : r ∉ gs1) : OwnM w1 M1 gs1 W' r kf vf m := by
  obtain ⟨es, clock, h1, h2⟩ := h.obj
  exact ⟨hm, ha, es, clock, by rw [hr]; exact h1, h2⟩
theorem TbS.keep (h : TbS W g r cap m) (hg : W'.heap[g]? = W.heap[g]?) (hr : W'.heap[r]? = W.heap[r]?) (hk : KeepC W W') : TbS W' g r cap m :=
  ⟨hg.trans h.tb, OwnM.re h.mp hr (.inr rfl) (by simp), h.nd, h.ks, fun x hx => (h.vs x hx).keep hk, h.ok, h.cap1⟩
theorem TbS.glt (h : TbS W g r cap m) : g < W.heap.size := (Array.getElem?_eq_some_iff.1 h.tb).1
theorem TbS.rlt (h : TbS W g r cap m) : r < W.heap.size := h.mp.lt
theorem TbS.call (h : TbS W g r cap m) (hb : Bel W W') : TbS W' g r cap m := h.keep (hb.block h.glt) (hb.block h.rlt) (KeepC.of_bel hb)
theorem TbS.ne (h : TbS W g r cap m) : g ≠ r := fun e => by
  obtain ⟨es, cl, h1, _⟩ := h.mp.obj
  have := h.tb
  rw [e, h1] at this
  cases this
theorem TbS.at (h : TbS W g r cap m) (hm : w.heap.size ≤ r ∨ M r) (ha : r ∉ gs) : OwnM w M gs W r keyV trV m := OwnM.re h.mp rfl hm ha
theorem nod {b : Nat} : ∀ d ∈ ([] : List Nat), d ≠ b := fun _ h => by cases h
theorem TbS.rdC (h : TbS W g r cap m) (hd : ∀ d ∈ ds, d ≠ g) : Reads Try.prog ds (Instr.loadAt 3 (ptr g)) W (.int .i64 cap) := rd_f0 h.tb (by kernel_rfl) hd
theorem TbS.rdM (h : TbS W g r cap m) (hd : ∀ d ∈ ds, d ≠ g) : Reads Try.prog ds (Instr.loadAt 69 (.pointer (some (Addr.mk g (0 + 1) none)))) W (.map (some r)) := rd_f 0 h.tb rfl (by kernel_rfl) hd
/-- No table that New made. -/
def NoT (W : World) (t : Option Addr) : Prop := t = none ∨ ∃ g c, t = some ⟨g, 0, none⟩ ∧ W.heap[g]? = some (.cells ([.int .i64 c, .map none] : List Value).toArray 71 (0, 0))
theorem NoT.call {t : Option Addr} (h : NoT W t) (hb : Bel W W') : NoT W' t := h.imp id fun ⟨g, c, e, hg⟩ => ⟨g, c, e, (hb.block (Array.getElem?_eq_some_iff.1 hg).1).trans hg⟩

theorem c81 (h : TbS W g r cap m) : Ret Try.prog 81 #[ptr g] W (.bool true) := by
  intro R hR
  refine f81_calls _ W R ?_
  unfold f81_vc
  exact ⟨true, (fun W => rfl), brB (fun _ => ⟨_, rfl, _, h.rdM nod, true, (fun W => rfl), leaf hR (At.refl W) rfl⟩) (fun e => by cases e)⟩
theorem c81n {t : Option Addr} (h : NoT W t) : Ret Try.prog 81 #[.pointer t] W (.bool false) := by
  intro R hR
  refine f81_calls _ W R ?_
  unfold f81_vc
  rcases h with rfl | ⟨g, c, rfl, hg⟩
  · exact ⟨false, (fun W => rfl), brB (fun e => by cases e) (fun _ => leaf hR (At.refl W) rfl)⟩
  · exact ⟨true, (fun W => rfl), brB (fun _ => ⟨_, rfl, _, rd_f 0 hg rfl (by kernel_rfl) nod, false, (fun W => rfl), leaf hR (At.refl W) rfl⟩) (fun e => by cases e)⟩
theorem c21 (cap : Int) (w : World) : RetQ Try.prog 21 #[.int .i64 cap] w fun v w' => (cap < 1 ∧ v = .pointer none) ∨ (1 ≤ cap ∧ ∃ g r, v = ptr g ∧ TbS w' g r cap [] ∧ w.heap.size ≤ g ∧ w.heap.size ≤ r) := by
  intro R h
  refine f21_calls cap w R ?_
  unfold f21_vc
  refine brD (fun hlt => h _ _ (Bel.refl _) (.inl ⟨hlt, rfl⟩)) (fun hge => ?_)
  refine opw_makeMap (kf := keyV) (vf := trV) (At.refl w) fun r w2 hr hA _ hb2 ho => ⟨_, rfl, ?_⟩
  refine opw_boxS hA fun g w5 hg hA _ hb5 hblk => ⟨_, rfl, ?_⟩
  have hr5 : w5.heap[r]? = w2.heap[r]? := hb5.block ho.lt
  refine h _ _ hA.below (.inr ⟨by omega, g, r, rfl, ⟨hblk, OwnM.re ho hr5 (.inr rfl) (by simp), by simp, by simp, by simp, by simp, by omega⟩, ?_, ?_⟩)
  · have := hb2.size; omega
  · omega
abbrev zT : Value := .agg #[.int .i64 0, .int .i64 0, .int .i64 0, .slice none 0 0]
/-- What Get tells. -/
def getQ (W : World) (m : List (KyT × TR)) (k : KyT) (v : Value) (w' : World) : Prop := match mget k m with
  | none => v = .tuple #[zT, .bool false]
  | some x => ∃ s : Sl3, v = .tuple #[trV (x.1, s), .bool true] ∧ VecR w' (x.1, s) ∧ ∀ b, s.1 = some b → W.heap.size ≤ b.block
theorem sle_evo {α : Type} {n : Nat} {f : α → List Value} {l : List α} {a : Option Addr} {len c : Nat} (h : SlE W n f l a len c) (hev : Evo ds W W') (hd : ∀ b, a = some b → b.block ∉ ds) : SlE W' n f l a len c := by
  obtain ⟨h1, h2, h3, h4, h6⟩ := h
  refine ⟨h1, h2, h3, h4, fun i x hx => ?_⟩
  obtain ⟨ad, cs, ha, hl, hcs, hr⟩ := h6 i x hx
  refine ⟨ad, cs, ha, hl, fun j v hv => ?_, hr⟩
  have hlt := World.block_lt_of_cell? W _ (hcs j v hv)
  rw [World.cell?_of_block (hev.block _ hlt (by rw [add_block, add_block]; exact hd ad ha))]
  exact hcs j v hv
theorem TbS.get (h : TbS W g r cap m) {k : KyT} {x : TR} (hx : mget k m = some x) : okT x.1 ∧ VecR W x ∧ k = keyT x.1 := by
  have hm := mem_of_mget hx
  exact ⟨h.ok _ hm, h.vs _ hm, h.ks _ hm⟩
theorem c24 (frame id : Int) (h : TbS W g r cap m) : RetQ Try.prog 24 #[ptr g, .int .i64 frame, .int .i64 id] W (getQ W m (frame, id)) := by
  intro R hR
  refine f24_calls _ frame id W R ?_
  unfold f24_vc
  intro n1 hn1 w2 hb2 hu2
  have hA : At W [n1] w2 := ⟨((At.refl W).call hb2).chg, hu2⟩
  have h := h.call hb2
  have hgW : g < W.heap.size := (‹TbS W g r cap m›).glt
  have hrW : r < W.heap.size := (‹TbS W g r cap m›).rlt
  refine at_callb hA (c81 h) fun w4 hA hk hb4 => ⟨_, rfl, hk, brNB (fun e => by cases e) (fun _ => ?_)⟩
  have h := h.call hb4
  refine ⟨_, rfl, _, h.rdM nod, ?_⟩
  have hl := reads_lookup2 (P := Try.prog) (t := 69) (et := 48) (z := zT) keyOk_k (by kernel_rfl) (by kernel_rfl) (h.at (w := w4) (M := fun b => b = r) (gs := []) (.inr rfl) (by simp)) (frame, id) (ds := []) nod
  have hsz := hA.size
  unfold getQ at hR
  cases hx : mget (frame, id) m with
  | none =>
    rw [hx] at hl hR
    refine ⟨_, _, _, _, _, _, _, hl, fun n16 hn16 => brB (fun e => by cases e) (fun _ w24 hev hu => ?_)⟩
    exact hR _ _ (hA.evo (by intro d hd; simp at hd; omega) hev hu).below rfl
  | some x =>
    rw [hx] at hl hR
    obtain ⟨⟨_, _, _, hne, hv⟩, hvec, _⟩ := h.get hx
    refine ⟨_, _, _, _, _, _, _, hl, fun n16 hn16 => brB (fun _ w17 hev hu => ?_) (fun e => by cases e)⟩
    have hb17 := hev.bel (by simpa using hn16)
    have hA : At W [n1, n16] w17 := ⟨(hA.call hb17).chg, hu⟩
    have hlen := vec_len' hv
    refine at_calll hA (c79 w17 (hvec.keep (KeepC.of_bel hb17)) (by omega)) (fun _ _ => rfl) fun a c w19 hA hk hb19 ho hs => ⟨_, _, _, rfl, hk, fun w23 hev hu => ?_⟩
    have ho := ho.evo (by intro d hd hd2; simp at hd hd2; omega) hev
    refine hR _ _ (hA.evo (by intro d hd; simp at hd; omega) hev hu).below ⟨(a, x.1.2.2.2.length, c), rfl, ho.sl fun _ _ => rfl, fun b hb => ?_⟩
    simp only at hb
    subst hb
    obtain ⟨g', cur, e, _⟩ := ho.ptr (List.length_pos_iff.2 hne)
    cases e
    have hm := ho.mine g' rfl
    simpa using hm
theorem c24n {t : Option Addr} (frame id : Int) (h : NoT W t) : Ret Try.prog 24 #[.pointer t, .int .i64 frame, .int .i64 id] W (.tuple #[zT, .bool false]) := by
  intro R hR
  refine f24_calls _ frame id W R ?_
  unfold f24_vc
  intro n1 hn1 w2 hb2 hu2
  have hA : At W [n1] w2 := ⟨((At.refl W).call hb2).chg, hu2⟩
  refine at_callb hA (c81n (h.call hb2)) fun w4 hA hk hb4 => ⟨_, rfl, hk, brNB (fun _ w6 hev hu => ?_) (fun e => by cases e)⟩
  exact leaf hR (hA.evo (by intro d hd; simp at hd; omega) hev hu) rfl
end Go.Vc.J

/- slices.SortFunc on an own slice of structs: a permutation, in order. -/
namespace Go.Vc
open Go Go.RowKit Go.Proofs Go.Shelf Go.Sort

theorem bel_grow {W w' : World} (h : Bel W w') : ∃ q os', w' = grow (W.drewN q) os' := by
  refine ⟨w'.drawn - W.drawn, w'.heap.extract W.heap.size w'.heap.size, ?_⟩
  obtain ⟨hp, tp, dr, os, out⟩ := w'
  have h1 := h.below.os
  have h2 := h.below.tape
  have h3 := h.below.output
  have h4 := h.size
  have h5 := fun b hb => h.block (b := b) hb
  have h6 := h.drawn
  simp only at h1 h2 h3 h4 h5 h6
  subst h1 h2 h3
  unfold grow World.drewN
  simp only [World.mk.injEq, true_and, and_true]
  refine ⟨?_, by omega⟩
  apply Array.ext_getElem?
  intro k
  rw [Array.getElem?_append]
  split
  · rename_i hk
    exact h5 k hk
  · rename_i hk
    rw [Array.getElem?_extract]
    split
    · congr 1; omega
    · rw [Array.getElem?_eq_none]
      omega

section
variable {α : Type} [Inhabited α] {P : Program} {ρ : Ren} {f : α → List Value} {k : Nat}

theorem chg_sortWorldK (w : World) (blk off m : Nat) (dk : Array α) (os : Array Obj) : Chg (fun b => b = blk) w (sortWorldK f k w blk off m dk os) := by
  unfold sortWorldK putRowK
  refine ⟨rfl, rfl, rfl, ?_, fun b hb hne => ?_, ?_⟩
  · rw [size_grow, Go.Sort.size_putRow]
    exact Nat.le_add_right _ _
  · show ((putRow id (Go.Sort.ahead w m) blk off (flatK f k dk)).heap ++ os)[b]? = _
    rw [Array.getElem?_append, if_pos (by rw [Go.Sort.size_putRow]; exact hb)]
    unfold putRow mapBlock
    show (Array.modify w.heap blk _)[b]? = _
    rw [Array.getElem?_modify, if_neg (fun e => hne e.symm)]
  · show w.drawn ≤ w.drawn + m
    omega

theorem flat_at {l : List α} (hk : ∀ x, (f x).length = k) {t : Nat} (ht : t < l.length * k) : (l.flatMap f)[t]? = some (flatK f k l.toArray)[t]! := by
  have hk0 : 0 < k := by
    rcases Nat.eq_zero_or_pos k with h | h
    · subst h; omega
    · exact h
  have hi : t / k < l.length := Nat.div_lt_of_lt_mul (by rw [Nat.mul_comm]; exact ht)
  have hm := Nat.mod_lt t hk0
  have hdm : t / k * k + t % k = t := by rw [Nat.mul_comm]; exact Nat.div_add_mod t k
  have hp := flatMap_part (size := k) (fun x _ => hk x) (List.getElem?_eq_getElem hi)
  rw [get_flatK f k l.toArray t (by simpa using ht)]
  have h1 : (f l[t / k])[t % k]? = some ((f l[t / k])[t % k]'(by rw [hk]; exact hm)) := List.getElem?_eq_getElem _
  have h2 : (l.toArray)[t / k]! = l[t / k] := by simp [hi]
  rw [h2, getElem!_pos (f l[t / k]) (t % k) (by rw [hk]; exact hm), ← h1]
  conv => rhs; rw [← hp]
  rw [List.getElem?_take, if_pos hm, List.getElem?_drop, hdm]

theorem at_sortFunc (L : SlLaysF0.n6 P ρ) {e : TypeId} (aE : pureRun P (isAgg (ρ.t 24)) = some true) (zE : pureRun P (sizeOf (ρ.t 24)) = some k) (hk : ∀ x, (f x).length = k) (h1 : ∀ x, ∀ v ∈ f x, v.oneCell' = true) (cf : α → α → Int) (hO : SWO (ltOf cf)) {g : Nat} {cb : Array Value}
    (eg : ∀ args w, (callFunc g args).run P w = .ok (.enter g args) w) {w W : World} {M : Nat → Prop} {gs : List Nat} {a : Option Addr} {n c : Nat} {l : List α} {K : Ending → World → Prop} (hA : AtF w M gs W) (ho : OwnF w M gs W e k f (.slice a n c) l)
    (hcmp : ∀ W', Chg (fun b => (Value.slice a n c).ownBlock = some b) W W' → ∀ x y, Ret P g (#[.agg (f x).toArray, .agg (f y).toArray] ++ cb) W' (.int .i64 (cf x y))) (hl : l.length < 4611686018427387904)
    (hK : ∀ l' w', AtF w M gs w' → Keeps gs W w' → Chg (fun b => (Value.slice a n c).ownBlock = some b) W w' → OwnF w M gs w' e k f (.slice a n c) l' → l'.Perm l → l'.Pairwise (fun x y => ¬ cf y x < 0) → K (.returned (.tuple #[])) w') :
    Calls P (ρ.f 6) #[.slice a n c, .func (.func g) #[] cb] W K := by
  have hn := ho.len
  subst hn
  rcases ho.row0.2 with ⟨hv, h0⟩ | ⟨b, cap, cur, hv, _, hg, hnc, hcm, hcs, htk⟩
  · have hl0 : l = [] := List.eq_nil_of_length_eq_zero h0
    subst hl0
    refine (AnyF.slices_SortFunc_none (P := P) (ρ := ρ) { L with } a c _ W).mono ?_
    rintro e' w' ⟨rfl, rfl⟩
    exact hK [] w' hA (fun _ _ => rfl) (Chg.refl _ _) ho (List.Perm.refl _) List.Pairwise.nil
  · obtain ⟨rfl, _, rfl⟩ := Value.slice.inj hv
    have hfl : (l.flatMap f).length = l.length * k := flatMap_len fun x _ => hk x
    have hcur : ∀ t, t < l.length * k → cur[t]? = some (flatK f k l.toArray)[t]! := fun t ht => by
      rw [← flat_at hk ht, ← htk, List.getElem?_take, if_pos ht, Array.getElem?_toList]
    have hH : HoldsK f k W b 0 l.toArray := by
      intro j hj
      rw [size_flatK] at hj
      have hj' : j < l.length * k := by simpa using hj
      refine ⟨?_, ?_⟩
      · unfold World.cell?
        simp only [hg]
        simpa using hcur j hj'
      · unfold World.frozen?
        simp only [hg]
        simp
    have hblk : b < W.heap.size := (Array.getElem?_eq_some_iff.1 hg).1
    have hcm' : CmpLays P g cb f k cf b 0 l.toArray.size W := fun m os dk _ x y => by
      refine hcmp _ ((chg_sortWorldK W b 0 m dk os).mono fun b' _ hb => ?_) x y _ fun w' hb => ⟨rfl, bel_grow hb⟩
      subst hb
      rfl
    have hmain := AnyQ.slices_SortFunc L k (fun w => pureRun_run aE w) (fun w => pureRun_run zE w) f hk h1 cf hO g cb b 0 c l.toArray W eg hcm' hH hblk (by simpa using hl)
    have hsz : l.toArray.size = l.length := by simp
    rw [hsz] at hmain
    refine hmain.mono ?_
    rintro e' w' ⟨rfl, d', n, os, hp, hs, rfl⟩
    have hch : Chg (fun b' => (Value.slice (some ⟨b, 0, none⟩) l.length c).ownBlock = some b') W (sortWorldK f k W b 0 n d' os) := (chg_sortWorldK W b 0 n d' os).mono fun b' _ hb => by subst hb; rfl
    have hd : d'.size = l.length := by have := hp.1; simpa using this
    have hperm : d'.toList.Perm l := by
      have := hp.2.2
      rw [show l.length = d'.size from hd.symm] at this
      have e1 : d'.extract 0 d'.size = d' := by simp
      have e2 : l.toArray.extract 0 d'.size = l.toArray := by rw [hd]; simp
      rw [e1, e2] at this
      simpa using this
    have hpw : d'.toList.Pairwise (fun x y => ¬ cf y x < 0) := by
      rw [List.pairwise_iff_getElem]
      intro i j hi hj hij
      simp only [Array.length_toList] at hi hj
      have := hs i j (Nat.zero_le _) hij (by omega)
      rw [getElem!_pos d' j hj, getElem!_pos d' i hi] at this
      unfold ltOf at this
      simpa using this
    have hdl : d'.toList.length = l.length := by simpa using hd
    refine hK d'.toList _ (hA.step hch fun k' _ hk' => ho.mine k' hk') (hA.keepsC hch fun g' hg' hk' => ho.apart g' hg' hk') hch ?_ hperm hpw
    refine ⟨?_, ho.mine, ho.apart⟩
    rw [hdl]
    refine ⟨by rw [flatMap_len (size := k) fun x _ => hk x, hdl], .inr ⟨b, c, putCells id 0 (flatK f k d') cur, rfl, Nat.zero_le _, ?_, hnc, hcm, ?_, ?_⟩⟩
    · unfold sortWorldK putRowK
      show ((putRow id (Go.Sort.ahead W n) b 0 (flatK f k d')).heap ++ os)[b]? = _
      rw [Array.getElem?_append, if_pos (by rw [Go.Sort.size_putRow]; exact hblk)]
      unfold putRow mapBlock
      show (Array.modify W.heap b _)[b]? = _
      rw [Array.getElem?_modify, if_pos rfl, hg]
      rfl
    · unfold putCells
      rw [Array.size_mapIdx, hcs]
    · apply List.ext_getElem?
      intro t
      rw [List.getElem?_take]
      by_cases ht : t < l.length * k
      · rw [if_pos ht, flat_at hk (by rw [hdl]; exact ht), Array.getElem?_toList]
        unfold putCells
        have htc : t < cur.size := by
          have := hcur t ht
          exact (Array.getElem?_eq_some_iff.1 this).1
        rw [Array.getElem?_mapIdx, Array.getElem?_eq_getElem htc, Option.map_some, if_pos ⟨Nat.zero_le _, by rw [size_flatK, hd]; omega⟩]
        simp
      · rw [if_neg ht, List.getElem?_eq_none]
        rw [flatMap_len (size := k) fun x _ => hk x, hdl]
        omega
end
end Go.Vc

/- Filters, plainly: how two stand. -/
set_option maxRecDepth 20000
set_option maxHeartbeats 1000000
namespace Go.Vc.J
open Go Go.Vc Go.Vc.V Go.RowKit Go.Proofs Go.Sort

theorem sg_cases (a b : Int) : (a < b ∧ sg a b = -1) ∨ (b < a ∧ sg a b = 1) ∨ (a = b ∧ sg a b = 0) := by
  unfold sg
  split
  · exact .inl ⟨by assumption, rfl⟩
  · split
    · exact .inr (.inl ⟨by omega, rfl⟩)
    · exact .inr (.inr ⟨by omega, rfl⟩)
/-- How two rows of numbers stand. -/
def cmpL : List Int → List Int → Int
  | [], [] => 0
  | [], _ :: _ => -1
  | _ :: _, [] => 1
  | x :: a, y :: b => if sg x y ≠ 0 then sg x y else cmpL a b
theorem cmpL_neg : ∀ a b : List Int, cmpL b a = - cmpL a b
  | [], [] => rfl
  | [], _ :: _ => rfl
  | _ :: _, [] => rfl
  | x :: a, y :: b => by
    unfold cmpL
    rw [cmpL_neg a b]
    rcases sg_cases x y with ⟨h, e⟩ | ⟨h, e⟩ | ⟨h, e⟩
    · have : sg y x = 1 := by rcases sg_cases y x with ⟨_, e⟩ | ⟨_, e⟩ | ⟨_, e⟩ <;> omega
      rw [e, this]; simp
    · have : sg y x = -1 := by rcases sg_cases y x with ⟨_, e⟩ | ⟨_, e⟩ | ⟨_, e⟩ <;> omega
      rw [e, this]; simp
    · have : sg y x = 0 := by rcases sg_cases y x with ⟨_, e⟩ | ⟨_, e⟩ | ⟨_, e⟩ <;> omega
      rw [e, this]; simp
theorem cmpL_self : ∀ a : List Int, cmpL a a = 0
  | [] => rfl
  | x :: a => by
    unfold cmpL
    have : sg x x = 0 := by rcases sg_cases x x with ⟨h, _⟩ | ⟨h, _⟩ | ⟨_, e⟩ <;> omega
    rw [this, if_neg (by simp)]
    exact cmpL_self a
theorem cmpL_eq : ∀ {a b : List Int}, cmpL a b = 0 → a = b
  | [], [], _ => rfl
  | [], _ :: _, h => by simp [cmpL] at h
  | _ :: _, [], h => by simp [cmpL] at h
  | x :: a, y :: b, h => by
    unfold cmpL at h
    rcases sg_cases x y with ⟨_, e⟩ | ⟨_, e⟩ | ⟨e1, e⟩
    · rw [e] at h; simp at h
    · rw [e] at h; simp at h
    · rw [e] at h
      simp at h
      rw [e1, cmpL_eq h]
theorem cmpL_lt_trans : ∀ {a b c : List Int}, cmpL a b < 0 → cmpL b c < 0 → cmpL a c < 0
  | [], [], _, h, _ => by simp [cmpL] at h
  | [], _ :: _, [], _, k => by simp [cmpL] at k
  | [], _ :: _, _ :: _, _, _ => by simp [cmpL]
  | _ :: _, [], _, h, _ => by simp [cmpL] at h
  | _ :: _, _ :: _, [], _, k => by simp [cmpL] at k
  | x :: a, y :: b, z :: c, h, k => by
    unfold cmpL at h k ⊢
    rcases sg_cases x y with ⟨h1, e⟩ | ⟨h1, e⟩ | ⟨h1, e⟩ <;> rcases sg_cases y z with ⟨k1, f⟩ | ⟨k1, f⟩ | ⟨k1, f⟩ <;> rcases sg_cases x z with ⟨m1, g⟩ | ⟨m1, g⟩ | ⟨m1, g⟩ <;> rw [e] at h <;> rw [f] at k <;> rw [g] <;> simp at h k ⊢ <;> first | omega | exact cmpL_lt_trans h k
theorem cmpL_tri (a b : List Int) : cmpL a b < 0 ∨ a = b ∨ cmpL b a < 0 := by
  have h1 := cmpL_neg a b
  by_cases h0 : cmpL a b = 0
  · exact .inr (.inl (cmpL_eq h0))
  · omega
/-! ### Vectors as rows of numbers -/
def flatV : List PartT → List Int
  | [] => []
  | p :: l => p.1 :: p.2.1 :: p.2.2 :: flatV l
theorem flatV_inj : ∀ {a b : List PartT}, flatV a = flatV b → a = b
  | [], [], _ => rfl
  | [], _ :: _, h => by simp [flatV] at h
  | _ :: _, [], h => by simp [flatV] at h
  | (p1, p2, p3) :: a, (q1, q2, q3) :: b, h => by
    simp only [flatV, List.cons.injEq] at h
    obtain ⟨h1, h2, h3, h4⟩ := h
    rw [h1, h2, h3, flatV_inj h4]
def cmp3 (x y : PartT) : Int := orL [sg x.1 y.1, sg x.2.1 y.2.1, sg x.2.2 y.2.2]
theorem cmpV_cons (x y : PartT) (a b : List PartT) : cmpL (flatV (x :: a)) (flatV (y :: b)) = if cmp3 x y ≠ 0 then cmp3 x y else cmpL (flatV a) (flatV b) := by
  have e1 : ∀ (z : PartT) (l : List PartT), flatV (z :: l) = z.1 :: z.2.1 :: z.2.2 :: flatV l := fun _ _ => rfl
  rw [e1, e1]
  unfold cmp3
  generalize flatV a = u
  generalize flatV b = v
  simp only [cmpL, orL]
  by_cases h1 : sg x.1 y.1 = 0
  · by_cases h2 : sg x.2.1 y.2.1 = 0
    · by_cases h3 : sg x.2.2 y.2.2 = 0
      · simp [h1, h2, h3]
      · simp [h1, h2, h3]
    · simp [h1, h2]
  · simp [h1]
/-! ### Filters -/
def keyF (x : TkT) : List Int := x.1 :: x.2.1 :: x.2.2.1 :: flatV x.2.2.2
theorem keyF_inj {x y : TkT} (h : keyF x = keyF y) : x = y := by
  obtain ⟨a, b, c, v⟩ := x
  obtain ⟨a', b', c', v'⟩ := y
  simp only [keyF, List.cons.injEq] at h
  obtain ⟨h1, h2, h3, h4⟩ := h
  rw [h1, h2, h3, flatV_inj h4]
def aF (x y : TkT) : Int := cmpL (keyF x) (keyF y)
theorem aF_or (x y : TkT) : aF x y = orL [sg x.1 y.1, sg x.2.1 y.2.1, sg x.2.2.1 y.2.2.1, cmpL (flatV x.2.2.2) (flatV y.2.2.2)] := by
  unfold aF keyF
  simp only [cmpL, orL]
  by_cases h1 : sg x.1 y.1 = 0
  · by_cases h2 : sg x.2.1 y.2.1 = 0
    · by_cases h3 : sg x.2.2.1 y.2.2.1 = 0
      · by_cases h4 : cmpL (flatV x.2.2.2) (flatV y.2.2.2) = 0
        · simp [h1, h2, h3, h4]
        · simp [h1, h2, h3, h4]
      · simp [h1, h2, h3]
    · simp [h1, h2]
  · simp [h1]
theorem aF_neg (x y : TkT) : aF y x = - aF x y := cmpL_neg _ _
theorem aF_eq {x y : TkT} (h : aF x y = 0) : x = y := keyF_inj (cmpL_eq h)
theorem aF_self (x : TkT) : aF x x = 0 := cmpL_self _
theorem aF_trans {x y z : TkT} (h : aF x y < 0) (k : aF y z < 0) : aF x z < 0 := cmpL_lt_trans h k
theorem aF_ntrans {x y z : TkT} (h : ¬ aF x y < 0) (k : ¬ aF y z < 0) : ¬ aF x z < 0 := by
  intro hh
  have h1 := aF_neg x y
  have k1 := aF_neg y z
  by_cases h0 : aF x y = 0
  · rw [aF_eq h0] at hh; exact k hh
  · by_cases k0 : aF y z = 0
    · rw [← aF_eq k0] at hh; exact h hh
    · have := aF_trans (x := z) (y := y) (z := x) (by omega) (by omega)
      have := aF_neg x z
      omega
def cfF (x y : TR) : Int := aF x.1 y.1
theorem swoF : Go.Sort.SWO (ltOf cfF) where
  irrefl x := by
    unfold ltOf cfF
    rw [aF_self]
    rfl
  trans x y z h k := by
    unfold ltOf cfF at *
    rw [decide_eq_true_iff] at *
    exact aF_trans h k
  ntrans x y z h k := by
    unfold ltOf cfF at *
    rw [decide_eq_false_iff_not] at *
    exact aF_ntrans h k
/-! ### Rows in order, each once -/
def SrtF (l : List TkT) : Prop := l.Pairwise fun x y => aF x y < 0
theorem SrtF.nodup {l : List TkT} (h : SrtF l) : l.Nodup := h.imp fun {x y} h e => by
  subst e
  rw [aF_self] at h
  omega
theorem srtF_ext : ∀ {s t : List TkT}, SrtF s → SrtF t → (∀ x, x ∈ s ↔ x ∈ t) → s = t
  | [], [], _, _, _ => rfl
  | [], b :: t, _, _, h => by have := (h b).2 (List.mem_cons_self ..); cases this
  | a :: s, [], _, _, h => by have := (h a).1 (List.mem_cons_self ..); cases this
  | a :: s, b :: t, hs, ht, h => by
    obtain ⟨hs1, hs2⟩ := List.pairwise_cons.1 hs
    obtain ⟨ht1, ht2⟩ := List.pairwise_cons.1 ht
    have hab : a = b := by
      rcases List.mem_cons.1 ((h a).1 (List.mem_cons_self ..)) with e | e
      · exact e
      · rcases List.mem_cons.1 ((h b).2 (List.mem_cons_self ..)) with f | f
        · exact f.symm
        · have h1 := ht1 a e
          have h2 := hs1 b f
          have := aF_neg a b
          omega
    subst hab
    rw [srtF_ext hs2 ht2 fun x => ?_]
    constructor
    · intro hx
      rcases List.mem_cons.1 ((h x).1 (List.mem_cons_of_mem _ hx)) with e | e
      · subst e
        have := hs1 x hx
        rw [aF_self] at this
        omega
      · exact e
    · intro hx
      rcases List.mem_cons.1 ((h x).2 (List.mem_cons_of_mem _ hx)) with e | e
      · subst e
        have := ht1 x hx
        rw [aF_self] at this
        omega
      · exact e
theorem srtF_of {l : List TkT} (h : l.Pairwise fun x y => ¬ aF y x < 0) (hn : l.Nodup) : SrtF l := by
  unfold SrtF
  refine (List.pairwise_and_iff.2 ⟨h, hn⟩).imp fun {x y} ⟨h, hne⟩ => ?_
  have := aF_neg x y
  by_cases h0 : aF x y = 0
  · exact absurd (aF_eq h0) hne
  · omega
end Go.Vc.J

/- The formulas of functions, printed by a program (VcTool.lean): each is what the generator's formula comes to, by the kernel's reckoning; whoever proves one has the function's contract. -/
set_option maxRecDepth 100000
set_option maxHeartbeats 1000000
set_option linter.unusedVariables false
namespace Vct
open Go Go.Vc Go.RowKit
/-! manciple/manciplelaw26.Few -/
def h12 : Hints := ⟨[], [14], [8, 23], [], [], [(3, ⟨[(3, .int .i64), (4, .int .i64)], []⟩)], [], [], []⟩
def f12_vc (la : Option Addr) (ln : Nat) (lc : Nat) (w : World) (R : Ending → World → Prop) : Prop :=
 ∃ (J1 : Int × Int × Unit → World → Prop),
 ∃ (J2 : Int × Int × Unit → World → Nat),
 J1 (0, 0, ()) w ∧
 ∀ (x3 x4 : Int) (w5 : World),
 J1 (x3, x4, ()) w5 →
 (decide (x4 < (↑ln : Int)) = true →
 ∃ (ad6 : Addr),
 Gives Proofs.Try.prog (Instr.indexAt 22 (Value.slice la ln lc) (Value.int IntKind.i64 x4)) (Value.pointer (some ad6)) ∧
 ∃ (a7 : Option Addr),
 ∃ (n8 : Nat),
 ∃ (n9 : Nat),
 Reads Proofs.Try.prog [] (Instr.loadAt 23 (Value.pointer (some (Addr.mk (Addr.mk ad6.block (ad6.off + 2) none).block ((Addr.mk ad6.block (ad6.off + 2) none).off + 3) none)))) w5 (Value.slice a7 n8 n9) ∧
 J1 (IntKind.i64.wrap (x3 + (↑n8 : Int)), IntKind.i64.wrap (x4 + 1), ()) w5 ∧ J2 (IntKind.i64.wrap (x3 + (↑n8 : Int)), IntKind.i64.wrap (x4 + 1), ()) w5 < J2 (x3, x4, ()) w5) ∧
 (decide (x4 < (↑ln : Int)) = false → (decide ((↑ln : Int) ≤ 100) = true → R (Ending.returned (Value.bool (decide (x3 ≤ 400)))) w5) ∧ (decide ((↑ln : Int) ≤ 100) = false → R (Ending.returned (Value.bool false)) w5))
theorem f12_eq (la : Option Addr) (ln : Nat) (lc : Nat) (w : World) (R : Ending → World → Prop) : (fnF Go.Proofs.Try.prog h12 Go.Proofs.Try.f12 [Value.slice la ln lc] w R).den = f12_vc la ln lc w R := by kernel_rfl
theorem f12_calls (la : Option Addr) (ln : Nat) (lc : Nat) (w : World) (R : Ending → World → Prop) (h : f12_vc la ln lc w R) : Calls Go.Proofs.Try.prog 12 (List.toArray [Value.slice la ln lc]) w R :=
 fn_sound (H := h12) (fn := Go.Proofs.Try.f12) (by kernel_rfl) (by kernel_rfl) (by kernel_rfl) ((f12_eq la ln lc w R).mpr h)


/-! manciple/filters.New -/
def h13 : Hints := ⟨[], [], [4], [], [], [], [], [], []⟩
def f13_vc (cap : Int) (w : World) (R : Ending → World → Prop) : Prop :=
 (decide (cap < 1) = true → R (Ending.returned (Value.pointer none)) w) ∧
 (decide (cap < 1) = false →
 OpW Proofs.Try.prog (valueS (Instr.makeMap 113 none)) w fun (v1 : Value) (w2 : World) =>
 ∃ (r3 : Option Nat),
 v1 = Value.map r3 ∧
 OpW Proofs.Try.prog (valueS (Instr.box 115 (Value.agg #[Value.int IntKind.i64 cap, Value.int IntKind.i64 0, Value.map r3]))) w2 fun (v4 : Value) (w5 : World) =>
 ∃ (ad6 : Addr), v4 = Value.pointer (some ad6) ∧ R (Ending.returned (Value.pointer (some ad6))) w5)
theorem f13_eq (cap : Int) (w : World) (R : Ending → World → Prop) : (fnF Go.Proofs.Try.prog h13 Go.Proofs.Try.f13 [Value.int IntKind.i64 cap] w R).den = f13_vc cap w R := by kernel_rfl
theorem f13_calls (cap : Int) (w : World) (R : Ending → World → Prop) (h : f13_vc cap w R) : Calls Go.Proofs.Try.prog 13 (List.toArray [Value.int IntKind.i64 cap]) w R :=
 fn_sound (H := h13) (fn := Go.Proofs.Try.f13) (by kernel_rfl) (by kernel_rfl) (by kernel_rfl) ((f13_eq cap w R).mpr h)


/-! manciple/manciplelaw26.Do -/
def h14 : Hints := ⟨[3], [], [7, 13, 19], [], [], [], [], [], []⟩
def f14_vc (t : Option Addr) (a_0 : Int) (a_1 : Int) (a_2 : Int) (a_3 : Int) (a_4 : Int) (a_5a : Option Addr) (a_5n : Nat) (a_5c : Nat) (w : World) (R : Ending → World → Prop) : Prop :=
 ∀ (n1 : Nat),
 w.heap.size ≤ n1 →
 ((a_0 == 0) = true →
 ∀ (w2 : World),
 Bel w w2 →
 Under [n1] w2 →
 Calls Proofs.Try.prog 18 #[Value.pointer t, Value.agg #[Value.int IntKind.i64 a_2, Value.int IntKind.i64 a_3, Value.int IntKind.i64 a_4, Value.slice a_5a a_5n a_5c]] w2 fun (e3 : Ending) (w4 : World) =>
 ∃ (x5 : Int), e3 = Ending.returned (Value.int IntKind.i64 x5) ∧ Keeps [n1] w2 w4 ∧ R (Ending.returned (Value.int IntKind.i64 x5)) w4) ∧
 ((a_0 == 0) = false →
 ((a_0 == 1) = true →
 ∀ (w6 : World),
 Bel w w6 →
 Under [n1] w6 →
 Calls Proofs.Try.prog 59 #[Value.pointer t, Value.int IntKind.i64 a_1] w6 fun (e7 : Ending) (w8 : World) =>
 ∃ (x9 : Int), e7 = Ending.returned (Value.int IntKind.i64 x9) ∧ Keeps [n1] w6 w8 ∧ R (Ending.returned (Value.int IntKind.i64 x9)) w8) ∧
 ((a_0 == 1) = false →
 ((a_0 == 2) = true →
 ∀ (w10 : World),
 Bel w w10 →
 Under [n1] w10 →
 Calls Proofs.Try.prog 67 #[Value.pointer t, Value.int IntKind.i64 a_1] w10 fun (e11 : Ending) (w12 : World) =>
 ∃ (x13 : Int), e11 = Ending.returned (Value.int IntKind.i64 x13) ∧ Keeps [n1] w10 w12 ∧ R (Ending.returned (Value.int IntKind.i64 x13)) w12) ∧
 ((a_0 == 2) = false →
 ∀ (w14 : World),
 Bel w w14 →
 Under [n1] w14 →
 Calls Proofs.Try.prog 68 #[Value.pointer t, Value.int IntKind.i64 a_1] w14 fun (e15 : Ending) (w16 : World) =>
 ∃ (x17 : Int), e15 = Ending.returned (Value.int IntKind.i64 x17) ∧ Keeps [n1] w14 w16 ∧ R (Ending.returned (Value.int IntKind.i64 x17)) w16)))
theorem f14_eq (t : Option Addr) (a_0 : Int) (a_1 : Int) (a_2 : Int) (a_3 : Int) (a_4 : Int) (a_5a : Option Addr) (a_5n : Nat) (a_5c : Nat) (w : World) (R : Ending → World → Prop) : (fnF Go.Proofs.Try.prog h14 Go.Proofs.Try.f14 [Value.pointer t, Value.agg #[Value.int IntKind.i64 a_0, Value.int IntKind.i64 a_1, Value.int IntKind.i64 a_2, Value.int IntKind.i64 a_3, Value.int IntKind.i64 a_4, Value.slice a_5a a_5n a_5c]] w R).den = f14_vc t a_0 a_1 a_2 a_3 a_4 a_5a a_5n a_5c w R := by kernel_rfl
theorem f14_calls (t : Option Addr) (a_0 : Int) (a_1 : Int) (a_2 : Int) (a_3 : Int) (a_4 : Int) (a_5a : Option Addr) (a_5n : Nat) (a_5c : Nat) (w : World) (R : Ending → World → Prop) (h : f14_vc t a_0 a_1 a_2 a_3 a_4 a_5a a_5n a_5c w R) : Calls Go.Proofs.Try.prog 14 (List.toArray [Value.pointer t, Value.agg #[Value.int IntKind.i64 a_0, Value.int IntKind.i64 a_1, Value.int IntKind.i64 a_2, Value.int IntKind.i64 a_3, Value.int IntKind.i64 a_4, Value.slice a_5a a_5n a_5c]]) w R :=
 fn_sound (H := h14) (fn := Go.Proofs.Try.f14) (by kernel_rfl) (by kernel_rfl) (by kernel_rfl) ((f14_eq t a_0 a_1 a_2 a_3 a_4 a_5a a_5n a_5c w R).mpr h)


/-! (*manciple/filters.Table).Blocks -/
def h15 : Hints := ⟨[], [13], [11], [], [], [], [], [], []⟩
def f15_vc (t : Option Addr) (frame : Int) (agent : Int) (va : Option Addr) (vn : Nat) (vc : Nat) (w : World) (R : Ending → World → Prop) : Prop :=
 OpW Proofs.Try.prog (valueS (Instr.box 23 (Value.slice va vn vc))) w fun (v1 : Value) (w2 : World) =>
 ∃ (ad3 : Addr),
 v1 = Value.pointer (some ad3) ∧
 Calls Proofs.Try.prog 69 #[Value.pointer t] w2 fun (e4 : Ending) (w5 : World) =>
 ∃ (b6 : Bool),
 e4 = Ending.returned (Value.bool b6) ∧
 ((!b6) = true → R (Ending.returned (Value.bool false)) w5) ∧
 ((!b6) = false →
 ∃ (ad7 : Addr),
 t = some ad7 ∧
 ∃ (r8 : Option Nat),
 Reads Proofs.Try.prog [] (Instr.loadAt 113 (Value.pointer (some (Addr.mk ad7.block (ad7.off + 2) none)))) w5 (Value.map r8) ∧
 ∃ (a9 : Option Addr),
 ∃ (n10 : Nat),
 ∃ (n11 : Nat),
 Reads Proofs.Try.prog [] (Instr.lookup 113 (Value.map r8) (Value.agg #[Value.int IntKind.i64 frame, Value.int IntKind.i64 agent]) false) w5 (Value.slice a9 n10 n11) ∧
 Calls Proofs.Try.prog 70 #[Value.slice a9 n10 n11, Value.func (Fn.func 71) #[] #[Value.pointer (some ad3)]] w5 fun (e12 : Ending) (w13 : World) =>
 ∃ (b14 : Bool), e12 = Ending.returned (Value.bool b14) ∧ R (Ending.returned (Value.bool b14)) w13)
theorem f15_eq (t : Option Addr) (frame : Int) (agent : Int) (va : Option Addr) (vn : Nat) (vc : Nat) (w : World) (R : Ending → World → Prop) : (fnF Go.Proofs.Try.prog h15 Go.Proofs.Try.f15 [Value.pointer t, Value.int IntKind.i64 frame, Value.int IntKind.i64 agent, Value.slice va vn vc] w R).den = f15_vc t frame agent va vn vc w R := by kernel_rfl
theorem f15_calls (t : Option Addr) (frame : Int) (agent : Int) (va : Option Addr) (vn : Nat) (vc : Nat) (w : World) (R : Ending → World → Prop) (h : f15_vc t frame agent va vn vc w R) : Calls Go.Proofs.Try.prog 15 (List.toArray [Value.pointer t, Value.int IntKind.i64 frame, Value.int IntKind.i64 agent, Value.slice va vn vc]) w R :=
 fn_sound (H := h15) (fn := Go.Proofs.Try.f15) (by kernel_rfl) (by kernel_rfl) (by kernel_rfl) ((f15_eq t frame agent va vn vc w R).mpr h)


/-! (*manciple/filters.Table).All -/
def h57 : Hints := ⟨[7], [11, 23], [9, 22], [], [], [(4, ⟨[(3, .sl)], []⟩), (7, ⟨[(3, .sl), (21, .int .i64)], []⟩)], [], [(15, .cons (.agg (.cons (.int .i64) (.cons (.int .i64) (.nil)))) (.cons (.sl) (.nil))), (17, .cons (.agg (.cons (.int .i64) (.cons (.int .i64) (.nil)))) (.cons (.sl) (.nil)))], []⟩
def f57_vc (t : Option Addr) (w : World) (R : Ending → World → Prop) : Prop :=
 Calls Proofs.Try.prog 69 #[Value.pointer t] w fun (e1 : Ending) (w2 : World) =>
 ∃ (b3 : Bool),
 e1 = Ending.returned (Value.bool b3) ∧
 (b3 = true →
 ∃ (ad4 : Addr),
 t = some ad4 ∧
 ∃ (r5 : Option Nat),
 Reads Proofs.Try.prog [] (Instr.loadAt 113 (Value.pointer (some (Addr.mk ad4.block (ad4.off + 2) none)))) w2 (Value.map r5) ∧
 OpW Proofs.Try.prog (valueS (Instr.range 113 (Value.map r5))) w2 fun (v6 : Value) (w7 : World) =>
 ∃ (ad8 : Addr),
 v6 = Value.pointer (some ad8) ∧
 ∃ (J9 : (Option Addr × Nat × Nat) × Unit → World → Prop),
 ∃ (J10 : (Option Addr × Nat × Nat) × Unit → World → Nat),
 J9 ((none, 0, 0), ()) w7 ∧
 ∀ (a11 : Option Addr) (n12 n13 : Nat) (w14 : World),
 J9 ((a11, n12, n13), ()) w14 →
 OpW Proofs.Try.prog (valueS (Instr.next (Value.pointer (some ad8)) false 0)) w14 fun (v15 : Value) (w16 : World) =>
 (v15 = Value.tuple #[Value.bool false] ∨
 ∃ (x :
 (nextShape
 (Hints.mk [7] [11, 23] [9, 22] [] [] [(4, LH.mk [(3, Sh.sl)] []), (7, LH.mk [(3, Sh.sl), (21, Sh.int IntKind.i64)] [])] []
 [(15, ((Sh.int IntKind.i64).cons ((Sh.int IntKind.i64).cons Sh.nil)).agg.cons (Sh.sl.cons Sh.nil)),
 (17, ((Sh.int IntKind.i64).cons ((Sh.int IntKind.i64).cons Sh.nil)).agg.cons (Sh.sl.cons Sh.nil))]
 [])
 #[Oper.mk (some 15) (Op.next (Operand.tmp 14) false) 0 "filters.go:108" #[] none, Oper.mk (some 16) (Op.extract (Operand.tmp 15) 0) 4 "filters.go:108" #[Edge.mk 0 Ground.data] none][0]).T),
 v15 = Value.tuple #[Value.bool true, Value.agg #[Value.int IntKind.i64 x.fst.fst, Value.int IntKind.i64 x.fst.snd.fst], Value.slice x.snd.fst.fst x.snd.fst.snd.fst x.snd.fst.snd.snd]) ∧
 (v15 = Value.tuple #[Value.bool false] →
 Calls Proofs.Try.prog 108 #[Value.slice a11 n12 n13, Value.func (Fn.func 78) #[] #[]] w16 fun (e17 : Ending) (w18 : World) =>
 e17 = Ending.returned (Value.tuple #[]) ∧ R (Ending.returned (Value.slice a11 n12 n13)) w18) ∧
 ∀ (x19 x20 : Int) (a21 : Option Addr) (n22 n23 : Nat),
 v15 = Value.tuple #[Value.bool true, Value.agg #[Value.int IntKind.i64 x19, Value.int IntKind.i64 x20], Value.slice a21 n22 n23] →
 OpW Proofs.Try.prog ((Instr.entry (Value.pointer (some ad8))).bind fun (__do_lift : Value) => pure (Next.value __do_lift)) w16 fun (v24 : Value) (w25 : World) =>
 ∃ (x26 : Int),
 ∃ (x27 : Int),
 ∃ (a28 : Option Addr),
 ∃ (n29 : Nat),
 ∃ (n30 : Nat),
 v24 = Value.tuple #[Value.agg #[Value.int IntKind.i64 x26, Value.int IntKind.i64 x27], Value.slice a28 n29 n30] ∧
 ∃ (J31 : (Option Addr × Nat × Nat) × Int × Unit → World → Prop),
 ∃ (J32 : (Option Addr × Nat × Nat) × Int × Unit → World → Nat),
 J31 ((a11, n12, n13), 0, ()) w25 ∧
 ∀ (a33 : Option Addr) (n34 n35 : Nat) (x36 : Int) (w37 : World),
 J31 ((a33, n34, n35), x36, ()) w37 →
 (decide (x36 < (↑n29 : Int)) = true →
 ∃ (ad38 : Addr),
 Gives Proofs.Try.prog (Instr.indexAt 111 (Value.slice a28 n29 n30) (Value.int IntKind.i64 x36)) (Value.pointer (some ad38)) ∧
 ∃ (x39 : Int),
 ∃ (x40 : Int),
 ∃ (x41 : Int),
 ∃ (a42 : Option Addr),
 ∃ (n43 : Nat),
 ∃ (n44 : Nat),
 Reads Proofs.Try.prog [] (Instr.loadAt 25 (Value.pointer (some ad38))) w37
 (Value.agg #[Value.int IntKind.i64 x39, Value.int IntKind.i64 x40, Value.int IntKind.i64 x41, Value.slice a42 n43 n44]) ∧
 ∀ (n45 : Nat),
 w37.heap.size ≤ n45 →
 ∀ (w46 : World),
 Evo [n45] w37 w46 →
 Under [n45] w46 →
 Calls Proofs.Try.prog 79 #[Value.slice a42 n43 n44] w46 fun (e47 : Ending) (w48 : World) =>
 ∃ (a49 : Option Addr),
 ∃ (n50 : Nat),
 ∃ (n51 : Nat),
 e47 = Ending.returned (Value.slice a49 n50 n51) ∧
 Keeps [n45] w46 w48 ∧
 ∀ (w52 : World),
 Evo [n45] w48 w52 →
 Under [n45] w52 →
 OpW Proofs.Try.prog
 (valueS
 (Instr.buildSlice 111 1
 #[(0,
 Value.agg
 #[Value.int IntKind.i64 x39, Value.int IntKind.i64 x40, Value.int IntKind.i64 x41,
 Value.slice a49 n50 n51])]))
 w52 fun (v53 : Value) (w54 : World) =>
 ∃ (a55 : Option Addr),
 ∃ (n56 : Nat),
 ∃ (n57 : Nat),
 v53 = Value.slice a55 n56 n57 ∧
 Keeps [n45] w52 w54 ∧
 OpW Proofs.Try.prog
 (builtin Builtin.append #[111, 111] 111 #[false, false] #[Value.slice a33 n34 n35, Value.slice a55 n56 n57])
 w54 fun (v58 : Value) (w59 : World) =>
 ∃ (a60 : Option Addr),
 ∃ (n61 : Nat),
 ∃ (n62 : Nat),
 v58 = Value.slice a60 n61 n62 ∧
 Keeps [n45] w54 w59 ∧
 J31 ((a60, n61, n62), IntKind.i64.wrap (x36 + 1), ()) w59 ∧
 J32 ((a60, n61, n62), IntKind.i64.wrap (x36 + 1), ()) w59 <
 J32 ((a33, n34, n35), x36, ()) w37) ∧
 (decide (x36 < (↑n29 : Int)) = false → J9 ((a33, n34, n35), ()) w37 ∧ J10 ((a33, n34, n35), ()) w37 < J10 ((a11, n12, n13), ()) w14)) ∧
 (b3 = false → Calls Proofs.Try.prog 108 #[Value.slice none 0 0, Value.func (Fn.func 78) #[] #[]] w2 fun (e63 : Ending) (w64 : World) => e63 = Ending.returned (Value.tuple #[]) ∧ R (Ending.returned (Value.slice none 0 0)) w64)
theorem f57_eq (t : Option Addr) (w : World) (R : Ending → World → Prop) : (fnF Go.Proofs.Try.prog h57 Go.Proofs.Try.f57 [Value.pointer t] w R).den = f57_vc t w R := by kernel_rfl
theorem f57_calls (t : Option Addr) (w : World) (R : Ending → World → Prop) (h : f57_vc t w R) : Calls Go.Proofs.Try.prog 57 (List.toArray [Value.pointer t]) w R :=
 fn_sound (H := h57) (fn := Go.Proofs.Try.f57) (by kernel_rfl) (by kernel_rfl) (by kernel_rfl) ((f57_eq t w R).mpr h)


/-! (*manciple/filters.Table).Forget -/
def h59 : Hints := ⟨[], [], [], [], [], [], [], [], []⟩
def f59_vc (t : Option Addr) (frame : Int) (w : World) (R : Ending → World → Prop) : Prop :=
 OpW Proofs.Try.prog (valueS (Instr.box 2 (Value.int IntKind.i64 frame))) w fun (v1 : Value) (w2 : World) =>
 ∃ (ad3 : Addr),
 v1 = Value.pointer (some ad3) ∧
 Calls Proofs.Try.prog 110 #[Value.pointer t, Value.func (Fn.func 111) #[] #[Value.pointer (some ad3)]] w2 fun (e4 : Ending) (w5 : World) =>
 ∃ (x6 : Int), e4 = Ending.returned (Value.int IntKind.i64 x6) ∧ R (Ending.returned (Value.int IntKind.i64 x6)) w5
theorem f59_eq (t : Option Addr) (frame : Int) (w : World) (R : Ending → World → Prop) : (fnF Go.Proofs.Try.prog h59 Go.Proofs.Try.f59 [Value.pointer t, Value.int IntKind.i64 frame] w R).den = f59_vc t frame w R := by kernel_rfl
theorem f59_calls (t : Option Addr) (frame : Int) (w : World) (R : Ending → World → Prop) (h : f59_vc t frame w R) : Calls Go.Proofs.Try.prog 59 (List.toArray [Value.pointer t, Value.int IntKind.i64 frame]) w R :=
 fn_sound (H := h59) (fn := Go.Proofs.Try.f59) (by kernel_rfl) (by kernel_rfl) (by kernel_rfl) ((f59_eq t frame w R).mpr h)


/-! (*manciple/filters.Table).Next -/
def h62 : Hints := ⟨[], [], [9], [], [], [], [], [], []⟩
def f62_vc (t : Option Addr) (w : World) (R : Ending → World → Prop) : Prop :=
 Calls Proofs.Try.prog 57 #[Value.pointer t] w fun (e1 : Ending) (w2 : World) =>
 ∃ (a3 : Option Addr),
 ∃ (n4 : Nat),
 ∃ (n5 : Nat),
 e1 = Ending.returned (Value.slice a3 n4 n5) ∧
 (((↑n4 : Int) == 0) = true → R (Ending.returned (Value.tuple #[Value.int IntKind.i64 0, Value.bool false])) w2) ∧
 (((↑n4 : Int) == 0) = false →
 Calls Proofs.Try.prog 114 #[Value.slice a3 n4 n5, Value.func (Fn.func 115) #[] #[]] w2 fun (e6 : Ending) (w7 : World) =>
 ∃ (x8 : Int),
 ∃ (x9 : Int),
 ∃ (x10 : Int),
 ∃ (a11 : Option Addr),
 ∃ (n12 : Nat),
 ∃ (n13 : Nat),
 e6 = Ending.returned (Value.agg #[Value.int IntKind.i64 x8, Value.int IntKind.i64 x9, Value.int IntKind.i64 x10, Value.slice a11 n12 n13]) ∧
 R (Ending.returned (Value.tuple #[Value.int IntKind.i64 x10, Value.bool true])) w7)
theorem f62_eq (t : Option Addr) (w : World) (R : Ending → World → Prop) : (fnF Go.Proofs.Try.prog h62 Go.Proofs.Try.f62 [Value.pointer t] w R).den = f62_vc t w R := by kernel_rfl
theorem f62_calls (t : Option Addr) (w : World) (R : Ending → World → Prop) (h : f62_vc t w R) : Calls Go.Proofs.Try.prog 62 (List.toArray [Value.pointer t]) w R :=
 fn_sound (H := h62) (fn := Go.Proofs.Try.f62) (by kernel_rfl) (by kernel_rfl) (by kernel_rfl) ((f62_eq t w R).mpr h)


/-! (manciple/mancipleref26.M).Next -/
def h63 : Hints := ⟨[1], [19, 28], [10, 24, 15], [(7, [0, 1, 2, 3, 4, 5, 6])], [], [(3, ⟨[(4, .int .i64), (5, .int .i64)], []⟩)], [], [], []⟩
def f63_vc (m_0 : Int) (m_1a : Option Addr) (m_1n : Nat) (m_1c : Nat) (w : World) (R : Ending → World → Prop) : Prop :=
 ∀ (n1 : Nat),
 w.heap.size ≤ n1 →
 ∃ (J2 : Int × Int × Unit → World → Prop),
 ∃ (J3 : Int × Int × Unit → World → Nat),
 (∀ (w4 : World), Bel w w4 → Under [n1] w4 → J2 (0, 0, ()) w4) ∧
 ∀ (x5 x6 : Int) (w7 : World),
 J2 (x5, x6, ()) w7 →
 (decide (x6 < (↑m_1n : Int)) = true →
 ((x6 == 0) = true →
 ∃ (ad8 : Addr),
 Gives Proofs.Try.prog (Instr.indexAt 111 (Value.slice m_1a m_1n m_1c) (Value.int IntKind.i64 x6)) (Value.pointer (some ad8)) ∧
 ∃ (x9 : Int),
 Reads Proofs.Try.prog [] (Instr.loadAt 2 (Value.pointer (some (Addr.mk ad8.block (ad8.off + 2) none)))) w7 (Value.int IntKind.i64 x9) ∧
 J2 (x9, IntKind.i64.wrap (x6 + 1), ()) w7 ∧ J3 (x9, IntKind.i64.wrap (x6 + 1), ()) w7 < J3 (x5, x6, ()) w7) ∧
 ((x6 == 0) = false →
 ∃ (ad10 : Addr),
 Gives Proofs.Try.prog (Instr.indexAt 111 (Value.slice m_1a m_1n m_1c) (Value.int IntKind.i64 x6)) (Value.pointer (some ad10)) ∧
 ∃ (x11 : Int),
 Reads Proofs.Try.prog [] (Instr.loadAt 2 (Value.pointer (some (Addr.mk ad10.block (ad10.off + 2) none)))) w7 (Value.int IntKind.i64 x11) ∧
 (decide (x11 < x5) = true →
 ∃ (ad12 : Addr),
 Gives Proofs.Try.prog (Instr.indexAt 111 (Value.slice m_1a m_1n m_1c) (Value.int IntKind.i64 x6)) (Value.pointer (some ad12)) ∧
 ∃ (x13 : Int),
 Reads Proofs.Try.prog [] (Instr.loadAt 2 (Value.pointer (some (Addr.mk ad12.block (ad12.off + 2) none)))) w7 (Value.int IntKind.i64 x13) ∧
 J2 (x13, IntKind.i64.wrap (x6 + 1), ()) w7 ∧ J3 (x13, IntKind.i64.wrap (x6 + 1), ()) w7 < J3 (x5, x6, ()) w7) ∧
 (decide (x11 < x5) = false → J2 (x5, IntKind.i64.wrap (x6 + 1), ()) w7 ∧ J3 (x5, IntKind.i64.wrap (x6 + 1), ()) w7 < J3 (x5, x6, ()) w7))) ∧
 (decide (x6 < (↑m_1n : Int)) = false → ∀ (w14 : World), Bel w7 w14 → Under [n1] w14 → R (Ending.returned (Value.tuple #[Value.int IntKind.i64 x5, Value.bool (decide ((↑m_1n : Int) > 0))])) w14)
theorem f63_eq (m_0 : Int) (m_1a : Option Addr) (m_1n : Nat) (m_1c : Nat) (w : World) (R : Ending → World → Prop) : (fnF Go.Proofs.Try.prog h63 Go.Proofs.Try.f63 [Value.agg #[Value.int IntKind.i64 m_0, Value.slice m_1a m_1n m_1c]] w R).den = f63_vc m_0 m_1a m_1n m_1c w R := by kernel_rfl
theorem f63_calls (m_0 : Int) (m_1a : Option Addr) (m_1n : Nat) (m_1c : Nat) (w : World) (R : Ending → World → Prop) (h : f63_vc m_0 m_1a m_1n m_1c w R) : Calls Go.Proofs.Try.prog 63 (List.toArray [Value.agg #[Value.int IntKind.i64 m_0, Value.slice m_1a m_1n m_1c]]) w R :=
 fn_sound (H := h63) (fn := Go.Proofs.Try.f63) (by kernel_rfl) (by kernel_rfl) (by kernel_rfl) ((f63_eq m_0 m_1a m_1n m_1c w R).mpr h)


/-! (manciple/mancipleref26.M).Blocks -/
def h64 : Hints := ⟨[4], [20, 29, 39], [14, 44, 25, 35], [], [], [(2, ⟨[(9, .int .i64)], []⟩)], [], [], []⟩
def f64_vc (m_0 : Int) (m_1a : Option Addr) (m_1n : Nat) (m_1c : Nat) (frame : Int) (agent : Int) (va : Option Addr) (vn : Nat) (vc : Nat) (w : World) (R : Ending → World → Prop) : Prop :=
 ∀ (n1 : Nat),
 w.heap.size ≤ n1 →
 ∃ (J2 : Int × Unit → World → Prop),
 ∃ (J3 : Int × Unit → World → Nat),
 (∀ (w4 : World), Bel w w4 → Under [n1] w4 → J2 (0, ()) w4) ∧
 ∀ (x5 : Int) (w6 : World),
 J2 (x5, ()) w6 →
 (decide (x5 < (↑m_1n : Int)) = true →
 ∃ (ad7 : Addr),
 Gives Proofs.Try.prog (Instr.indexAt 111 (Value.slice m_1a m_1n m_1c) (Value.int IntKind.i64 x5)) (Value.pointer (some ad7)) ∧
 ∃ (x8 : Int),
 Reads Proofs.Try.prog [] (Instr.loadAt 2 (Value.pointer (some ad7))) w6 (Value.int IntKind.i64 x8) ∧
 ((x8 == frame) = true →
 ∃ (ad9 : Addr),
 Gives Proofs.Try.prog (Instr.indexAt 111 (Value.slice m_1a m_1n m_1c) (Value.int IntKind.i64 x5)) (Value.pointer (some ad9)) ∧
 ∃ (x10 : Int),
 Reads Proofs.Try.prog [] (Instr.loadAt 2 (Value.pointer (some (Addr.mk ad9.block (ad9.off + 1) none)))) w6 (Value.int IntKind.i64 x10) ∧
 ((x10 == agent) = true →
 ∃ (ad11 : Addr),
 Gives Proofs.Try.prog (Instr.indexAt 111 (Value.slice m_1a m_1n m_1c) (Value.int IntKind.i64 x5)) (Value.pointer (some ad11)) ∧
 ∃ (a12 : Option Addr),
 ∃ (n13 : Nat),
 ∃ (n14 : Nat),
 Reads Proofs.Try.prog [] (Instr.loadAt 23 (Value.pointer (some (Addr.mk ad11.block (ad11.off + 3) none)))) w6 (Value.slice a12 n13 n14) ∧
 Calls Proofs.Try.prog 106 #[Value.slice a12 n13 n14, Value.slice va vn vc] w6 fun (e15 : Ending) (w16 : World) =>
 ∃ (b17 : Bool),
 e15 = Ending.returned (Value.bool b17) ∧
 Keeps [n1] w6 w16 ∧
 (b17 = true → R (Ending.returned (Value.bool true)) w16) ∧ (b17 = false → J2 (IntKind.i64.wrap (x5 + 1), ()) w16 ∧ J3 (IntKind.i64.wrap (x5 + 1), ()) w16 < J3 (x5, ()) w6)) ∧
 ((x10 == agent) = false → J2 (IntKind.i64.wrap (x5 + 1), ()) w6 ∧ J3 (IntKind.i64.wrap (x5 + 1), ()) w6 < J3 (x5, ()) w6)) ∧
 ((x8 == frame) = false → J2 (IntKind.i64.wrap (x5 + 1), ()) w6 ∧ J3 (IntKind.i64.wrap (x5 + 1), ()) w6 < J3 (x5, ()) w6)) ∧
 (decide (x5 < (↑m_1n : Int)) = false → R (Ending.returned (Value.bool false)) w6)
theorem f64_eq (m_0 : Int) (m_1a : Option Addr) (m_1n : Nat) (m_1c : Nat) (frame : Int) (agent : Int) (va : Option Addr) (vn : Nat) (vc : Nat) (w : World) (R : Ending → World → Prop) : (fnF Go.Proofs.Try.prog h64 Go.Proofs.Try.f64 [Value.agg #[Value.int IntKind.i64 m_0, Value.slice m_1a m_1n m_1c], Value.int IntKind.i64 frame, Value.int IntKind.i64 agent, Value.slice va vn vc] w R).den = f64_vc m_0 m_1a m_1n m_1c frame agent va vn vc w R := by kernel_rfl
theorem f64_calls (m_0 : Int) (m_1a : Option Addr) (m_1n : Nat) (m_1c : Nat) (frame : Int) (agent : Int) (va : Option Addr) (vn : Nat) (vc : Nat) (w : World) (R : Ending → World → Prop) (h : f64_vc m_0 m_1a m_1n m_1c frame agent va vn vc w R) : Calls Go.Proofs.Try.prog 64 (List.toArray [Value.agg #[Value.int IntKind.i64 m_0, Value.slice m_1a m_1n m_1c], Value.int IntKind.i64 frame, Value.int IntKind.i64 agent, Value.slice va vn vc]) w R :=
 fn_sound (H := h64) (fn := Go.Proofs.Try.f64) (by kernel_rfl) (by kernel_rfl) (by kernel_rfl) ((f64_eq m_0 m_1a m_1n m_1c frame agent va vn vc w R).mpr h)


/-! (*manciple/filters.Table).Long -/
def h65 : Hints := ⟨[], [7], [5], [], [], [], [], [], []⟩
def f65_vc (t : Option Addr) (w : World) (R : Ending → World → Prop) : Prop :=
 Calls Proofs.Try.prog 69 #[Value.pointer t] w fun (e1 : Ending) (w2 : World) =>
 ∃ (b3 : Bool),
 e1 = Ending.returned (Value.bool b3) ∧
 ((!b3) = true → R (Ending.returned (Value.int IntKind.i64 0)) w2) ∧
 ((!b3) = false →
 ∃ (ad4 : Addr),
 t = some ad4 ∧ ∃ (x5 : Int), Reads Proofs.Try.prog [] (Instr.loadAt 3 (Value.pointer (some (Addr.mk ad4.block (ad4.off + 1) none)))) w2 (Value.int IntKind.i64 x5) ∧ R (Ending.returned (Value.int IntKind.i64 x5)) w2)
theorem f65_eq (t : Option Addr) (w : World) (R : Ending → World → Prop) : (fnF Go.Proofs.Try.prog h65 Go.Proofs.Try.f65 [Value.pointer t] w R).den = f65_vc t w R := by kernel_rfl
theorem f65_calls (t : Option Addr) (w : World) (R : Ending → World → Prop) (h : f65_vc t w R) : Calls Go.Proofs.Try.prog 65 (List.toArray [Value.pointer t]) w R :=
 fn_sound (H := h65) (fn := Go.Proofs.Try.f65) (by kernel_rfl) (by kernel_rfl) (by kernel_rfl) ((f65_eq t w R).mpr h)


/-! manciple/mancipleref26.Same -/
def h66 : Hints := ⟨[], [19, 23], [10, 14, 26], [(6, [0, 1, 2, 3, 4, 5, 6, 7, 8, 9])], [], [(4, ⟨[(5, .int .i64)], []⟩)], [], [], []⟩
def f66_vc (aa : Option Addr) (an : Nat) (ac : Nat) (ba : Option Addr) (bn : Nat) (bc : Nat) (w : World) (R : Ending → World → Prop) : Prop :=
 (((↑an : Int) != (↑bn : Int)) = true → R (Ending.returned (Value.bool false)) w) ∧
 (((↑an : Int) != (↑bn : Int)) = false →
 ∃ (J1 : Int × Unit → World → Prop),
 ∃ (J2 : Int × Unit → World → Nat),
 J1 (0, ()) w ∧
 ∀ (x3 : Int) (w4 : World),
 J1 (x3, ()) w4 →
 (decide (x3 < (↑an : Int)) = true →
 ∃ (ad5 : Addr),
 Gives Proofs.Try.prog (Instr.indexAt 111 (Value.slice aa an ac) (Value.int IntKind.i64 x3)) (Value.pointer (some ad5)) ∧
 ∃ (x6 : Int),
 ∃ (x7 : Int),
 ∃ (x8 : Int),
 ∃ (a9 : Option Addr),
 ∃ (n10 : Nat),
 ∃ (n11 : Nat),
 Reads Proofs.Try.prog [] (Instr.loadAt 25 (Value.pointer (some ad5))) w4 (Value.agg #[Value.int IntKind.i64 x6, Value.int IntKind.i64 x7, Value.int IntKind.i64 x8, Value.slice a9 n10 n11]) ∧
 ∃ (ad12 : Addr),
 Gives Proofs.Try.prog (Instr.indexAt 111 (Value.slice ba bn bc) (Value.int IntKind.i64 x3)) (Value.pointer (some ad12)) ∧
 ∃ (x13 : Int),
 ∃ (x14 : Int),
 ∃ (x15 : Int),
 ∃ (a16 : Option Addr),
 ∃ (n17 : Nat),
 ∃ (n18 : Nat),
 Reads Proofs.Try.prog [] (Instr.loadAt 25 (Value.pointer (some ad12))) w4
 (Value.agg #[Value.int IntKind.i64 x13, Value.int IntKind.i64 x14, Value.int IntKind.i64 x15, Value.slice a16 n17 n18]) ∧
 ∀ (w19 : World),
 Bel w4 w19 →
 Calls Proofs.Try.prog 112
 #[Value.agg #[Value.int IntKind.i64 x6, Value.int IntKind.i64 x7, Value.int IntKind.i64 x8, Value.slice a9 n10 n11],
 Value.agg #[Value.int IntKind.i64 x13, Value.int IntKind.i64 x14, Value.int IntKind.i64 x15, Value.slice a16 n17 n18]]
 w19 fun (e20 : Ending) (w21 : World) =>
 ∃ (b22 : Bool),
 e20 = Ending.returned (Value.bool b22) ∧
 ((!b22) = true → R (Ending.returned (Value.bool false)) w21) ∧
 ((!b22) = false → J1 (IntKind.i64.wrap (x3 + 1), ()) w21 ∧ J2 (IntKind.i64.wrap (x3 + 1), ()) w21 < J2 (x3, ()) w4)) ∧
 (decide (x3 < (↑an : Int)) = false → R (Ending.returned (Value.bool true)) w4))
theorem f66_eq (aa : Option Addr) (an : Nat) (ac : Nat) (ba : Option Addr) (bn : Nat) (bc : Nat) (w : World) (R : Ending → World → Prop) : (fnF Go.Proofs.Try.prog h66 Go.Proofs.Try.f66 [Value.slice aa an ac, Value.slice ba bn bc] w R).den = f66_vc aa an ac ba bn bc w R := by kernel_rfl
theorem f66_calls (aa : Option Addr) (an : Nat) (ac : Nat) (ba : Option Addr) (bn : Nat) (bc : Nat) (w : World) (R : Ending → World → Prop) (h : f66_vc aa an ac ba bn bc w R) : Calls Go.Proofs.Try.prog 66 (List.toArray [Value.slice aa an ac, Value.slice ba bn bc]) w R :=
 fn_sound (H := h66) (fn := Go.Proofs.Try.f66) (by kernel_rfl) (by kernel_rfl) (by kernel_rfl) ((f66_eq aa an ac ba bn bc w R).mpr h)


/-! (*manciple/filters.Table).Lose -/
def h67 : Hints := ⟨[], [], [], [], [], [], [], [], []⟩
def f67_vc (t : Option Addr) (agent : Int) (w : World) (R : Ending → World → Prop) : Prop :=
 OpW Proofs.Try.prog (valueS (Instr.box 2 (Value.int IntKind.i64 agent))) w fun (v1 : Value) (w2 : World) =>
 ∃ (ad3 : Addr),
 v1 = Value.pointer (some ad3) ∧
 Calls Proofs.Try.prog 110 #[Value.pointer t, Value.func (Fn.func 116) #[] #[Value.pointer (some ad3)]] w2 fun (e4 : Ending) (w5 : World) =>
 ∃ (x6 : Int), e4 = Ending.returned (Value.int IntKind.i64 x6) ∧ R (Ending.returned (Value.int IntKind.i64 x6)) w5
theorem f67_eq (t : Option Addr) (agent : Int) (w : World) (R : Ending → World → Prop) : (fnF Go.Proofs.Try.prog h67 Go.Proofs.Try.f67 [Value.pointer t, Value.int IntKind.i64 agent] w R).den = f67_vc t agent w R := by kernel_rfl
theorem f67_calls (t : Option Addr) (agent : Int) (w : World) (R : Ending → World → Prop) (h : f67_vc t agent w R) : Calls Go.Proofs.Try.prog 67 (List.toArray [Value.pointer t, Value.int IntKind.i64 agent]) w R :=
 fn_sound (H := h67) (fn := Go.Proofs.Try.f67) (by kernel_rfl) (by kernel_rfl) (by kernel_rfl) ((f67_eq t agent w R).mpr h)


/-! (*manciple/filters.Table).Expire -/
def h68 : Hints := ⟨[], [], [], [], [], [], [], [], []⟩
def f68_vc (t : Option Addr) (now : Int) (w : World) (R : Ending → World → Prop) : Prop :=
 OpW Proofs.Try.prog (valueS (Instr.box 2 (Value.int IntKind.i64 now))) w fun (v1 : Value) (w2 : World) =>
 ∃ (ad3 : Addr),
 v1 = Value.pointer (some ad3) ∧
 Calls Proofs.Try.prog 110 #[Value.pointer t, Value.func (Fn.func 117) #[] #[Value.pointer (some ad3)]] w2 fun (e4 : Ending) (w5 : World) =>
 ∃ (x6 : Int), e4 = Ending.returned (Value.int IntKind.i64 x6) ∧ R (Ending.returned (Value.int IntKind.i64 x6)) w5
theorem f68_eq (t : Option Addr) (now : Int) (w : World) (R : Ending → World → Prop) : (fnF Go.Proofs.Try.prog h68 Go.Proofs.Try.f68 [Value.pointer t, Value.int IntKind.i64 now] w R).den = f68_vc t now w R := by kernel_rfl
theorem f68_calls (t : Option Addr) (now : Int) (w : World) (R : Ending → World → Prop) (h : f68_vc t now w R) : Calls Go.Proofs.Try.prog 68 (List.toArray [Value.pointer t, Value.int IntKind.i64 now]) w R :=
 fn_sound (H := h68) (fn := Go.Proofs.Try.f68) (by kernel_rfl) (by kernel_rfl) (by kernel_rfl) ((f68_eq t now w R).mpr h)


/-! (*manciple/filters.Table).made -/
def h69 : Hints := ⟨[], [4, 7, 10], [5], [], [], [], [], [], []⟩
def f69_vc (t : Option Addr) (w : World) (R : Ending → World → Prop) : Prop :=
 ∃ (b1 : Bool),
 Gives Proofs.Try.prog (binOpS BinOp.neq 27 (Operand.tmp 3) (Operand.const (Value.pointer none)) (Value.pointer t) (Value.pointer none)) (Value.bool b1) ∧
 (b1 = true →
 ∃ (ad2 : Addr),
 t = some ad2 ∧
 ∃ (r3 : Option Nat),
 Reads Proofs.Try.prog [] (Instr.loadAt 113 (Value.pointer (some (Addr.mk ad2.block (ad2.off + 2) none)))) w (Value.map r3) ∧
 ∃ (b4 : Bool), Gives Proofs.Try.prog (binOpS BinOp.neq 113 (Operand.tmp 9) (Operand.const (Value.map none)) (Value.map r3) (Value.map none)) (Value.bool b4) ∧ R (Ending.returned (Value.bool b4)) w) ∧
 (b1 = false → R (Ending.returned (Value.bool false)) w)
theorem f69_eq (t : Option Addr) (w : World) (R : Ending → World → Prop) : (fnF Go.Proofs.Try.prog h69 Go.Proofs.Try.f69 [Value.pointer t] w R).den = f69_vc t w R := by kernel_rfl
theorem f69_calls (t : Option Addr) (w : World) (R : Ending → World → Prop) (h : f69_vc t w R) : Calls Go.Proofs.Try.prog 69 (List.toArray [Value.pointer t]) w R :=
 fn_sound (H := h69) (fn := Go.Proofs.Try.f69) (by kernel_rfl) (by kernel_rfl) (by kernel_rfl) ((f69_eq t w R).mpr h)


/-! slices.ContainsFunc[[]manciple/api.Filter,manciple/api.Filter] -/
def h70 : Hints := ⟨[], [], [], [], [], [], [], [], []⟩
def f70_vc (sa : Option Addr) (sn : Nat) (sc : Nat) (f : Value) (w : World) (R : Ending → World → Prop) : Prop :=
 Calls Proofs.Try.prog 118 #[Value.slice sa sn sc, f] w fun (e1 : Ending) (w2 : World) => ∃ (x3 : Int), e1 = Ending.returned (Value.int IntKind.i64 x3) ∧ R (Ending.returned (Value.bool (decide (x3 ≥ 0)))) w2
theorem f70_eq (sa : Option Addr) (sn : Nat) (sc : Nat) (f : Value) (w : World) (R : Ending → World → Prop) : (fnF Go.Proofs.Try.prog h70 Go.Proofs.Try.f70 [Value.slice sa sn sc, f] w R).den = f70_vc sa sn sc f w R := by kernel_rfl
theorem f70_calls (sa : Option Addr) (sn : Nat) (sc : Nat) (f : Value) (w : World) (R : Ending → World → Prop) (h : f70_vc sa sn sc f w R) : Calls Go.Proofs.Try.prog 70 (List.toArray [Value.slice sa sn sc, f]) w R :=
 fn_sound (H := h70) (fn := Go.Proofs.Try.f70) (by kernel_rfl) (by kernel_rfl) (by kernel_rfl) ((f70_eq sa sn sc f w R).mpr h)


/-! (*manciple/filters.Table).Blocks$1 -/
def h71 : Hints := ⟨[2], [], [], [], [], [], [], [], []⟩
def f71_vc (f_0 : Int) (f_1 : Int) (f_2 : Int) (f_3a : Option Addr) (f_3n : Nat) (f_3c : Nat) (cap0 : Value) (w : World) (R : Ending → World → Prop) : Prop :=
 ∀ (n1 : Nat),
 w.heap.size ≤ n1 →
 ∃ (a2 : Option Addr),
 ∃ (n3 : Nat),
 ∃ (n4 : Nat),
 Reads Proofs.Try.prog [] (Instr.loadAt 23 cap0) w (Value.slice a2 n3 n4) ∧
 ∀ (w5 : World),
 Bel w w5 →
 Under [n1] w5 →
 Calls Proofs.Try.prog 43 #[Value.slice f_3a f_3n f_3c, Value.slice a2 n3 n4] w5 fun (e6 : Ending) (w7 : World) =>
 ∃ (b8 : Bool), e6 = Ending.returned (Value.bool b8) ∧ Keeps [n1] w5 w7 ∧ R (Ending.returned (Value.bool b8)) w7
theorem f71_eq (f_0 : Int) (f_1 : Int) (f_2 : Int) (f_3a : Option Addr) (f_3n : Nat) (f_3c : Nat) (cap0 : Value) (w : World) (R : Ending → World → Prop) : (fnF Go.Proofs.Try.prog h71 Go.Proofs.Try.f71 [Value.agg #[Value.int IntKind.i64 f_0, Value.int IntKind.i64 f_1, Value.int IntKind.i64 f_2, Value.slice f_3a f_3n f_3c], cap0] w R).den = f71_vc f_0 f_1 f_2 f_3a f_3n f_3c cap0 w R := by kernel_rfl
theorem f71_calls (f_0 : Int) (f_1 : Int) (f_2 : Int) (f_3a : Option Addr) (f_3n : Nat) (f_3c : Nat) (cap0 : Value) (w : World) (R : Ending → World → Prop) (h : f71_vc f_0 f_1 f_2 f_3a f_3n f_3c cap0 w R) : Calls Go.Proofs.Try.prog 71 (List.toArray [Value.agg #[Value.int IntKind.i64 f_0, Value.int IntKind.i64 f_1, Value.int IntKind.i64 f_2, Value.slice f_3a f_3n f_3c], cap0]) w R :=
 fn_sound (H := h71) (fn := Go.Proofs.Try.f71) (by kernel_rfl) (by kernel_rfl) (by kernel_rfl) ((f71_eq f_0 f_1 f_2 f_3a f_3n f_3c cap0 w R).mpr h)


/-! slices.BinarySearchFunc[[]manciple/api.Filter,manciple/api.Filter,manciple/api.Filter] -/
def h77 : Hints := ⟨[4], [27, 30, 43, 46], [17, 31, 39], [(5, [0, 1, 2, 3, 4, 5, 6, 7]), (8, [0, 1, 2, 3, 4, 5, 6, 7, 8, 9, 10, 11, 12, 13, 14, 15])], [], [(3, ⟨[(9, .int .i64), (10, .int .i64)], []⟩)], [], [], []⟩
def f77_vc (xa : Option Addr) (xn : Nat) (xc : Nat) (target_0 : Int) (target_1 : Int) (target_2 : Int) (target_3a : Option Addr) (target_3n : Nat) (target_3c : Nat) (cmp : Value) (w : World) (R : Ending → World → Prop) : Prop :=
 ∀ (n1 : Nat),
 w.heap.size ≤ n1 →
 ∃ (J2 : Int × Int × Unit → World → Prop),
 ∃ (J3 : Int × Int × Unit → World → Nat),
 (∀ (w4 : World), Bel w w4 → Under [n1] w4 → J2 (0, (↑xn : Int), ()) w4) ∧
 ∀ (x5 x6 : Int) (w7 : World),
 J2 (x5, x6, ()) w7 →
 (decide (x5 < x6) = true →
 ∃ (ad8 : Addr),
 Gives Proofs.Try.prog (Instr.indexAt 111 (Value.slice xa xn xc) (Value.int IntKind.i64 (IntKind.i64.wrap ((IntKind.u64.wrap (IntKind.i64.wrap (x5 + x6))).fdiv 2)))) (Value.pointer (some ad8)) ∧
 ∃ (x9 : Int),
 ∃ (x10 : Int),
 ∃ (x11 : Int),
 ∃ (a12 : Option Addr),
 ∃ (n13 : Nat),
 ∃ (n14 : Nat),
 Reads Proofs.Try.prog [] (Instr.loadAt 25 (Value.pointer (some ad8))) w7 (Value.agg #[Value.int IntKind.i64 x9, Value.int IntKind.i64 x10, Value.int IntKind.i64 x11, Value.slice a12 n13 n14]) ∧
 ∀ (w15 : World),
 Bel w7 w15 →
 Under [n1] w15 →
 OpW Proofs.Try.prog
 (invokeS cmp
 #[Value.agg #[Value.int IntKind.i64 x9, Value.int IntKind.i64 x10, Value.int IntKind.i64 x11, Value.slice a12 n13 n14],
 Value.agg #[Value.int IntKind.i64 target_0, Value.int IntKind.i64 target_1, Value.int IntKind.i64 target_2, Value.slice target_3a target_3n target_3c]])
 w15 fun (v16 : Value) (w17 : World) =>
 ∃ (x18 : Int),
 v16 = Value.int IntKind.i64 x18 ∧
 Keeps [n1] w15 w17 ∧
 (decide (x18 < 0) = true →
 J2 (IntKind.i64.wrap (IntKind.i64.wrap ((IntKind.u64.wrap (IntKind.i64.wrap (x5 + x6))).fdiv 2) + 1), x6, ()) w17 ∧
 J3 (IntKind.i64.wrap (IntKind.i64.wrap ((IntKind.u64.wrap (IntKind.i64.wrap (x5 + x6))).fdiv 2) + 1), x6, ()) w17 < J3 (x5, x6, ()) w7) ∧
 (decide (x18 < 0) = false →
 J2 (x5, IntKind.i64.wrap ((IntKind.u64.wrap (IntKind.i64.wrap (x5 + x6))).fdiv 2), ()) w17 ∧
 J3 (x5, IntKind.i64.wrap ((IntKind.u64.wrap (IntKind.i64.wrap (x5 + x6))).fdiv 2), ()) w17 < J3 (x5, x6, ()) w7)) ∧
 (decide (x5 < x6) = false →
 (decide (x5 < (↑xn : Int)) = true →
 ∃ (ad19 : Addr),
 Gives Proofs.Try.prog (Instr.indexAt 111 (Value.slice xa xn xc) (Value.int IntKind.i64 x5)) (Value.pointer (some ad19)) ∧
 ∃ (x20 : Int),
 ∃ (x21 : Int),
 ∃ (x22 : Int),
 ∃ (a23 : Option Addr),
 ∃ (n24 : Nat),
 ∃ (n25 : Nat),
 Reads Proofs.Try.prog [] (Instr.loadAt 25 (Value.pointer (some ad19))) w7 (Value.agg #[Value.int IntKind.i64 x20, Value.int IntKind.i64 x21, Value.int IntKind.i64 x22, Value.slice a23 n24 n25]) ∧
 ∀ (w26 : World),
 Bel w7 w26 →
 Under [n1] w26 →
 OpW Proofs.Try.prog
 (invokeS cmp
 #[Value.agg #[Value.int IntKind.i64 x20, Value.int IntKind.i64 x21, Value.int IntKind.i64 x22, Value.slice a23 n24 n25],
 Value.agg #[Value.int IntKind.i64 target_0, Value.int IntKind.i64 target_1, Value.int IntKind.i64 target_2, Value.slice target_3a target_3n target_3c]])
 w26 fun (v27 : Value) (w28 : World) =>
 ∃ (x29 : Int), v27 = Value.int IntKind.i64 x29 ∧ Keeps [n1] w26 w28 ∧ R (Ending.returned (Value.tuple #[Value.int IntKind.i64 x5, Value.bool (x29 == 0)])) w28) ∧
 (decide (x5 < (↑xn : Int)) = false → ∀ (w30 : World), Bel w7 w30 → Under [n1] w30 → R (Ending.returned (Value.tuple #[Value.int IntKind.i64 x5, Value.bool false])) w30))
theorem f77_eq (xa : Option Addr) (xn : Nat) (xc : Nat) (target_0 : Int) (target_1 : Int) (target_2 : Int) (target_3a : Option Addr) (target_3n : Nat) (target_3c : Nat) (cmp : Value) (w : World) (R : Ending → World → Prop) : (fnF Go.Proofs.Try.prog h77 Go.Proofs.Try.f77 [Value.slice xa xn xc, Value.agg #[Value.int IntKind.i64 target_0, Value.int IntKind.i64 target_1, Value.int IntKind.i64 target_2, Value.slice target_3a target_3n target_3c], cmp] w R).den = f77_vc xa xn xc target_0 target_1 target_2 target_3a target_3n target_3c cmp w R := by kernel_rfl
theorem f77_calls (xa : Option Addr) (xn : Nat) (xc : Nat) (target_0 : Int) (target_1 : Int) (target_2 : Int) (target_3a : Option Addr) (target_3n : Nat) (target_3c : Nat) (cmp : Value) (w : World) (R : Ending → World → Prop) (h : f77_vc xa xn xc target_0 target_1 target_2 target_3a target_3n target_3c cmp w R) : Calls Go.Proofs.Try.prog 77 (List.toArray [Value.slice xa xn xc, Value.agg #[Value.int IntKind.i64 target_0, Value.int IntKind.i64 target_1, Value.int IntKind.i64 target_2, Value.slice target_3a target_3n target_3c], cmp]) w R :=
 fn_sound (H := h77) (fn := Go.Proofs.Try.f77) (by kernel_rfl) (by kernel_rfl) (by kernel_rfl) ((f77_eq xa xn xc target_0 target_1 target_2 target_3a target_3n target_3c cmp w R).mpr h)


/-! manciple/filters.ahead -/
def h78 : Hints := ⟨[2, 3], [], [], [(1, [0, 1, 2, 3, 5, 6, 7, 8, 10, 11, 12, 13, 15, 16, 17, 18, 4, 9, 14, 19, 20, 21, 22])], [], [], [], [], []⟩
def f78_vc (a_0 : Int) (a_1 : Int) (a_2 : Int) (a_3a : Option Addr) (a_3n : Nat) (a_3c : Nat) (b_0 : Int) (b_1 : Int) (b_2 : Int) (b_3a : Option Addr) (b_3n : Nat) (b_3c : Nat) (w : World) (R : Ending → World → Prop) : Prop :=
 ∀ (n1 : Nat),
 w.heap.size ≤ n1 →
 ∀ (n2 : Nat),
 w.heap.size ≤ n2 →
 ∀ (w3 : World),
 Bel w w3 →
 Under [n1, n2] w3 →
 Calls Proofs.Try.prog 94 #[Value.int IntKind.i64 a_0, Value.int IntKind.i64 b_0] w3 fun (e4 : Ending) (w5 : World) =>
 ∃ (x6 : Int),
 e4 = Ending.returned (Value.int IntKind.i64 x6) ∧
 Keeps [n1, n2] w3 w5 ∧
 Calls Proofs.Try.prog 94 #[Value.int IntKind.i64 a_1, Value.int IntKind.i64 b_1] w5 fun (e7 : Ending) (w8 : World) =>
 ∃ (x9 : Int),
 e7 = Ending.returned (Value.int IntKind.i64 x9) ∧
 Keeps [n1, n2] w5 w8 ∧
 Calls Proofs.Try.prog 94 #[Value.int IntKind.i64 a_2, Value.int IntKind.i64 b_2] w8 fun (e10 : Ending) (w11 : World) =>
 ∃ (x12 : Int),
 e10 = Ending.returned (Value.int IntKind.i64 x12) ∧
 Keeps [n1, n2] w8 w11 ∧
 Calls Proofs.Try.prog 120 #[Value.slice a_3a a_3n a_3c, Value.slice b_3a b_3n b_3c] w11 fun (e13 : Ending) (w14 : World) =>
 ∃ (x15 : Int),
 e13 = Ending.returned (Value.int IntKind.i64 x15) ∧
 Keeps [n1, n2] w11 w14 ∧
 OpW Proofs.Try.prog (valueS (Instr.buildSlice 180 4 #[(0, Value.int IntKind.i64 x6), (1, Value.int IntKind.i64 x9), (2, Value.int IntKind.i64 x12), (3, Value.int IntKind.i64 x15)])) w14
 fun (v16 : Value) (w17 : World) =>
 ∃ (a18 : Option Addr),
 ∃ (n19 : Nat),
 ∃ (n20 : Nat),
 v16 = Value.slice a18 n19 n20 ∧
 Keeps [n1, n2] w14 w17 ∧
 Calls Proofs.Try.prog 119 #[Value.slice a18 n19 n20] w17 fun (e21 : Ending) (w22 : World) =>
 ∃ (x23 : Int), e21 = Ending.returned (Value.int IntKind.i64 x23) ∧ Keeps [n1, n2] w17 w22 ∧ R (Ending.returned (Value.int IntKind.i64 x23)) w22
theorem f78_eq (a_0 : Int) (a_1 : Int) (a_2 : Int) (a_3a : Option Addr) (a_3n : Nat) (a_3c : Nat) (b_0 : Int) (b_1 : Int) (b_2 : Int) (b_3a : Option Addr) (b_3n : Nat) (b_3c : Nat) (w : World) (R : Ending → World → Prop) : (fnF Go.Proofs.Try.prog h78 Go.Proofs.Try.f78 [Value.agg #[Value.int IntKind.i64 a_0, Value.int IntKind.i64 a_1, Value.int IntKind.i64 a_2, Value.slice a_3a a_3n a_3c],
 Value.agg #[Value.int IntKind.i64 b_0, Value.int IntKind.i64 b_1, Value.int IntKind.i64 b_2, Value.slice b_3a b_3n b_3c]] w R).den = f78_vc a_0 a_1 a_2 a_3a a_3n a_3c b_0 b_1 b_2 b_3a b_3n b_3c w R := by kernel_rfl
theorem f78_calls (a_0 : Int) (a_1 : Int) (a_2 : Int) (a_3a : Option Addr) (a_3n : Nat) (a_3c : Nat) (b_0 : Int) (b_1 : Int) (b_2 : Int) (b_3a : Option Addr) (b_3n : Nat) (b_3c : Nat) (w : World) (R : Ending → World → Prop) (h : f78_vc a_0 a_1 a_2 a_3a a_3n a_3c b_0 b_1 b_2 b_3a b_3n b_3c w R) : Calls Go.Proofs.Try.prog 78 (List.toArray [Value.agg #[Value.int IntKind.i64 a_0, Value.int IntKind.i64 a_1, Value.int IntKind.i64 a_2, Value.slice a_3a a_3n a_3c],
 Value.agg #[Value.int IntKind.i64 b_0, Value.int IntKind.i64 b_1, Value.int IntKind.i64 b_2, Value.slice b_3a b_3n b_3c]]) w R :=
 fn_sound (H := h78) (fn := Go.Proofs.Try.f78) (by kernel_rfl) (by kernel_rfl) (by kernel_rfl) ((f78_eq a_0 a_1 a_2 a_3a a_3n a_3c b_0 b_1 b_2 b_3a b_3n b_3c w R).mpr h)


/-! (*manciple/filters.Table).drop -/
def h110 : Hints := ⟨[7], [14, 19, 33, 42, 48, 57, 61], [12, 46], [(11, [0, 1, 2, 3, 4, 5])], [], [(6, ⟨[], []⟩)], [], [(23, .cons (.agg (.cons (.int .i64) (.cons (.int .i64) (.nil)))) (.cons (.sl) (.nil))), (25, .cons (.agg (.cons (.int .i64) (.cons (.int .i64) (.nil)))) (.cons (.sl) (.nil)))], []⟩
def f110_vc (t : Option Addr) (which : Value) (w : World) (R : Ending → World → Prop) : Prop :=
 Calls Proofs.Try.prog 69 #[Value.pointer t] w fun (e1 : Ending) (w2 : World) =>
 ∃ (b3 : Bool),
 e1 = Ending.returned (Value.bool b3) ∧
 ((!b3) = true → R (Ending.returned (Value.int IntKind.i64 0)) w2) ∧
 ((!b3) = false →
 ∃ (ad4 : Addr),
 t = some ad4 ∧
 ∃ (x5 : Int),
 Reads Proofs.Try.prog [] (Instr.loadAt 3 (Value.pointer (some (Addr.mk ad4.block (ad4.off + 1) none)))) w2 (Value.int IntKind.i64 x5) ∧
 OpW Proofs.Try.prog (valueS (Instr.makeMap 113 none)) w2 fun (v6 : Value) (w7 : World) =>
 ∃ (r8 : Option Nat),
 v6 = Value.map r8 ∧
 ∃ (ad9 : Addr),
 t = some ad9 ∧
 ∃ (r10 : Option Nat),
 Reads Proofs.Try.prog [] (Instr.loadAt 113 (Value.pointer (some (Addr.mk ad9.block (ad9.off + 2) none)))) w7 (Value.map r10) ∧
 OpW Proofs.Try.prog (valueS (Instr.range 113 (Value.map r10))) w7 fun (v11 : Value) (w12 : World) =>
 ∃ (ad13 : Addr),
 v11 = Value.pointer (some ad13) ∧
 ∃ (J14 : Unit → World → Prop),
 ∃ (J15 : Unit → World → Nat),
 J14 () w12 ∧
 ∀ (w16 : World),
 J14 () w16 →
 OpW Proofs.Try.prog (valueS (Instr.next (Value.pointer (some ad13)) false 0)) w16 fun (v17 : Value) (w18 : World) =>
 (v17 = Value.tuple #[Value.bool false] ∨
 ∃ (x :
 (nextShape
 (Hints.mk [7] [14, 19, 33, 42, 48, 57, 61] [12, 46] [(11, [0, 1, 2, 3, 4, 5])] [] [(6, LH.mk [] [])] []
 [(23, ((Sh.int IntKind.i64).cons ((Sh.int IntKind.i64).cons Sh.nil)).agg.cons (Sh.sl.cons Sh.nil)),
 (25, ((Sh.int IntKind.i64).cons ((Sh.int IntKind.i64).cons Sh.nil)).agg.cons (Sh.sl.cons Sh.nil))]
 [])
 #[Oper.mk (some 23) (Op.next (Operand.tmp 22) false) 0 "filters.go:76" #[] none,
 Oper.mk (some 24) (Op.extract (Operand.tmp 23) 0) 4 "filters.go:76" #[Edge.mk 0 Ground.data] none][0]).T),
 v17 =
 Value.tuple #[Value.bool true, Value.agg #[Value.int IntKind.i64 x.fst.fst, Value.int IntKind.i64 x.fst.snd.fst], Value.slice x.snd.fst.fst x.snd.fst.snd.fst x.snd.fst.snd.snd]) ∧
 (v17 = Value.tuple #[Value.bool false] →
 ∃ (ad19 : Addr),
 t = some ad19 ∧
 OpW Proofs.Try.prog (skipS (Instr.storeAt 113 (Value.pointer (some (Addr.mk ad19.block (ad19.off + 2) none))) (Value.map r8))) w18 fun (v20 : Value) (w21 : World) =>
 ∃ (ad22 : Addr),
 t = some ad22 ∧
 ∃ (x23 : Int),
 Reads Proofs.Try.prog [] (Instr.loadAt 3 (Value.pointer (some (Addr.mk ad22.block (ad22.off + 1) none)))) w21 (Value.int IntKind.i64 x23) ∧
 R (Ending.returned (Value.int IntKind.i64 (IntKind.i64.wrap (x5 - x23)))) w21) ∧
 ∀ (x24 x25 : Int) (a26 : Option Addr) (n27 n28 : Nat),
 v17 = Value.tuple #[Value.bool true, Value.agg #[Value.int IntKind.i64 x24, Value.int IntKind.i64 x25], Value.slice a26 n27 n28] →
 OpW Proofs.Try.prog ((Instr.entry (Value.pointer (some ad13))).bind fun (__do_lift : Value) => pure (Next.value __do_lift)) w18 fun (v29 : Value) (w30 : World) =>
 ∃ (x31 : Int),
 ∃ (x32 : Int),
 ∃ (a33 : Option Addr),
 ∃ (n34 : Nat),
 ∃ (n35 : Nat),
 v29 = Value.tuple #[Value.agg #[Value.int IntKind.i64 x31, Value.int IntKind.i64 x32], Value.slice a33 n34 n35] ∧
 ∀ (n36 : Nat),
 w30.heap.size ≤ n36 →
 ∀ (w37 : World),
 Evo [n36] w30 w37 →
 Under [n36] w37 →
 Calls Proofs.Try.prog 140 #[Value.slice a33 n34 n35] w37 fun (e38 : Ending) (w39 : World) =>
 ∃ (a40 : Option Addr),
 ∃ (n41 : Nat),
 ∃ (n42 : Nat),
 e38 = Ending.returned (Value.slice a40 n41 n42) ∧
 Keeps [n36] w37 w39 ∧
 Calls Proofs.Try.prog 139 #[Value.slice a40 n41 n42, which] w39 fun (e43 : Ending) (w44 : World) =>
 ∃ (a45 : Option Addr),
 ∃ (n46 : Nat),
 ∃ (n47 : Nat),
 e43 = Ending.returned (Value.slice a45 n46 n47) ∧
 Keeps [n36] w39 w44 ∧
 ∃ (ad48 : Addr),
 t = some ad48 ∧
 ∃ (x49 : Int),
 Reads Proofs.Try.prog [] (Instr.loadAt 3 (Value.pointer (some (Addr.mk ad48.block (ad48.off + 1) none)))) w44
 (Value.int IntKind.i64 x49) ∧
 ∃ (ad50 : Addr),
 t = some ad50 ∧
 OpW Proofs.Try.prog
 (skipS
 (Instr.storeAt 3 (Value.pointer (some (Addr.mk ad50.block (ad50.off + 1) none)))
 (Value.int IntKind.i64 (IntKind.i64.wrap (x49 - IntKind.i64.wrap ((↑n34 : Int) - (↑n46 : Int)))))))
 w44 fun (v51 : Value) (w52 : World) =>
 Keeps [n36] w44 w52 ∧
 (((↑n46 : Int) == 0) = true →
 ∃ (ad53 : Addr),
 t = some ad53 ∧
 ∃ (r54 : Option Nat),
 Reads Proofs.Try.prog [] (Instr.loadAt 113 (Value.pointer (some (Addr.mk ad53.block (ad53.off + 2) none))))
 w52 (Value.map r54) ∧
 ∀ (w55 : World),
 Bel w52 w55 →
 Under [n36] w55 →
 OpW Proofs.Try.prog
 (builtin Builtin.delete #[113, 40] 0 #[false, false]
 #[Value.map r54, Value.agg #[Value.int IntKind.i64 x31, Value.int IntKind.i64 x32]])
 w55 fun (v56 : Value) (w57 : World) =>
 v56 = Value.tuple #[] ∧ Keeps [n36] w55 w57 ∧ J14 () w57 ∧ J15 () w57 < J15 () w16) ∧
 (((↑n46 : Int) == 0) = false →
 OpW Proofs.Try.prog
 (skipS
 (Instr.mapUpdate 113 (Value.map r8) (Value.agg #[Value.int IntKind.i64 x31, Value.int IntKind.i64 x32])
 (Value.slice a45 n46 n47)))
 w52 fun (v58 : Value) (w59 : World) => Keeps [n36] w52 w59 ∧ J14 () w59 ∧ J15 () w59 < J15 () w16))
theorem f110_eq (t : Option Addr) (which : Value) (w : World) (R : Ending → World → Prop) : (fnF Go.Proofs.Try.prog h110 Go.Proofs.Try.f110 [Value.pointer t, which] w R).den = f110_vc t which w R := by kernel_rfl
theorem f110_calls (t : Option Addr) (which : Value) (w : World) (R : Ending → World → Prop) (h : f110_vc t which w R) : Calls Go.Proofs.Try.prog 110 (List.toArray [Value.pointer t, which]) w R :=
 fn_sound (H := h110) (fn := Go.Proofs.Try.f110) (by kernel_rfl) (by kernel_rfl) (by kernel_rfl) ((f110_eq t which w R).mpr h)


/-! (*manciple/filters.Table).Forget$1 -/
def h111 : Hints := ⟨[2], [], [], [], [], [], [], [], []⟩
def f111_vc (f_0 : Int) (f_1 : Int) (f_2 : Int) (f_3a : Option Addr) (f_3n : Nat) (f_3c : Nat) (cap0 : Value) (w : World) (R : Ending → World → Prop) : Prop :=
 ∀ (n1 : Nat), w.heap.size ≤ n1 → ∃ (x2 : Int), Reads Proofs.Try.prog [] (Instr.loadAt 2 cap0) w (Value.int IntKind.i64 x2) ∧ ∀ (w3 : World), Bel w w3 → Under [n1] w3 → R (Ending.returned (Value.bool (f_0 == x2))) w3
theorem f111_eq (f_0 : Int) (f_1 : Int) (f_2 : Int) (f_3a : Option Addr) (f_3n : Nat) (f_3c : Nat) (cap0 : Value) (w : World) (R : Ending → World → Prop) : (fnF Go.Proofs.Try.prog h111 Go.Proofs.Try.f111 [Value.agg #[Value.int IntKind.i64 f_0, Value.int IntKind.i64 f_1, Value.int IntKind.i64 f_2, Value.slice f_3a f_3n f_3c], cap0] w R).den = f111_vc f_0 f_1 f_2 f_3a f_3n f_3c cap0 w R := by kernel_rfl
theorem f111_calls (f_0 : Int) (f_1 : Int) (f_2 : Int) (f_3a : Option Addr) (f_3n : Nat) (f_3c : Nat) (cap0 : Value) (w : World) (R : Ending → World → Prop) (h : f111_vc f_0 f_1 f_2 f_3a f_3n f_3c cap0 w R) : Calls Go.Proofs.Try.prog 111 (List.toArray [Value.agg #[Value.int IntKind.i64 f_0, Value.int IntKind.i64 f_1, Value.int IntKind.i64 f_2, Value.slice f_3a f_3n f_3c], cap0]) w R :=
 fn_sound (H := h111) (fn := Go.Proofs.Try.f111) (by kernel_rfl) (by kernel_rfl) (by kernel_rfl) ((f111_eq f_0 f_1 f_2 f_3a f_3n f_3c cap0 w R).mpr h)


/-! manciple/mancipleref26.same -/
def h112 : Hints := ⟨[2, 3], [], [10, 17, 24], [], [], [], [], [], []⟩
def f112_vc (a_0 : Int) (a_1 : Int) (a_2 : Int) (a_3a : Option Addr) (a_3n : Nat) (a_3c : Nat) (b_0 : Int) (b_1 : Int) (b_2 : Int) (b_3a : Option Addr) (b_3n : Nat) (b_3c : Nat) (w : World) (R : Ending → World → Prop) : Prop :=
 ∀ (n1 : Nat),
 w.heap.size ≤ n1 →
 ∀ (n2 : Nat),
 w.heap.size ≤ n2 →
 ((a_0 == b_0) = true →
 ((a_1 == b_1) = true →
 ((a_2 == b_2) = true →
 ∀ (w3 : World),
 Bel w w3 →
 Under [n1, n2] w3 →
 Calls Proofs.Try.prog 82 #[Value.slice a_3a a_3n a_3c, Value.slice b_3a b_3n b_3c] w3 fun (e4 : Ending) (w5 : World) =>
 ∃ (b6 : Bool), e4 = Ending.returned (Value.bool b6) ∧ Keeps [n1, n2] w3 w5 ∧ R (Ending.returned (Value.bool b6)) w5) ∧
 ((a_2 == b_2) = false → ∀ (w7 : World), Bel w w7 → Under [n1, n2] w7 → R (Ending.returned (Value.bool false)) w7)) ∧
 ((a_1 == b_1) = false → ∀ (w8 : World), Bel w w8 → Under [n1, n2] w8 → R (Ending.returned (Value.bool false)) w8)) ∧
 ((a_0 == b_0) = false → ∀ (w9 : World), Bel w w9 → Under [n1, n2] w9 → R (Ending.returned (Value.bool false)) w9)
theorem f112_eq (a_0 : Int) (a_1 : Int) (a_2 : Int) (a_3a : Option Addr) (a_3n : Nat) (a_3c : Nat) (b_0 : Int) (b_1 : Int) (b_2 : Int) (b_3a : Option Addr) (b_3n : Nat) (b_3c : Nat) (w : World) (R : Ending → World → Prop) : (fnF Go.Proofs.Try.prog h112 Go.Proofs.Try.f112 [Value.agg #[Value.int IntKind.i64 a_0, Value.int IntKind.i64 a_1, Value.int IntKind.i64 a_2, Value.slice a_3a a_3n a_3c],
 Value.agg #[Value.int IntKind.i64 b_0, Value.int IntKind.i64 b_1, Value.int IntKind.i64 b_2, Value.slice b_3a b_3n b_3c]] w R).den = f112_vc a_0 a_1 a_2 a_3a a_3n a_3c b_0 b_1 b_2 b_3a b_3n b_3c w R := by kernel_rfl
theorem f112_calls (a_0 : Int) (a_1 : Int) (a_2 : Int) (a_3a : Option Addr) (a_3n : Nat) (a_3c : Nat) (b_0 : Int) (b_1 : Int) (b_2 : Int) (b_3a : Option Addr) (b_3n : Nat) (b_3c : Nat) (w : World) (R : Ending → World → Prop) (h : f112_vc a_0 a_1 a_2 a_3a a_3n a_3c b_0 b_1 b_2 b_3a b_3n b_3c w R) : Calls Go.Proofs.Try.prog 112 (List.toArray [Value.agg #[Value.int IntKind.i64 a_0, Value.int IntKind.i64 a_1, Value.int IntKind.i64 a_2, Value.slice a_3a a_3n a_3c],
 Value.agg #[Value.int IntKind.i64 b_0, Value.int IntKind.i64 b_1, Value.int IntKind.i64 b_2, Value.slice b_3a b_3n b_3c]]) w R :=
 fn_sound (H := h112) (fn := Go.Proofs.Try.f112) (by kernel_rfl) (by kernel_rfl) (by kernel_rfl) ((f112_eq a_0 a_1 a_2 a_3a a_3n a_3c b_0 b_1 b_2 b_3a b_3n b_3c w R).mpr h)


/-! manciple/mancipleref16.Ahead -/
def h113 : Hints := ⟨[2, 3], [], [9, 19, 30, 36], [], [], [], [], [], []⟩
def f113_vc (x_0 : Int) (x_1 : Int) (x_2 : Int) (x_3a : Option Addr) (x_3n : Nat) (x_3c : Nat) (y_0 : Int) (y_1 : Int) (y_2 : Int) (y_3a : Option Addr) (y_3n : Nat) (y_3c : Nat) (w : World) (R : Ending → World → Prop) : Prop :=
 ∀ (n1 : Nat),
 w.heap.size ≤ n1 →
 ∀ (n2 : Nat),
 w.heap.size ≤ n2 →
 ((x_0 != y_0) = true → ∀ (w3 : World), Bel w w3 → Under [n1, n2] w3 → R (Ending.returned (Value.bool (decide (x_0 < y_0)))) w3) ∧
 ((x_0 != y_0) = false →
 ((x_1 != y_1) = true → ∀ (w4 : World), Bel w w4 → Under [n1, n2] w4 → R (Ending.returned (Value.bool (decide (x_1 < y_1)))) w4) ∧
 ((x_1 != y_1) = false →
 (decide (x_2 < y_2) = true → ∀ (w5 : World), Bel w w5 → Under [n1, n2] w5 → R (Ending.returned (Value.bool true)) w5) ∧
 (decide (x_2 < y_2) = false →
 ((x_2 == y_2) = true →
 ∀ (w6 : World),
 Bel w w6 →
 Under [n1, n2] w6 →
 Calls Proofs.Try.prog 141 #[Value.slice x_3a x_3n x_3c, Value.slice y_3a y_3n y_3c] w6 fun (e7 : Ending) (w8 : World) =>
 ∃ (x9 : Int), e7 = Ending.returned (Value.int IntKind.i64 x9) ∧ Keeps [n1, n2] w6 w8 ∧ R (Ending.returned (Value.bool (decide (x9 < 0)))) w8) ∧
 ((x_2 == y_2) = false → ∀ (w10 : World), Bel w w10 → Under [n1, n2] w10 → R (Ending.returned (Value.bool false)) w10))))
theorem f113_eq (x_0 : Int) (x_1 : Int) (x_2 : Int) (x_3a : Option Addr) (x_3n : Nat) (x_3c : Nat) (y_0 : Int) (y_1 : Int) (y_2 : Int) (y_3a : Option Addr) (y_3n : Nat) (y_3c : Nat) (w : World) (R : Ending → World → Prop) : (fnF Go.Proofs.Try.prog h113 Go.Proofs.Try.f113 [Value.agg #[Value.int IntKind.i64 x_0, Value.int IntKind.i64 x_1, Value.int IntKind.i64 x_2, Value.slice x_3a x_3n x_3c],
 Value.agg #[Value.int IntKind.i64 y_0, Value.int IntKind.i64 y_1, Value.int IntKind.i64 y_2, Value.slice y_3a y_3n y_3c]] w R).den = f113_vc x_0 x_1 x_2 x_3a x_3n x_3c y_0 y_1 y_2 y_3a y_3n y_3c w R := by kernel_rfl
theorem f113_calls (x_0 : Int) (x_1 : Int) (x_2 : Int) (x_3a : Option Addr) (x_3n : Nat) (x_3c : Nat) (y_0 : Int) (y_1 : Int) (y_2 : Int) (y_3a : Option Addr) (y_3n : Nat) (y_3c : Nat) (w : World) (R : Ending → World → Prop) (h : f113_vc x_0 x_1 x_2 x_3a x_3n x_3c y_0 y_1 y_2 y_3a y_3n y_3c w R) : Calls Go.Proofs.Try.prog 113 (List.toArray [Value.agg #[Value.int IntKind.i64 x_0, Value.int IntKind.i64 x_1, Value.int IntKind.i64 x_2, Value.slice x_3a x_3n x_3c],
 Value.agg #[Value.int IntKind.i64 y_0, Value.int IntKind.i64 y_1, Value.int IntKind.i64 y_2, Value.slice y_3a y_3n y_3c]]) w R :=
 fn_sound (H := h113) (fn := Go.Proofs.Try.f113) (by kernel_rfl) (by kernel_rfl) (by kernel_rfl) ((f113_eq x_0 x_1 x_2 x_3a x_3n x_3c y_0 y_1 y_2 y_3a y_3n y_3c w R).mpr h)


/-! slices.MinFunc[[]manciple/api.Filter,manciple/api.Filter] -/
def h114 : Hints := ⟨[4, 5], [12, 23, 26, 30], [9, 17, 27], [(7, [0, 1, 2, 3, 4, 5, 6, 7])], [], [(5, ⟨[(6, .int .i64)], [(5, .cons (.int .i64) (.cons (.int .i64) (.cons (.int .i64) (.cons (.sl) (.nil)))))]⟩)], [], [], []⟩
def f114_vc (xa : Option Addr) (xn : Nat) (xc : Nat) (cmp : Value) (w : World) (R : Ending → World → Prop) : Prop :=
 ∀ (n1 : Nat),
 w.heap.size ≤ n1 →
 (decide ((↑xn : Int) < 1) = true →
 ∀ (w2 : World),
 Bel w w2 →
 Under [n1] w2 →
 OpW Proofs.Try.prog (Sem.halt (Halt.panic (Value.iface 9 (Value.string (ByteArray.mk #[115, 108, 105, 99, 101, 115, 46, 77, 105, 110, 70, 117, 110, 99, 58, 32, 101, 109, 112, 116, 121, 32, 108, 105, 115, 116]))))) w2
 fun (v3 : Value) (w4 : World) =>
 v3 = Value.tuple #[] ∧
 Keeps [n1] w2 w4 ∧
 ∃ (ad5 : Addr),
 Gives Proofs.Try.prog (Instr.indexAt 111 (Value.slice xa xn xc) (Value.int IntKind.i64 0)) (Value.pointer (some ad5)) ∧
 ∃ (x6 : Int),
 ∃ (x7 : Int),
 ∃ (x8 : Int),
 ∃ (a9 : Option Addr),
 ∃ (n10 : Nat),
 ∃ (n11 : Nat),
 Reads Proofs.Try.prog [] (Instr.loadAt 25 (Value.pointer (some ad5))) w4 (Value.agg #[Value.int IntKind.i64 x6, Value.int IntKind.i64 x7, Value.int IntKind.i64 x8, Value.slice a9 n10 n11]) ∧
 ∀ (n12 : Nat),
 w4.heap.size ≤ n12 →
 ∃ (J13 : Int × Int × Int × Int × (Option Addr × Nat × Nat) × Unit → World → Prop),
 ∃ (J14 : Int × Int × Int × Int × (Option Addr × Nat × Nat) × Unit → World → Nat),
 (∀ (w15 : World), Evo [n12] w4 w15 → Under [n1, n12] w15 → J13 (1, x6, x7, x8, (a9, n10, n11), ()) w15) ∧
 ∀ (x16 x17 x18 x19 : Int) (a20 : Option Addr) (n21 n22 : Nat) (w23 : World),
 J13 (x16, x17, x18, x19, (a20, n21, n22), ()) w23 →
 (decide (x16 < (↑xn : Int)) = true →
 ∃ (ad24 : Addr),
 Gives Proofs.Try.prog (Instr.indexAt 111 (Value.slice xa xn xc) (Value.int IntKind.i64 x16)) (Value.pointer (some ad24)) ∧
 ∃ (x25 : Int),
 ∃ (x26 : Int),
 ∃ (x27 : Int),
 ∃ (a28 : Option Addr),
 ∃ (n29 : Nat),
 ∃ (n30 : Nat),
 Reads Proofs.Try.prog [] (Instr.loadAt 25 (Value.pointer (some ad24))) w23
 (Value.agg #[Value.int IntKind.i64 x25, Value.int IntKind.i64 x26, Value.int IntKind.i64 x27, Value.slice a28 n29 n30]) ∧
 ∀ (w31 : World),
 Bel w23 w31 →
 Under [n1, n12] w31 →
 OpW Proofs.Try.prog
 (invokeS cmp
 #[Value.agg #[Value.int IntKind.i64 x25, Value.int IntKind.i64 x26, Value.int IntKind.i64 x27, Value.slice a28 n29 n30],
 Value.agg #[Value.int IntKind.i64 x17, Value.int IntKind.i64 x18, Value.int IntKind.i64 x19, Value.slice a20 n21 n22]])
 w31 fun (v32 : Value) (w33 : World) =>
 ∃ (x34 : Int),
 v32 = Value.int IntKind.i64 x34 ∧
 Keeps [n1, n12] w31 w33 ∧
 (decide (x34 < 0) = true →
 ∃ (ad35 : Addr),
 Gives Proofs.Try.prog (Instr.indexAt 111 (Value.slice xa xn xc) (Value.int IntKind.i64 x16)) (Value.pointer (some ad35)) ∧
 ∃ (x36 : Int),
 ∃ (x37 : Int),
 ∃ (x38 : Int),
 ∃ (a39 : Option Addr),
 ∃ (n40 : Nat),
 ∃ (n41 : Nat),
 Reads Proofs.Try.prog [] (Instr.loadAt 25 (Value.pointer (some ad35))) w33
 (Value.agg #[Value.int IntKind.i64 x36, Value.int IntKind.i64 x37, Value.int IntKind.i64 x38, Value.slice a39 n40 n41]) ∧
 ∀ (w42 : World),
 Evo [n12] w33 w42 →
 Under [n1, n12] w42 →
 J13 (IntKind.i64.wrap (x16 + 1), x36, x37, x38, (a39, n40, n41), ()) w42 ∧
 J14 (IntKind.i64.wrap (x16 + 1), x36, x37, x38, (a39, n40, n41), ()) w42 <
 J14 (x16, x17, x18, x19, (a20, n21, n22), ()) w23) ∧
 (decide (x34 < 0) = false →
 J13 (IntKind.i64.wrap (x16 + 1), x17, x18, x19, (a20, n21, n22), ()) w33 ∧
 J14 (IntKind.i64.wrap (x16 + 1), x17, x18, x19, (a20, n21, n22), ()) w33 < J14 (x16, x17, x18, x19, (a20, n21, n22), ()) w23)) ∧
 (decide (x16 < (↑xn : Int)) = false →
 ∀ (w43 : World),
 Evo [n1] w23 w43 →
 Under [n1, n12] w43 → R (Ending.returned (Value.agg #[Value.int IntKind.i64 x17, Value.int IntKind.i64 x18, Value.int IntKind.i64 x19, Value.slice a20 n21 n22])) w43)) ∧
 (decide ((↑xn : Int) < 1) = false →
 ∃ (ad44 : Addr),
 Gives Proofs.Try.prog (Instr.indexAt 111 (Value.slice xa xn xc) (Value.int IntKind.i64 0)) (Value.pointer (some ad44)) ∧
 ∃ (x45 : Int),
 ∃ (x46 : Int),
 ∃ (x47 : Int),
 ∃ (a48 : Option Addr),
 ∃ (n49 : Nat),
 ∃ (n50 : Nat),
 Reads Proofs.Try.prog [] (Instr.loadAt 25 (Value.pointer (some ad44))) w (Value.agg #[Value.int IntKind.i64 x45, Value.int IntKind.i64 x46, Value.int IntKind.i64 x47, Value.slice a48 n49 n50]) ∧
 ∀ (n51 : Nat),
 w.heap.size ≤ n51 →
 ∃ (J52 : Int × Int × Int × Int × (Option Addr × Nat × Nat) × Unit → World → Prop),
 ∃ (J53 : Int × Int × Int × Int × (Option Addr × Nat × Nat) × Unit → World → Nat),
 (∀ (w54 : World), Evo [n51] w w54 → Under [n1, n51] w54 → J52 (1, x45, x46, x47, (a48, n49, n50), ()) w54) ∧
 ∀ (x55 x56 x57 x58 : Int) (a59 : Option Addr) (n60 n61 : Nat) (w62 : World),
 J52 (x55, x56, x57, x58, (a59, n60, n61), ()) w62 →
 (decide (x55 < (↑xn : Int)) = true →
 ∃ (ad63 : Addr),
 Gives Proofs.Try.prog (Instr.indexAt 111 (Value.slice xa xn xc) (Value.int IntKind.i64 x55)) (Value.pointer (some ad63)) ∧
 ∃ (x64 : Int),
 ∃ (x65 : Int),
 ∃ (x66 : Int),
 ∃ (a67 : Option Addr),
 ∃ (n68 : Nat),
 ∃ (n69 : Nat),
 Reads Proofs.Try.prog [] (Instr.loadAt 25 (Value.pointer (some ad63))) w62
 (Value.agg #[Value.int IntKind.i64 x64, Value.int IntKind.i64 x65, Value.int IntKind.i64 x66, Value.slice a67 n68 n69]) ∧
 ∀ (w70 : World),
 Bel w62 w70 →
 Under [n1, n51] w70 →
 OpW Proofs.Try.prog
 (invokeS cmp
 #[Value.agg #[Value.int IntKind.i64 x64, Value.int IntKind.i64 x65, Value.int IntKind.i64 x66, Value.slice a67 n68 n69],
 Value.agg #[Value.int IntKind.i64 x56, Value.int IntKind.i64 x57, Value.int IntKind.i64 x58, Value.slice a59 n60 n61]])
 w70 fun (v71 : Value) (w72 : World) =>
 ∃ (x73 : Int),
 v71 = Value.int IntKind.i64 x73 ∧
 Keeps [n1, n51] w70 w72 ∧
 (decide (x73 < 0) = true →
 ∃ (ad74 : Addr),
 Gives Proofs.Try.prog (Instr.indexAt 111 (Value.slice xa xn xc) (Value.int IntKind.i64 x55)) (Value.pointer (some ad74)) ∧
 ∃ (x75 : Int),
 ∃ (x76 : Int),
 ∃ (x77 : Int),
 ∃ (a78 : Option Addr),
 ∃ (n79 : Nat),
 ∃ (n80 : Nat),
 Reads Proofs.Try.prog [] (Instr.loadAt 25 (Value.pointer (some ad74))) w72
 (Value.agg #[Value.int IntKind.i64 x75, Value.int IntKind.i64 x76, Value.int IntKind.i64 x77, Value.slice a78 n79 n80]) ∧
 ∀ (w81 : World),
 Evo [n51] w72 w81 →
 Under [n1, n51] w81 →
 J52 (IntKind.i64.wrap (x55 + 1), x75, x76, x77, (a78, n79, n80), ()) w81 ∧
 J53 (IntKind.i64.wrap (x55 + 1), x75, x76, x77, (a78, n79, n80), ()) w81 < J53 (x55, x56, x57, x58, (a59, n60, n61), ()) w62) ∧
 (decide (x73 < 0) = false →
 J52 (IntKind.i64.wrap (x55 + 1), x56, x57, x58, (a59, n60, n61), ()) w72 ∧
 J53 (IntKind.i64.wrap (x55 + 1), x56, x57, x58, (a59, n60, n61), ()) w72 < J53 (x55, x56, x57, x58, (a59, n60, n61), ()) w62)) ∧
 (decide (x55 < (↑xn : Int)) = false →
 ∀ (w82 : World),
 Evo [n1] w62 w82 → Under [n1, n51] w82 → R (Ending.returned (Value.agg #[Value.int IntKind.i64 x56, Value.int IntKind.i64 x57, Value.int IntKind.i64 x58, Value.slice a59 n60 n61])) w82))
theorem f114_eq (xa : Option Addr) (xn : Nat) (xc : Nat) (cmp : Value) (w : World) (R : Ending → World → Prop) : (fnF Go.Proofs.Try.prog h114 Go.Proofs.Try.f114 [Value.slice xa xn xc, cmp] w R).den = f114_vc xa xn xc cmp w R := by kernel_rfl
theorem f114_calls (xa : Option Addr) (xn : Nat) (xc : Nat) (cmp : Value) (w : World) (R : Ending → World → Prop) (h : f114_vc xa xn xc cmp w R) : Calls Go.Proofs.Try.prog 114 (List.toArray [Value.slice xa xn xc, cmp]) w R :=
 fn_sound (H := h114) (fn := Go.Proofs.Try.f114) (by kernel_rfl) (by kernel_rfl) (by kernel_rfl) ((f114_eq xa xn xc cmp w R).mpr h)


/-! (*manciple/filters.Table).Next$1 -/
def h115 : Hints := ⟨[2, 3], [], [], [], [], [], [], [], []⟩
def f115_vc (a_0 : Int) (a_1 : Int) (a_2 : Int) (a_3a : Option Addr) (a_3n : Nat) (a_3c : Nat) (b_0 : Int) (b_1 : Int) (b_2 : Int) (b_3a : Option Addr) (b_3n : Nat) (b_3c : Nat) (w : World) (R : Ending → World → Prop) : Prop :=
 ∀ (n1 : Nat),
 w.heap.size ≤ n1 →
 ∀ (n2 : Nat),
 w.heap.size ≤ n2 →
 ∀ (w3 : World),
 Bel w w3 →
 Under [n1, n2] w3 →
 Calls Proofs.Try.prog 94 #[Value.int IntKind.i64 a_2, Value.int IntKind.i64 b_2] w3 fun (e4 : Ending) (w5 : World) =>
 ∃ (x6 : Int), e4 = Ending.returned (Value.int IntKind.i64 x6) ∧ Keeps [n1, n2] w3 w5 ∧ R (Ending.returned (Value.int IntKind.i64 x6)) w5
theorem f115_eq (a_0 : Int) (a_1 : Int) (a_2 : Int) (a_3a : Option Addr) (a_3n : Nat) (a_3c : Nat) (b_0 : Int) (b_1 : Int) (b_2 : Int) (b_3a : Option Addr) (b_3n : Nat) (b_3c : Nat) (w : World) (R : Ending → World → Prop) : (fnF Go.Proofs.Try.prog h115 Go.Proofs.Try.f115 [Value.agg #[Value.int IntKind.i64 a_0, Value.int IntKind.i64 a_1, Value.int IntKind.i64 a_2, Value.slice a_3a a_3n a_3c],
 Value.agg #[Value.int IntKind.i64 b_0, Value.int IntKind.i64 b_1, Value.int IntKind.i64 b_2, Value.slice b_3a b_3n b_3c]] w R).den = f115_vc a_0 a_1 a_2 a_3a a_3n a_3c b_0 b_1 b_2 b_3a b_3n b_3c w R := by kernel_rfl
theorem f115_calls (a_0 : Int) (a_1 : Int) (a_2 : Int) (a_3a : Option Addr) (a_3n : Nat) (a_3c : Nat) (b_0 : Int) (b_1 : Int) (b_2 : Int) (b_3a : Option Addr) (b_3n : Nat) (b_3c : Nat) (w : World) (R : Ending → World → Prop) (h : f115_vc a_0 a_1 a_2 a_3a a_3n a_3c b_0 b_1 b_2 b_3a b_3n b_3c w R) : Calls Go.Proofs.Try.prog 115 (List.toArray [Value.agg #[Value.int IntKind.i64 a_0, Value.int IntKind.i64 a_1, Value.int IntKind.i64 a_2, Value.slice a_3a a_3n a_3c],
 Value.agg #[Value.int IntKind.i64 b_0, Value.int IntKind.i64 b_1, Value.int IntKind.i64 b_2, Value.slice b_3a b_3n b_3c]]) w R :=
 fn_sound (H := h115) (fn := Go.Proofs.Try.f115) (by kernel_rfl) (by kernel_rfl) (by kernel_rfl) ((f115_eq a_0 a_1 a_2 a_3a a_3n a_3c b_0 b_1 b_2 b_3a b_3n b_3c w R).mpr h)


/-! (*manciple/filters.Table).Lose$1 -/
def h116 : Hints := ⟨[2], [], [], [], [], [], [], [], []⟩
def f116_vc (f_0 : Int) (f_1 : Int) (f_2 : Int) (f_3a : Option Addr) (f_3n : Nat) (f_3c : Nat) (cap0 : Value) (w : World) (R : Ending → World → Prop) : Prop :=
 ∀ (n1 : Nat), w.heap.size ≤ n1 → ∃ (x2 : Int), Reads Proofs.Try.prog [] (Instr.loadAt 2 cap0) w (Value.int IntKind.i64 x2) ∧ ∀ (w3 : World), Bel w w3 → Under [n1] w3 → R (Ending.returned (Value.bool (f_1 == x2))) w3
theorem f116_eq (f_0 : Int) (f_1 : Int) (f_2 : Int) (f_3a : Option Addr) (f_3n : Nat) (f_3c : Nat) (cap0 : Value) (w : World) (R : Ending → World → Prop) : (fnF Go.Proofs.Try.prog h116 Go.Proofs.Try.f116 [Value.agg #[Value.int IntKind.i64 f_0, Value.int IntKind.i64 f_1, Value.int IntKind.i64 f_2, Value.slice f_3a f_3n f_3c], cap0] w R).den = f116_vc f_0 f_1 f_2 f_3a f_3n f_3c cap0 w R := by kernel_rfl
theorem f116_calls (f_0 : Int) (f_1 : Int) (f_2 : Int) (f_3a : Option Addr) (f_3n : Nat) (f_3c : Nat) (cap0 : Value) (w : World) (R : Ending → World → Prop) (h : f116_vc f_0 f_1 f_2 f_3a f_3n f_3c cap0 w R) : Calls Go.Proofs.Try.prog 116 (List.toArray [Value.agg #[Value.int IntKind.i64 f_0, Value.int IntKind.i64 f_1, Value.int IntKind.i64 f_2, Value.slice f_3a f_3n f_3c], cap0]) w R :=
 fn_sound (H := h116) (fn := Go.Proofs.Try.f116) (by kernel_rfl) (by kernel_rfl) (by kernel_rfl) ((f116_eq f_0 f_1 f_2 f_3a f_3n f_3c cap0 w R).mpr h)


/-! (*manciple/filters.Table).Expire$1 -/
def h117 : Hints := ⟨[2], [], [], [], [], [], [], [], []⟩
def f117_vc (f_0 : Int) (f_1 : Int) (f_2 : Int) (f_3a : Option Addr) (f_3n : Nat) (f_3c : Nat) (cap0 : Value) (w : World) (R : Ending → World → Prop) : Prop :=
 ∀ (n1 : Nat), w.heap.size ≤ n1 → ∃ (x2 : Int), Reads Proofs.Try.prog [] (Instr.loadAt 2 cap0) w (Value.int IntKind.i64 x2) ∧ ∀ (w3 : World), Bel w w3 → Under [n1] w3 → R (Ending.returned (Value.bool (decide (f_2 ≤ x2)))) w3
theorem f117_eq (f_0 : Int) (f_1 : Int) (f_2 : Int) (f_3a : Option Addr) (f_3n : Nat) (f_3c : Nat) (cap0 : Value) (w : World) (R : Ending → World → Prop) : (fnF Go.Proofs.Try.prog h117 Go.Proofs.Try.f117 [Value.agg #[Value.int IntKind.i64 f_0, Value.int IntKind.i64 f_1, Value.int IntKind.i64 f_2, Value.slice f_3a f_3n f_3c], cap0] w R).den = f117_vc f_0 f_1 f_2 f_3a f_3n f_3c cap0 w R := by kernel_rfl
theorem f117_calls (f_0 : Int) (f_1 : Int) (f_2 : Int) (f_3a : Option Addr) (f_3n : Nat) (f_3c : Nat) (cap0 : Value) (w : World) (R : Ending → World → Prop) (h : f117_vc f_0 f_1 f_2 f_3a f_3n f_3c cap0 w R) : Calls Go.Proofs.Try.prog 117 (List.toArray [Value.agg #[Value.int IntKind.i64 f_0, Value.int IntKind.i64 f_1, Value.int IntKind.i64 f_2, Value.slice f_3a f_3n f_3c], cap0]) w R :=
 fn_sound (H := h117) (fn := Go.Proofs.Try.f117) (by kernel_rfl) (by kernel_rfl) (by kernel_rfl) ((f117_eq f_0 f_1 f_2 f_3a f_3n f_3c cap0 w R).mpr h)


/-! slices.IndexFunc[[]manciple/api.Filter,manciple/api.Filter] -/
def h118 : Hints := ⟨[], [14, 16], [9, 16], [], [], [(2, ⟨[(8, .int .i64)], []⟩)], [], [], []⟩
def f118_vc (sa : Option Addr) (sn : Nat) (sc : Nat) (f : Value) (w : World) (R : Ending → World → Prop) : Prop :=
 ∃ (J1 : Int × Unit → World → Prop),
 ∃ (J2 : Int × Unit → World → Nat),
 J1 (0, ()) w ∧
 ∀ (x3 : Int) (w4 : World),
 J1 (x3, ()) w4 →
 (decide (x3 < (↑sn : Int)) = true →
 ∃ (ad5 : Addr),
 Gives Proofs.Try.prog (Instr.indexAt 111 (Value.slice sa sn sc) (Value.int IntKind.i64 x3)) (Value.pointer (some ad5)) ∧
 ∃ (x6 : Int),
 ∃ (x7 : Int),
 ∃ (x8 : Int),
 ∃ (a9 : Option Addr),
 ∃ (n10 : Nat),
 ∃ (n11 : Nat),
 Reads Proofs.Try.prog [] (Instr.loadAt 25 (Value.pointer (some ad5))) w4 (Value.agg #[Value.int IntKind.i64 x6, Value.int IntKind.i64 x7, Value.int IntKind.i64 x8, Value.slice a9 n10 n11]) ∧
 OpW Proofs.Try.prog (invokeS f #[Value.agg #[Value.int IntKind.i64 x6, Value.int IntKind.i64 x7, Value.int IntKind.i64 x8, Value.slice a9 n10 n11]]) w4 fun (v12 : Value) (w13 : World) =>
 ∃ (b14 : Bool),
 v12 = Value.bool b14 ∧
 (b14 = true → R (Ending.returned (Value.int IntKind.i64 x3)) w13) ∧ (b14 = false → J1 (IntKind.i64.wrap (x3 + 1), ()) w13 ∧ J2 (IntKind.i64.wrap (x3 + 1), ()) w13 < J2 (x3, ()) w4)) ∧
 (decide (x3 < (↑sn : Int)) = false → R (Ending.returned (Value.int IntKind.i64 (-1))) w4)
theorem f118_eq (sa : Option Addr) (sn : Nat) (sc : Nat) (f : Value) (w : World) (R : Ending → World → Prop) : (fnF Go.Proofs.Try.prog h118 Go.Proofs.Try.f118 [Value.slice sa sn sc, f] w R).den = f118_vc sa sn sc f w R := by kernel_rfl
theorem f118_calls (sa : Option Addr) (sn : Nat) (sc : Nat) (f : Value) (w : World) (R : Ending → World → Prop) (h : f118_vc sa sn sc f w R) : Calls Go.Proofs.Try.prog 118 (List.toArray [Value.slice sa sn sc, f]) w R :=
 fn_sound (H := h118) (fn := Go.Proofs.Try.f118) (by kernel_rfl) (by kernel_rfl) (by kernel_rfl) ((f118_eq sa sn sc f w R).mpr h)


/-! manciple/book.Order -/
def h120 : Hints := ⟨[], [], [], [], [], [], [], [], []⟩
def f120_vc (aa : Option Addr) (an : Nat) (ac : Nat) (ba : Option Addr) (bn : Nat) (bc : Nat) (w : World) (R : Ending → World → Prop) : Prop :=
 Calls Proofs.Try.prog 142 #[Value.slice aa an ac, Value.slice ba bn bc, Value.func (Fn.func 143) #[] #[]] w fun (e1 : Ending) (w2 : World) =>
 ∃ (x3 : Int), e1 = Ending.returned (Value.int IntKind.i64 x3) ∧ R (Ending.returned (Value.int IntKind.i64 x3)) w2
theorem f120_eq (aa : Option Addr) (an : Nat) (ac : Nat) (ba : Option Addr) (bn : Nat) (bc : Nat) (w : World) (R : Ending → World → Prop) : (fnF Go.Proofs.Try.prog h120 Go.Proofs.Try.f120 [Value.slice aa an ac, Value.slice ba bn bc] w R).den = f120_vc aa an ac ba bn bc w R := by kernel_rfl
theorem f120_calls (aa : Option Addr) (an : Nat) (ac : Nat) (ba : Option Addr) (bn : Nat) (bc : Nat) (w : World) (R : Ending → World → Prop) (h : f120_vc aa an ac ba bn bc w R) : Calls Go.Proofs.Try.prog 120 (List.toArray [Value.slice aa an ac, Value.slice ba bn bc]) w R :=
 fn_sound (H := h120) (fn := Go.Proofs.Try.f120) (by kernel_rfl) (by kernel_rfl) (by kernel_rfl) ((f120_eq aa an ac ba bn bc w R).mpr h)


/-! slices.DeleteFunc[[]manciple/api.Filter,manciple/api.Filter] -/
def h139 : Hints := ⟨[7], [24, 28, 33, 38, 41], [12, 19, 29], [], [], [(5, ⟨[(5, .int .i64), (6, .int .i64)], []⟩)], [], [], []⟩
def f139_vc (sa : Option Addr) (sn : Nat) (sc : Nat) (del : Value) (w : World) (R : Ending → World → Prop) : Prop :=
 Calls Proofs.Try.prog 118 #[Value.slice sa sn sc, del] w fun (e1 : Ending) (w2 : World) =>
 ∃ (x3 : Int),
 e1 = Ending.returned (Value.int IntKind.i64 x3) ∧
 ((x3 == -1) = true → R (Ending.returned (Value.slice sa sn sc)) w2) ∧
 ((x3 == -1) = false →
 ∃ (J4 : Int × Int × Unit → World → Prop),
 ∃ (J5 : Int × Int × Unit → World → Nat),
 J4 (x3, IntKind.i64.wrap (x3 + 1), ()) w2 ∧
 ∀ (x6 x7 : Int) (w8 : World),
 J4 (x6, x7, ()) w8 →
 (decide (x7 < (↑sn : Int)) = true →
 ∃ (ad9 : Addr),
 Gives Proofs.Try.prog (Instr.indexAt 111 (Value.slice sa sn sc) (Value.int IntKind.i64 x7)) (Value.pointer (some ad9)) ∧
 ∃ (x10 : Int),
 ∃ (x11 : Int),
 ∃ (x12 : Int),
 ∃ (a13 : Option Addr),
 ∃ (n14 : Nat),
 ∃ (n15 : Nat),
 Reads Proofs.Try.prog [] (Instr.loadAt 25 (Value.pointer (some ad9))) w8 (Value.agg #[Value.int IntKind.i64 x10, Value.int IntKind.i64 x11, Value.int IntKind.i64 x12, Value.slice a13 n14 n15]) ∧
 ∀ (n16 : Nat),
 w8.heap.size ≤ n16 →
 ∀ (w17 : World),
 Evo [n16] w8 w17 →
 Under [n16] w17 →
 OpW Proofs.Try.prog (invokeS del #[Value.agg #[Value.int IntKind.i64 x10, Value.int IntKind.i64 x11, Value.int IntKind.i64 x12, Value.slice a13 n14 n15]]) w17
 fun (v18 : Value) (w19 : World) =>
 ∃ (b20 : Bool),
 v18 = Value.bool b20 ∧
 Keeps [n16] w17 w19 ∧
 ((!b20) = true →
 ∃ (ad21 : Addr),
 Gives Proofs.Try.prog (Instr.indexAt 111 (Value.slice sa sn sc) (Value.int IntKind.i64 x6)) (Value.pointer (some ad21)) ∧
 OpW Proofs.Try.prog
 (skipS
 (Instr.storeAt 25 (Value.pointer (some ad21)) (Value.agg #[Value.int IntKind.i64 x10, Value.int IntKind.i64 x11, Value.int IntKind.i64 x12, Value.slice a13 n14 n15])))
 w19 fun (v22 : Value) (w23 : World) =>
 Keeps [n16] w19 w23 ∧
 J4 (IntKind.i64.wrap (x6 + 1), IntKind.i64.wrap (x7 + 1), ()) w23 ∧ J5 (IntKind.i64.wrap (x6 + 1), IntKind.i64.wrap (x7 + 1), ()) w23 < J5 (x6, x7, ()) w8) ∧
 ((!b20) = false → J4 (x6, IntKind.i64.wrap (x7 + 1), ()) w19 ∧ J5 (x6, IntKind.i64.wrap (x7 + 1), ()) w19 < J5 (x6, x7, ()) w8)) ∧
 (decide (x7 < (↑sn : Int)) = false →
 ∃ (a24 : Option Addr),
 ∃ (n25 : Nat),
 ∃ (n26 : Nat),
 Gives Proofs.Try.prog (Instr.sliceAt 111 (Value.slice sa sn sc) (some (Value.int IntKind.i64 x6)) none none) (Value.slice a24 n25 n26) ∧
 OpW Proofs.Try.prog (builtin Builtin.clear #[111] 0 #[false] #[Value.slice a24 n25 n26]) w8 fun (v27 : Value) (w28 : World) =>
 v27 = Value.tuple #[] ∧
 ∃ (a29 : Option Addr),
 ∃ (n30 : Nat),
 ∃ (n31 : Nat),
 Gives Proofs.Try.prog (Instr.sliceAt 111 (Value.slice sa sn sc) none (some (Value.int IntKind.i64 x6)) none) (Value.slice a29 n30 n31) ∧ R (Ending.returned (Value.slice a29 n30 n31)) w28))
theorem f139_eq (sa : Option Addr) (sn : Nat) (sc : Nat) (del : Value) (w : World) (R : Ending → World → Prop) : (fnF Go.Proofs.Try.prog h139 Go.Proofs.Try.f139 [Value.slice sa sn sc, del] w R).den = f139_vc sa sn sc del w R := by kernel_rfl
theorem f139_calls (sa : Option Addr) (sn : Nat) (sc : Nat) (del : Value) (w : World) (R : Ending → World → Prop) (h : f139_vc sa sn sc del w R) : Calls Go.Proofs.Try.prog 139 (List.toArray [Value.slice sa sn sc, del]) w R :=
 fn_sound (H := h139) (fn := Go.Proofs.Try.f139) (by kernel_rfl) (by kernel_rfl) (by kernel_rfl) ((f139_eq sa sn sc del w R).mpr h)


/-! slices.Clone[[]manciple/api.Filter,manciple/api.Filter] -/
def h140 : Hints := ⟨[], [4], [4], [], [], [], [], [], []⟩
def f140_vc (sa : Option Addr) (sn : Nat) (sc : Nat) (w : World) (R : Ending → World → Prop) : Prop :=
 ∃ (b1 : Bool),
 Gives Proofs.Try.prog (binOpS BinOp.eql 111 (Operand.tmp 3) (Operand.const (Value.slice none 0 0)) (Value.slice sa sn sc) (Value.slice none 0 0)) (Value.bool b1) ∧
 (b1 = true → R (Ending.returned (Value.slice none 0 0)) w) ∧
 (b1 = false →
 OpW Proofs.Try.prog (valueS (Instr.buildSlice 111 0 #[])) w fun (v2 : Value) (w3 : World) =>
 ∃ (a4 : Option Addr),
 ∃ (n5 : Nat),
 ∃ (n6 : Nat),
 v2 = Value.slice a4 n5 n6 ∧
 OpW Proofs.Try.prog (builtin Builtin.append #[111, 111] 111 #[false, false] #[Value.slice a4 n5 n6, Value.slice sa sn sc]) w3 fun (v7 : Value) (w8 : World) =>
 ∃ (a9 : Option Addr), ∃ (n10 : Nat), ∃ (n11 : Nat), v7 = Value.slice a9 n10 n11 ∧ R (Ending.returned (Value.slice a9 n10 n11)) w8)
theorem f140_eq (sa : Option Addr) (sn : Nat) (sc : Nat) (w : World) (R : Ending → World → Prop) : (fnF Go.Proofs.Try.prog h140 Go.Proofs.Try.f140 [Value.slice sa sn sc] w R).den = f140_vc sa sn sc w R := by kernel_rfl
theorem f140_calls (sa : Option Addr) (sn : Nat) (sc : Nat) (w : World) (R : Ending → World → Prop) (h : f140_vc sa sn sc w R) : Calls Go.Proofs.Try.prog 140 (List.toArray [Value.slice sa sn sc]) w R :=
 fn_sound (H := h140) (fn := Go.Proofs.Try.f140) (by kernel_rfl) (by kernel_rfl) (by kernel_rfl) ((f140_eq sa sn sc w R).mpr h)


/-! manciple/mancipleref16.Order -/
def h141 : Hints := ⟨[], [20, 24, 30, 34], [15, 27, 41, 46, 10], [(4, [0, 1, 2, 3, 4, 5, 6, 7, 8, 9]), (5, [0, 1, 2, 3, 4, 5, 6, 7, 8, 9])], [], [(2, ⟨[(5, .int .i64)], []⟩)], [], [], []⟩
def f141_vc (aa : Option Addr) (an : Nat) (ac : Nat) (ba : Option Addr) (bn : Nat) (bc : Nat) (w : World) (R : Ending → World → Prop) : Prop :=
 ∃ (J1 : Int × Unit → World → Prop),
 ∃ (J2 : Int × Unit → World → Nat),
 J1 (0, ()) w ∧
 ∀ (x3 : Int) (w4 : World),
 J1 (x3, ()) w4 →
 (decide (x3 < (↑an : Int)) = true →
 (decide (x3 < (↑bn : Int)) = true →
 ∃ (ad5 : Addr),
 Gives Proofs.Try.prog (Instr.indexAt 23 (Value.slice aa an ac) (Value.int IntKind.i64 x3)) (Value.pointer (some ad5)) ∧
 ∃ (x6 : Int),
 ∃ (x7 : Int),
 ∃ (x8 : Int),
 Reads Proofs.Try.prog [] (Instr.loadAt 73 (Value.pointer (some ad5))) w4 (Value.agg #[Value.int IntKind.i64 x6, Value.int IntKind.i64 x7, Value.int IntKind.i64 x8]) ∧
 ∃ (ad9 : Addr),
 Gives Proofs.Try.prog (Instr.indexAt 23 (Value.slice ba bn bc) (Value.int IntKind.i64 x3)) (Value.pointer (some ad9)) ∧
 ∃ (x10 : Int),
 ∃ (x11 : Int),
 ∃ (x12 : Int),
 Reads Proofs.Try.prog [] (Instr.loadAt 73 (Value.pointer (some ad9))) w4 (Value.agg #[Value.int IntKind.i64 x10, Value.int IntKind.i64 x11, Value.int IntKind.i64 x12]) ∧
 ∀ (w13 : World),
 Bel w4 w13 →
 Calls Proofs.Try.prog 168
 #[Value.agg #[Value.int IntKind.i64 x6, Value.int IntKind.i64 x7, Value.int IntKind.i64 x8], Value.agg #[Value.int IntKind.i64 x10, Value.int IntKind.i64 x11, Value.int IntKind.i64 x12]] w13
 fun (e14 : Ending) (w15 : World) =>
 ∃ (x16 : Int),
 e14 = Ending.returned (Value.int IntKind.i64 x16) ∧
 ((x16 != 0) = true →
 ∃ (ad17 : Addr),
 Gives Proofs.Try.prog (Instr.indexAt 23 (Value.slice aa an ac) (Value.int IntKind.i64 x3)) (Value.pointer (some ad17)) ∧
 ∃ (x18 : Int),
 ∃ (x19 : Int),
 ∃ (x20 : Int),
 Reads Proofs.Try.prog [] (Instr.loadAt 73 (Value.pointer (some ad17))) w15 (Value.agg #[Value.int IntKind.i64 x18, Value.int IntKind.i64 x19, Value.int IntKind.i64 x20]) ∧
 ∃ (ad21 : Addr),
 Gives Proofs.Try.prog (Instr.indexAt 23 (Value.slice ba bn bc) (Value.int IntKind.i64 x3)) (Value.pointer (some ad21)) ∧
 ∃ (x22 : Int),
 ∃ (x23 : Int),
 ∃ (x24 : Int),
 Reads Proofs.Try.prog [] (Instr.loadAt 73 (Value.pointer (some ad21))) w15
 (Value.agg #[Value.int IntKind.i64 x22, Value.int IntKind.i64 x23, Value.int IntKind.i64 x24]) ∧
 ∀ (w25 : World),
 Bel w15 w25 →
 Calls Proofs.Try.prog 168
 #[Value.agg #[Value.int IntKind.i64 x18, Value.int IntKind.i64 x19, Value.int IntKind.i64 x20],
 Value.agg #[Value.int IntKind.i64 x22, Value.int IntKind.i64 x23, Value.int IntKind.i64 x24]]
 w25 fun (e26 : Ending) (w27 : World) =>
 ∃ (x28 : Int), e26 = Ending.returned (Value.int IntKind.i64 x28) ∧ R (Ending.returned (Value.int IntKind.i64 x28)) w27) ∧
 ((x16 != 0) = false → J1 (IntKind.i64.wrap (x3 + 1), ()) w15 ∧ J2 (IntKind.i64.wrap (x3 + 1), ()) w15 < J2 (x3, ()) w4)) ∧
 (decide (x3 < (↑bn : Int)) = false →
 (decide ((↑an : Int) < (↑bn : Int)) = true → R (Ending.returned (Value.int IntKind.i64 (-1))) w4) ∧
 (decide ((↑an : Int) < (↑bn : Int)) = false →
 (decide ((↑an : Int) > (↑bn : Int)) = true → R (Ending.returned (Value.int IntKind.i64 1)) w4) ∧ (decide ((↑an : Int) > (↑bn : Int)) = false → R (Ending.returned (Value.int IntKind.i64 0)) w4)))) ∧
 (decide (x3 < (↑an : Int)) = false →
 (decide ((↑an : Int) < (↑bn : Int)) = true → R (Ending.returned (Value.int IntKind.i64 (-1))) w4) ∧
 (decide ((↑an : Int) < (↑bn : Int)) = false →
 (decide ((↑an : Int) > (↑bn : Int)) = true → R (Ending.returned (Value.int IntKind.i64 1)) w4) ∧ (decide ((↑an : Int) > (↑bn : Int)) = false → R (Ending.returned (Value.int IntKind.i64 0)) w4)))
theorem f141_eq (aa : Option Addr) (an : Nat) (ac : Nat) (ba : Option Addr) (bn : Nat) (bc : Nat) (w : World) (R : Ending → World → Prop) : (fnF Go.Proofs.Try.prog h141 Go.Proofs.Try.f141 [Value.slice aa an ac, Value.slice ba bn bc] w R).den = f141_vc aa an ac ba bn bc w R := by kernel_rfl
theorem f141_calls (aa : Option Addr) (an : Nat) (ac : Nat) (ba : Option Addr) (bn : Nat) (bc : Nat) (w : World) (R : Ending → World → Prop) (h : f141_vc aa an ac ba bn bc w R) : Calls Go.Proofs.Try.prog 141 (List.toArray [Value.slice aa an ac, Value.slice ba bn bc]) w R :=
 fn_sound (H := h141) (fn := Go.Proofs.Try.f141) (by kernel_rfl) (by kernel_rfl) (by kernel_rfl) ((f141_eq aa an ac ba bn bc w R).mpr h)


/-! slices.CompareFunc[[]manciple/api.Part,[]manciple/api.Part,manciple/api.Part,manciple/api.Part] -/
def h142 : Hints := ⟨[8, 9], [16, 24, 29], [14, 21, 31, 38], [], [], [(2, ⟨[(13, .int .i64)], []⟩)], [], [], []⟩
def f142_vc (s1a : Option Addr) (s1n : Nat) (s1c : Nat) (s2a : Option Addr) (s2n : Nat) (s2c : Nat) (cmp : Value) (w : World) (R : Ending → World → Prop) : Prop :=
 ∃ (J1 : Int × Unit → World → Prop),
 ∃ (J2 : Int × Unit → World → Nat),
 J1 (0, ()) w ∧
 ∀ (x3 : Int) (w4 : World),
 J1 (x3, ()) w4 →
 (decide (x3 < (↑s1n : Int)) = true →
 ∃ (ad5 : Addr),
 Gives Proofs.Try.prog (Instr.indexAt 23 (Value.slice s1a s1n s1c) (Value.int IntKind.i64 x3)) (Value.pointer (some ad5)) ∧
 ∃ (x6 : Int),
 ∃ (x7 : Int),
 ∃ (x8 : Int),
 Reads Proofs.Try.prog [] (Instr.loadAt 73 (Value.pointer (some ad5))) w4 (Value.agg #[Value.int IntKind.i64 x6, Value.int IntKind.i64 x7, Value.int IntKind.i64 x8]) ∧
 ∀ (n9 : Nat),
 w4.heap.size ≤ n9 →
 (decide (x3 ≥ (↑s2n : Int)) = true → ∀ (w10 : World), Evo [n9] w4 w10 → Under [n9] w10 → R (Ending.returned (Value.int IntKind.i64 1)) w10) ∧
 (decide (x3 ≥ (↑s2n : Int)) = false →
 ∃ (ad11 : Addr),
 Gives Proofs.Try.prog (Instr.indexAt 23 (Value.slice s2a s2n s2c) (Value.int IntKind.i64 x3)) (Value.pointer (some ad11)) ∧
 ∃ (x12 : Int),
 ∃ (x13 : Int),
 ∃ (x14 : Int),
 Reads Proofs.Try.prog [n9] (Instr.loadAt 73 (Value.pointer (some ad11))) w4 (Value.agg #[Value.int IntKind.i64 x12, Value.int IntKind.i64 x13, Value.int IntKind.i64 x14]) ∧
 ∀ (n15 : Nat),
 w4.heap.size ≤ n15 →
 ∀ (w16 : World),
 Evo [n15, n9] w4 w16 →
 Under [n9, n15] w16 →
 OpW Proofs.Try.prog
 (invokeS cmp
 #[Value.agg #[Value.int IntKind.i64 x6, Value.int IntKind.i64 x7, Value.int IntKind.i64 x8],
 Value.agg #[Value.int IntKind.i64 x12, Value.int IntKind.i64 x13, Value.int IntKind.i64 x14]])
 w16 fun (v17 : Value) (w18 : World) =>
 ∃ (x19 : Int),
 v17 = Value.int IntKind.i64 x19 ∧
 Keeps [n9, n15] w16 w18 ∧
 ((x19 != 0) = true → R (Ending.returned (Value.int IntKind.i64 x19)) w18) ∧
 ((x19 != 0) = false → J1 (IntKind.i64.wrap (x3 + 1), ()) w18 ∧ J2 (IntKind.i64.wrap (x3 + 1), ()) w18 < J2 (x3, ()) w4))) ∧
 (decide (x3 < (↑s1n : Int)) = false →
 (decide ((↑s1n : Int) < (↑s2n : Int)) = true → R (Ending.returned (Value.int IntKind.i64 (-1))) w4) ∧ (decide ((↑s1n : Int) < (↑s2n : Int)) = false → R (Ending.returned (Value.int IntKind.i64 0)) w4))
theorem f142_eq (s1a : Option Addr) (s1n : Nat) (s1c : Nat) (s2a : Option Addr) (s2n : Nat) (s2c : Nat) (cmp : Value) (w : World) (R : Ending → World → Prop) : (fnF Go.Proofs.Try.prog h142 Go.Proofs.Try.f142 [Value.slice s1a s1n s1c, Value.slice s2a s2n s2c, cmp] w R).den = f142_vc s1a s1n s1c s2a s2n s2c cmp w R := by kernel_rfl
theorem f142_calls (s1a : Option Addr) (s1n : Nat) (s1c : Nat) (s2a : Option Addr) (s2n : Nat) (s2c : Nat) (cmp : Value) (w : World) (R : Ending → World → Prop) (h : f142_vc s1a s1n s1c s2a s2n s2c cmp w R) : Calls Go.Proofs.Try.prog 142 (List.toArray [Value.slice s1a s1n s1c, Value.slice s2a s2n s2c, cmp]) w R :=
 fn_sound (H := h142) (fn := Go.Proofs.Try.f142) (by kernel_rfl) (by kernel_rfl) (by kernel_rfl) ((f142_eq s1a s1n s1c s2a s2n s2c cmp w R).mpr h)


/-! manciple/book.Order$1 -/
def h143 : Hints := ⟨[2, 3], [], [], [(1, [0, 1, 2, 3, 5, 6, 7, 8, 10, 11, 12, 13, 4, 9, 14, 15, 16, 17])], [], [], [], [], []⟩
def f143_vc (x_0 : Int) (x_1 : Int) (x_2 : Int) (y_0 : Int) (y_1 : Int) (y_2 : Int) (w : World) (R : Ending → World → Prop) : Prop :=
 ∀ (n1 : Nat),
 w.heap.size ≤ n1 →
 ∀ (n2 : Nat),
 w.heap.size ≤ n2 →
 ∀ (w3 : World),
 Bel w w3 →
 Under [n1, n2] w3 →
 Calls Proofs.Try.prog 144 #[Value.int IntKind.i64 x_0, Value.int IntKind.i64 y_0] w3 fun (e4 : Ending) (w5 : World) =>
 ∃ (x6 : Int),
 e4 = Ending.returned (Value.int IntKind.i64 x6) ∧
 Keeps [n1, n2] w3 w5 ∧
 Calls Proofs.Try.prog 144 #[Value.int IntKind.i64 x_1, Value.int IntKind.i64 y_1] w5 fun (e7 : Ending) (w8 : World) =>
 ∃ (x9 : Int),
 e7 = Ending.returned (Value.int IntKind.i64 x9) ∧
 Keeps [n1, n2] w5 w8 ∧
 Calls Proofs.Try.prog 94 #[Value.int IntKind.i64 x_2, Value.int IntKind.i64 y_2] w8 fun (e10 : Ending) (w11 : World) =>
 ∃ (x12 : Int),
 e10 = Ending.returned (Value.int IntKind.i64 x12) ∧
 Keeps [n1, n2] w8 w11 ∧
 OpW Proofs.Try.prog (valueS (Instr.buildSlice 180 3 #[(0, Value.int IntKind.i64 x6), (1, Value.int IntKind.i64 x9), (2, Value.int IntKind.i64 x12)])) w11 fun (v13 : Value) (w14 : World) =>
 ∃ (a15 : Option Addr),
 ∃ (n16 : Nat),
 ∃ (n17 : Nat),
 v13 = Value.slice a15 n16 n17 ∧
 Keeps [n1, n2] w11 w14 ∧
 Calls Proofs.Try.prog 119 #[Value.slice a15 n16 n17] w14 fun (e18 : Ending) (w19 : World) =>
 ∃ (x20 : Int), e18 = Ending.returned (Value.int IntKind.i64 x20) ∧ Keeps [n1, n2] w14 w19 ∧ R (Ending.returned (Value.int IntKind.i64 x20)) w19
theorem f143_eq (x_0 : Int) (x_1 : Int) (x_2 : Int) (y_0 : Int) (y_1 : Int) (y_2 : Int) (w : World) (R : Ending → World → Prop) : (fnF Go.Proofs.Try.prog h143 Go.Proofs.Try.f143 [Value.agg #[Value.int IntKind.i64 x_0, Value.int IntKind.i64 x_1, Value.int IntKind.i64 x_2], Value.agg #[Value.int IntKind.i64 y_0, Value.int IntKind.i64 y_1, Value.int IntKind.i64 y_2]] w R).den = f143_vc x_0 x_1 x_2 y_0 y_1 y_2 w R := by kernel_rfl
theorem f143_calls (x_0 : Int) (x_1 : Int) (x_2 : Int) (y_0 : Int) (y_1 : Int) (y_2 : Int) (w : World) (R : Ending → World → Prop) (h : f143_vc x_0 x_1 x_2 y_0 y_1 y_2 w R) : Calls Go.Proofs.Try.prog 143 (List.toArray [Value.agg #[Value.int IntKind.i64 x_0, Value.int IntKind.i64 x_1, Value.int IntKind.i64 x_2], Value.agg #[Value.int IntKind.i64 y_0, Value.int IntKind.i64 y_1, Value.int IntKind.i64 y_2]]) w R :=
 fn_sound (H := h143) (fn := Go.Proofs.Try.f143) (by kernel_rfl) (by kernel_rfl) (by kernel_rfl) ((f143_eq x_0 x_1 x_2 y_0 y_1 y_2 w R).mpr h)


/-! cmp.Compare[int] -/
def h144 : Hints := ⟨[], [], [11, 12, 13, 16, 19], [], [], [], [], [], []⟩
def f144_vc (x : Int) (y : Int) (w : World) (R : Ending → World → Prop) : Prop :=
 Calls Proofs.Try.prog 169 #[Value.int IntKind.i64 x] w fun (e1 : Ending) (w2 : World) =>
 ∃ (b3 : Bool),
 e1 = Ending.returned (Value.bool b3) ∧
 Calls Proofs.Try.prog 169 #[Value.int IntKind.i64 y] w2 fun (e4 : Ending) (w5 : World) =>
 ∃ (b6 : Bool),
 e4 = Ending.returned (Value.bool b6) ∧
 (b3 = true → (b6 = true → R (Ending.returned (Value.int IntKind.i64 0)) w5) ∧ (b6 = false → R (Ending.returned (Value.int IntKind.i64 (-1))) w5)) ∧
 (b3 = false →
 (b6 = true → R (Ending.returned (Value.int IntKind.i64 1)) w5) ∧
 (b6 = false →
 (decide (x < y) = true → R (Ending.returned (Value.int IntKind.i64 (-1))) w5) ∧
 (decide (x < y) = false → (decide (x > y) = true → R (Ending.returned (Value.int IntKind.i64 1)) w5) ∧ (decide (x > y) = false → R (Ending.returned (Value.int IntKind.i64 0)) w5))))
theorem f144_eq (x : Int) (y : Int) (w : World) (R : Ending → World → Prop) : (fnF Go.Proofs.Try.prog h144 Go.Proofs.Try.f144 [Value.int IntKind.i64 x, Value.int IntKind.i64 y] w R).den = f144_vc x y w R := by kernel_rfl
theorem f144_calls (x : Int) (y : Int) (w : World) (R : Ending → World → Prop) (h : f144_vc x y w R) : Calls Go.Proofs.Try.prog 144 (List.toArray [Value.int IntKind.i64 x, Value.int IntKind.i64 y]) w R :=
 fn_sound (H := h144) (fn := Go.Proofs.Try.f144) (by kernel_rfl) (by kernel_rfl) (by kernel_rfl) ((f144_eq x y w R).mpr h)


/-! manciple/mancipleref16.part -/
def h168 : Hints := ⟨[2, 3], [], [7, 40, 13, 19, 25, 31], [], [], [], [], [], []⟩
def f168_vc (a_0 : Int) (a_1 : Int) (a_2 : Int) (b_0 : Int) (b_1 : Int) (b_2 : Int) (w : World) (R : Ending → World → Prop) : Prop :=
 ∀ (n1 : Nat),
 w.heap.size ≤ n1 →
 ∀ (n2 : Nat),
 w.heap.size ≤ n2 →
 ((a_0 == b_0 && (a_1 == b_1 && (a_2 == b_2 && true))) = true → ∀ (w3 : World), Bel w w3 → Under [n1, n2] w3 → R (Ending.returned (Value.int IntKind.i64 0)) w3) ∧
 ((a_0 == b_0 && (a_1 == b_1 && (a_2 == b_2 && true))) = false →
 (decide (a_0 < b_0) = true → ∀ (w4 : World), Bel w w4 → Under [n1, n2] w4 → R (Ending.returned (Value.int IntKind.i64 (-1))) w4) ∧
 (decide (a_0 < b_0) = false →
 ((a_0 == b_0) = true →
 (decide (a_1 < b_1) = true → ∀ (w5 : World), Bel w w5 → Under [n1, n2] w5 → R (Ending.returned (Value.int IntKind.i64 (-1))) w5) ∧
 (decide (a_1 < b_1) = false →
 ((a_1 == b_1) = true →
 (decide (a_2 < b_2) = true → ∀ (w6 : World), Bel w w6 → Under [n1, n2] w6 → R (Ending.returned (Value.int IntKind.i64 (-1))) w6) ∧
 (decide (a_2 < b_2) = false → ∀ (w7 : World), Bel w w7 → Under [n1, n2] w7 → R (Ending.returned (Value.int IntKind.i64 1)) w7)) ∧
 ((a_1 == b_1) = false → ∀ (w8 : World), Bel w w8 → Under [n1, n2] w8 → R (Ending.returned (Value.int IntKind.i64 1)) w8))) ∧
 ((a_0 == b_0) = false → ∀ (w9 : World), Bel w w9 → Under [n1, n2] w9 → R (Ending.returned (Value.int IntKind.i64 1)) w9)))
theorem f168_eq (a_0 : Int) (a_1 : Int) (a_2 : Int) (b_0 : Int) (b_1 : Int) (b_2 : Int) (w : World) (R : Ending → World → Prop) : (fnF Go.Proofs.Try.prog h168 Go.Proofs.Try.f168 [Value.agg #[Value.int IntKind.i64 a_0, Value.int IntKind.i64 a_1, Value.int IntKind.i64 a_2], Value.agg #[Value.int IntKind.i64 b_0, Value.int IntKind.i64 b_1, Value.int IntKind.i64 b_2]] w R).den = f168_vc a_0 a_1 a_2 b_0 b_1 b_2 w R := by kernel_rfl
theorem f168_calls (a_0 : Int) (a_1 : Int) (a_2 : Int) (b_0 : Int) (b_1 : Int) (b_2 : Int) (w : World) (R : Ending → World → Prop) (h : f168_vc a_0 a_1 a_2 b_0 b_1 b_2 w R) : Calls Go.Proofs.Try.prog 168 (List.toArray [Value.agg #[Value.int IntKind.i64 a_0, Value.int IntKind.i64 a_1, Value.int IntKind.i64 a_2], Value.agg #[Value.int IntKind.i64 b_0, Value.int IntKind.i64 b_1, Value.int IntKind.i64 b_2]]) w R :=
 fn_sound (H := h168) (fn := Go.Proofs.Try.f168) (by kernel_rfl) (by kernel_rfl) (by kernel_rfl) ((f168_eq a_0 a_1 a_2 b_0 b_1 b_2 w R).mpr h)


/-! cmp.isNaN[int] -/
def h169 : Hints := ⟨[], [], [], [], [], [], [], [], []⟩
def f169_vc (x : Int) (w : World) (R : Ending → World → Prop) : Prop :=
 R (Ending.returned (Value.bool (x != x))) w
theorem f169_eq (x : Int) (w : World) (R : Ending → World → Prop) : (fnF Go.Proofs.Try.prog h169 Go.Proofs.Try.f169 [Value.int IntKind.i64 x] w R).den = f169_vc x w R := by kernel_rfl
theorem f169_calls (x : Int) (w : World) (R : Ending → World → Prop) (h : f169_vc x w R) : Calls Go.Proofs.Try.prog 169 (List.toArray [Value.int IntKind.i64 x]) w R :=
 fn_sound (H := h169) (fn := Go.Proofs.Try.f169) (by kernel_rfl) (by kernel_rfl) (by kernel_rfl) ((f169_eq x w R).mpr h)

end Vct

/- Slices of slices: what Instr.sliceAt gives. -/
namespace Go.Vc
open Go Go.RowKit
section
variable {P : Program}
theorem gives_slice_lh {t e : TypeId} {n len cap l h : Nat} {a : Option Addr} {k k2 : IntKind} (ht : P.underlying t = some (.slice e)) (hs : pureRun P (sizeOf e) = some n) (h1 : l ≤ h) (h2 : h ≤ cap) :
    Gives P (Instr.sliceAt t (.slice a len cap) (some (.int k (l : Int))) (some (.int k2 (h : Int))) none) (.slice (if cap = l then a else a.map (·.add (l * n))) (h - l) (cap - l)) := by
  intro W
  have he : P.elem t = e := by simp [Program.elem, ht]
  have ht' : P.underlying t = some (.slice (P.elem t)) := by rw [he]; exact ht
  have hh := run_slice_lh (P := P) W t a len cap ht' k k2 (l : Int) (h : Int) (by omega) (by omega) (by omega)
  rw [run_sliceAt_slice (P := P) W t _ _ _ _ ht', hh, he, pureRun_run hs W]
  simp only [Result.andThen, sliced, Int.toNat_natCast]
theorem gives_slice_h {t e : TypeId} {n len cap h : Nat} {a : Option Addr} {k2 : IntKind} (ht : P.underlying t = some (.slice e)) (hs : pureRun P (sizeOf e) = some n) (h2 : h ≤ cap) :
    Gives P (Instr.sliceAt t (.slice a len cap) none (some (.int k2 (h : Int))) none) (.slice (if cap = 0 then a else a.map (·.add (0 * n))) h cap) := by
  intro W
  have he : P.elem t = e := by simp [Program.elem, ht]
  have ht' : P.underlying t = some (.slice (P.elem t)) := by rw [he]; exact ht
  have hh := run_slice_h (P := P) W t a len cap ht' k2 (h : Int) (by omega) (by omega)
  rw [run_sliceAt_slice (P := P) W t _ _ _ _ ht', hh, he, pureRun_run hs W]
  simp only [Result.andThen, sliced, Int.toNat_natCast, Nat.sub_zero]
theorem gives_slice_l {t e : TypeId} {n len cap l : Nat} {a : Option Addr} {k : IntKind} (ht : P.underlying t = some (.slice e)) (hs : pureRun P (sizeOf e) = some n) (h1 : l ≤ len) :
    Gives P (Instr.sliceAt t (.slice a len cap) (some (.int k (l : Int))) none none) (.slice (if cap = l then a else a.map (·.add (l * n))) (len - l) (cap - l)) := by
  intro W
  have he : P.elem t = e := by simp [Program.elem, ht]
  have ht' : P.underlying t = some (.slice (P.elem t)) := by rw [he]; exact ht
  have hh := run_slice_l (P := P) W t a len cap ht' k (l : Int) (by omega) (by omega)
  rw [run_sliceAt_slice (P := P) W t _ _ _ _ ht', hh, he, pureRun_run hs W]
  simp only [Result.andThen, sliced, Int.toNat_natCast]
end
end Go.Vc

