/- Own texts of this claim, laid together: FV4, VcInv, Wm, Wn, Wo, Wp, FV6, Wq, Wr, Ws, Wt, VcSlice, Wu, Wv, FV7, Wx, Wy, X1. -/
import Derived.Test.YtcmojiajjlamiaaMg2b009dd9
import Derived.Test.YtcmojiajjlamiaaProg

/- The formulas of functions, printed by a program (VcTool.lean): each is what the generator's formula comes to, by the kernel's reckoning; whoever proves one has the function's contract. -/
set_option maxRecDepth 100000
set_option maxHeartbeats 1000000
set_option linter.unusedVariables false
namespace Vcw
open Go Go.Vc Go.RowKit
/-! manciple/mancipleref17.Have -/
def h9 : Hints := ⟨[4], [35, 43, 52], [31, 39, 20, 24, 28], [(1, [0, 1, 3, 4, 2, 5, 6, 7])], [], [], [], [], []⟩
def f9_vc (b_0 : Int) (b_1 : Int) (b_2 : Int) (b_3 : Int) (b_4 : Int) (b_5 : Int) (b_6 : Int) (b_7 : Int) (b_8 : Int) (b_9 : Int) (b_10 : Int) (b_11a : Option Addr) (b_11n : Nat) (b_11c : Nat) (b_12a : Option Addr) (b_12n : Nat) (b_12c : Nat) (b_13a : Option Addr) (b_13n : Nat) (b_13c : Nat) (b_14a : Option Addr) (b_14n : Nat) (b_14c : Nat) (b_15a : Option Addr) (b_15n : Nat) (b_15c : Nat) (frame : Int) (agent : Int) (pass : Int) (w : World) (R : Ending → World → Prop) : Prop :=
 ∀ (n1 : Nat),
 w.heap.size ≤ n1 →
 ∀ (w2 : World),
 Bel w w2 →
 Under [n1] w2 →
 Calls Proofs.Try.prog 37
 #[Value.agg
 #[Value.int IntKind.i64 b_0, Value.int IntKind.i64 b_1, Value.int IntKind.i64 b_2, Value.int IntKind.i64 b_3, Value.int IntKind.i64 b_4, Value.int IntKind.i64 b_5, Value.int IntKind.i64 b_6, Value.int IntKind.i64 b_7,
 Value.int IntKind.i64 b_8, Value.int IntKind.i64 b_9, Value.int IntKind.i64 b_10, Value.slice b_11a b_11n b_11c, Value.slice b_12a b_12n b_12c, Value.slice b_13a b_13n b_13c, Value.slice b_14a b_14n b_14c,
 Value.slice b_15a b_15n b_15c],
 Value.int IntKind.i64 frame]
 w2 fun (e3 : Ending) (w4 : World) =>
 ∃ (x5 : Int),
 e3 = Ending.returned (Value.int IntKind.i64 x5) ∧
 Keeps [n1] w2 w4 ∧
 Calls Proofs.Try.prog 38
 #[Value.agg
 #[Value.int IntKind.i64 b_0, Value.int IntKind.i64 b_1, Value.int IntKind.i64 b_2, Value.int IntKind.i64 b_3, Value.int IntKind.i64 b_4, Value.int IntKind.i64 b_5, Value.int IntKind.i64 b_6,
 Value.int IntKind.i64 b_7, Value.int IntKind.i64 b_8, Value.int IntKind.i64 b_9, Value.int IntKind.i64 b_10, Value.slice b_11a b_11n b_11c, Value.slice b_12a b_12n b_12c, Value.slice b_13a b_13n b_13c,
 Value.slice b_14a b_14n b_14c, Value.slice b_15a b_15n b_15c],
 Value.int IntKind.i64 agent]
 w4 fun (e6 : Ending) (w7 : World) =>
 ∃ (x8 : Int),
 e6 = Ending.returned (Value.int IntKind.i64 x8) ∧
 Keeps [n1] w4 w7 ∧
 (decide (x5 < 0) = true → R (Ending.returned (Value.slice none 0 0)) w7) ∧
 (decide (x5 < 0) = false →
 (decide (x8 < 0) = true → R (Ending.returned (Value.slice none 0 0)) w7) ∧
 (decide (x8 < 0) = false →
 (decide (pass < 1) = true → R (Ending.returned (Value.slice none 0 0)) w7) ∧
 (decide (pass < 1) = false →
 (decide (pass > 2) = true → R (Ending.returned (Value.slice none 0 0)) w7) ∧
 (decide (pass > 2) = false →
 ∃ (ad9 : Addr),
 Gives Proofs.Try.prog (Instr.indexAt 25 (Value.slice b_11a b_11n b_11c) (Value.int IntKind.i64 x5)) (Value.pointer (some ad9)) ∧
 ∃ (x10 : Int),
 Reads Proofs.Try.prog [] (Instr.loadAt 3 (Value.pointer (some (Addr.mk ad9.block (ad9.off + 1) none)))) w7 (Value.int IntKind.i64 x10) ∧
 ((pass == 1) = true →
 ∃ (ad11 : Addr),
 Gives Proofs.Try.prog (Instr.indexAt 26 (Value.slice b_12a b_12n b_12c) (Value.int IntKind.i64 x8)) (Value.pointer (some ad11)) ∧
 ∃ (a12 : Option Addr),
 ∃ (n13 : Nat),
 ∃ (n14 : Nat),
 Reads Proofs.Try.prog [] (Instr.loadAt 33 (Value.pointer (some (Addr.mk ad11.block (ad11.off + 2) none)))) w7 (Value.slice a12 n13 n14) ∧
 Calls Proofs.Try.prog 39 #[Value.slice a12 n13 n14, Value.int IntKind.i64 x10, Value.int IntKind.i64 x10] w7 fun (e15 : Ending) (w16 : World) =>
 ∃ (a17 : Option Addr),
 ∃ (n18 : Nat), ∃ (n19 : Nat), e15 = Ending.returned (Value.slice a17 n18 n19) ∧ Keeps [n1] w7 w16 ∧ R (Ending.returned (Value.slice a17 n18 n19)) w16) ∧
 ((pass == 1) = false →
 ∃ (ad20 : Addr),
 Gives Proofs.Try.prog (Instr.indexAt 26 (Value.slice b_12a b_12n b_12c) (Value.int IntKind.i64 x8)) (Value.pointer (some ad20)) ∧
 ∃ (a21 : Option Addr),
 ∃ (n22 : Nat),
 ∃ (n23 : Nat),
 Reads Proofs.Try.prog [] (Instr.loadAt 33 (Value.pointer (some (Addr.mk ad20.block (ad20.off + 2) none)))) w7 (Value.slice a21 n22 n23) ∧
 Calls Proofs.Try.prog 39 #[Value.slice a21 n22 n23, Value.int IntKind.i64 0, Value.int IntKind.i64 x10] w7 fun (e24 : Ending) (w25 : World) =>
 ∃ (a26 : Option Addr),
 ∃ (n27 : Nat), ∃ (n28 : Nat), e24 = Ending.returned (Value.slice a26 n27 n28) ∧ Keeps [n1] w7 w25 ∧ R (Ending.returned (Value.slice a26 n27 n28)) w25)))))
theorem f9_eq (b_0 : Int) (b_1 : Int) (b_2 : Int) (b_3 : Int) (b_4 : Int) (b_5 : Int) (b_6 : Int) (b_7 : Int) (b_8 : Int) (b_9 : Int) (b_10 : Int) (b_11a : Option Addr) (b_11n : Nat) (b_11c : Nat) (b_12a : Option Addr) (b_12n : Nat) (b_12c : Nat) (b_13a : Option Addr) (b_13n : Nat) (b_13c : Nat) (b_14a : Option Addr) (b_14n : Nat) (b_14c : Nat) (b_15a : Option Addr) (b_15n : Nat) (b_15c : Nat) (frame : Int) (agent : Int) (pass : Int) (w : World) (R : Ending → World → Prop) : (fnF Go.Proofs.Try.prog h9 Go.Proofs.Try.f9 [Value.agg
 #[Value.int IntKind.i64 b_0, Value.int IntKind.i64 b_1, Value.int IntKind.i64 b_2, Value.int IntKind.i64 b_3, Value.int IntKind.i64 b_4, Value.int IntKind.i64 b_5, Value.int IntKind.i64 b_6, Value.int IntKind.i64 b_7,
 Value.int IntKind.i64 b_8, Value.int IntKind.i64 b_9, Value.int IntKind.i64 b_10, Value.slice b_11a b_11n b_11c, Value.slice b_12a b_12n b_12c, Value.slice b_13a b_13n b_13c, Value.slice b_14a b_14n b_14c,
 Value.slice b_15a b_15n b_15c],
 Value.int IntKind.i64 frame, Value.int IntKind.i64 agent, Value.int IntKind.i64 pass] w R).den = f9_vc b_0 b_1 b_2 b_3 b_4 b_5 b_6 b_7 b_8 b_9 b_10 b_11a b_11n b_11c b_12a b_12n b_12c b_13a b_13n b_13c b_14a b_14n b_14c b_15a b_15n b_15c frame agent pass w R := by kernel_rfl
theorem f9_calls (b_0 : Int) (b_1 : Int) (b_2 : Int) (b_3 : Int) (b_4 : Int) (b_5 : Int) (b_6 : Int) (b_7 : Int) (b_8 : Int) (b_9 : Int) (b_10 : Int) (b_11a : Option Addr) (b_11n : Nat) (b_11c : Nat) (b_12a : Option Addr) (b_12n : Nat) (b_12c : Nat) (b_13a : Option Addr) (b_13n : Nat) (b_13c : Nat) (b_14a : Option Addr) (b_14n : Nat) (b_14c : Nat) (b_15a : Option Addr) (b_15n : Nat) (b_15c : Nat) (frame : Int) (agent : Int) (pass : Int) (w : World) (R : Ending → World → Prop) (h : f9_vc b_0 b_1 b_2 b_3 b_4 b_5 b_6 b_7 b_8 b_9 b_10 b_11a b_11n b_11c b_12a b_12n b_12c b_13a b_13n b_13c b_14a b_14n b_14c b_15a b_15n b_15c frame agent pass w R) : Calls Go.Proofs.Try.prog 9 (List.toArray [Value.agg
 #[Value.int IntKind.i64 b_0, Value.int IntKind.i64 b_1, Value.int IntKind.i64 b_2, Value.int IntKind.i64 b_3, Value.int IntKind.i64 b_4, Value.int IntKind.i64 b_5, Value.int IntKind.i64 b_6, Value.int IntKind.i64 b_7,
 Value.int IntKind.i64 b_8, Value.int IntKind.i64 b_9, Value.int IntKind.i64 b_10, Value.slice b_11a b_11n b_11c, Value.slice b_12a b_12n b_12c, Value.slice b_13a b_13n b_13c, Value.slice b_14a b_14n b_14c,
 Value.slice b_15a b_15n b_15c],
 Value.int IntKind.i64 frame, Value.int IntKind.i64 agent, Value.int IntKind.i64 pass]) w R :=
 fn_sound (H := h9) (fn := Go.Proofs.Try.f9) (by kernel_rfl) (by kernel_rfl) (by kernel_rfl) ((f9_eq b_0 b_1 b_2 b_3 b_4 b_5 b_6 b_7 b_8 b_9 b_10 b_11a b_11n b_11c b_12a b_12n b_12c b_13a b_13n b_13c b_14a b_14n b_14c b_15a b_15n b_15c frame agent pass w R).mpr h)


/-! manciple/view.V -/
def h11 : Hints := ⟨[4], [27, 42], [23, 32, 34, 20], [(1, [0, 1, 3, 4, 2, 5, 6, 7])], [], [], [], [], []⟩
def f11_vc (b_0 : Int) (b_1 : Int) (b_2 : Int) (b_3 : Int) (b_4 : Int) (b_5 : Int) (b_6 : Int) (b_7 : Int) (b_8 : Int) (b_9 : Int) (b_10 : Int) (b_11a : Option Addr) (b_11n : Nat) (b_11c : Nat) (b_12a : Option Addr) (b_12n : Nat) (b_12c : Nat) (b_13a : Option Addr) (b_13n : Nat) (b_13c : Nat) (b_14a : Option Addr) (b_14n : Nat) (b_14c : Nat) (b_15a : Option Addr) (b_15n : Nat) (b_15c : Nat) (frame : Int) (agent : Int) (pass : Int) (w : World) (R : Ending → World → Prop) : Prop :=
 ∀ (n1 : Nat),
 w.heap.size ≤ n1 →
 ∀ (w2 : World),
 Bel w w2 →
 Under [n1] w2 →
 Calls Proofs.Try.prog 26
 #[Value.agg
 #[Value.int IntKind.i64 b_0, Value.int IntKind.i64 b_1, Value.int IntKind.i64 b_2, Value.int IntKind.i64 b_3, Value.int IntKind.i64 b_4, Value.int IntKind.i64 b_5, Value.int IntKind.i64 b_6, Value.int IntKind.i64 b_7,
 Value.int IntKind.i64 b_8, Value.int IntKind.i64 b_9, Value.int IntKind.i64 b_10, Value.slice b_11a b_11n b_11c, Value.slice b_12a b_12n b_12c, Value.slice b_13a b_13n b_13c, Value.slice b_14a b_14n b_14c,
 Value.slice b_15a b_15n b_15c],
 Value.int IntKind.i64 frame]
 w2 fun (e3 : Ending) (w4 : World) =>
 ∃ (x5 : Int),
 e3 = Ending.returned (Value.int IntKind.i64 x5) ∧
 Keeps [n1] w2 w4 ∧
 Calls Proofs.Try.prog 27
 #[Value.agg
 #[Value.int IntKind.i64 b_0, Value.int IntKind.i64 b_1, Value.int IntKind.i64 b_2, Value.int IntKind.i64 b_3, Value.int IntKind.i64 b_4, Value.int IntKind.i64 b_5, Value.int IntKind.i64 b_6,
 Value.int IntKind.i64 b_7, Value.int IntKind.i64 b_8, Value.int IntKind.i64 b_9, Value.int IntKind.i64 b_10, Value.slice b_11a b_11n b_11c, Value.slice b_12a b_12n b_12c, Value.slice b_13a b_13n b_13c,
 Value.slice b_14a b_14n b_14c, Value.slice b_15a b_15n b_15c],
 Value.int IntKind.i64 agent]
 w4 fun (e6 : Ending) (w7 : World) =>
 ∃ (x8 : Int),
 e6 = Ending.returned (Value.int IntKind.i64 x8) ∧
 Keeps [n1] w4 w7 ∧
 (decide (x5 < 0) = true → R (Ending.returned (Value.slice none 0 0)) w7) ∧
 (decide (x5 < 0) = false →
 (decide (x8 < 0) = true → R (Ending.returned (Value.slice none 0 0)) w7) ∧
 (decide (x8 < 0) = false →
 ∃ (ad9 : Addr),
 Gives Proofs.Try.prog (Instr.indexAt 25 (Value.slice b_11a b_11n b_11c) (Value.int IntKind.i64 x5)) (Value.pointer (some ad9)) ∧
 ∃ (x10 : Int),
 Reads Proofs.Try.prog [] (Instr.loadAt 3 (Value.pointer (some (Addr.mk ad9.block (ad9.off + 1) none)))) w7 (Value.int IntKind.i64 x10) ∧
 OpW Proofs.Try.prog (valueS (Instr.buildSlice 68 1 #[(0, Value.int IntKind.i64 x10)])) w7 fun (v11 : Value) (w12 : World) =>
 ∃ (a13 : Option Addr),
 ∃ (n14 : Nat),
 ∃ (n15 : Nat),
 v11 = Value.slice a13 n14 n15 ∧
 Keeps [n1] w7 w12 ∧
 ((pass == 1) = true →
 ∃ (ad16 : Addr),
 Gives Proofs.Try.prog (Instr.indexAt 26 (Value.slice b_12a b_12n b_12c) (Value.int IntKind.i64 x8)) (Value.pointer (some ad16)) ∧
 ∃ (a17 : Option Addr),
 ∃ (n18 : Nat),
 ∃ (n19 : Nat),
 Reads Proofs.Try.prog [] (Instr.loadAt 33 (Value.pointer (some (Addr.mk ad16.block (ad16.off + 2) none)))) w12 (Value.slice a17 n18 n19) ∧
 Calls Proofs.Try.prog 40 #[Value.slice a17 n18 n19, Value.slice a13 n14 n15] w12 fun (e20 : Ending) (w21 : World) =>
 ∃ (a22 : Option Addr),
 ∃ (n23 : Nat), ∃ (n24 : Nat), e20 = Ending.returned (Value.slice a22 n23 n24) ∧ Keeps [n1] w12 w21 ∧ R (Ending.returned (Value.slice a22 n23 n24)) w21) ∧
 ((pass == 1) = false →
 ((pass == 2) = true →
 OpW Proofs.Try.prog (valueS (Instr.buildSlice 68 1 #[(0, Value.int IntKind.i64 0)])) w12 fun (v25 : Value) (w26 : World) =>
 ∃ (a27 : Option Addr),
 ∃ (n28 : Nat),
 ∃ (n29 : Nat),
 v25 = Value.slice a27 n28 n29 ∧
 Keeps [n1] w12 w26 ∧
 OpW Proofs.Try.prog (builtin Builtin.append #[68, 68] 68 #[false, false] #[Value.slice a13 n14 n15, Value.slice a27 n28 n29]) w26 fun (v30 : Value) (w31 : World) =>
 ∃ (a32 : Option Addr),
 ∃ (n33 : Nat),
 ∃ (n34 : Nat),
 v30 = Value.slice a32 n33 n34 ∧
 Keeps [n1] w26 w31 ∧
 ∃ (ad35 : Addr),
 Gives Proofs.Try.prog (Instr.indexAt 26 (Value.slice b_12a b_12n b_12c) (Value.int IntKind.i64 x8)) (Value.pointer (some ad35)) ∧
 ∃ (a36 : Option Addr),
 ∃ (n37 : Nat),
 ∃ (n38 : Nat),
 Reads Proofs.Try.prog [] (Instr.loadAt 33 (Value.pointer (some (Addr.mk ad35.block (ad35.off + 2) none)))) w31 (Value.slice a36 n37 n38) ∧
 Calls Proofs.Try.prog 40 #[Value.slice a36 n37 n38, Value.slice a32 n33 n34] w31 fun (e39 : Ending) (w40 : World) =>
 ∃ (a41 : Option Addr),
 ∃ (n42 : Nat),
 ∃ (n43 : Nat),
 e39 = Ending.returned (Value.slice a41 n42 n43) ∧ Keeps [n1] w31 w40 ∧ R (Ending.returned (Value.slice a41 n42 n43)) w40) ∧
 ((pass == 2) = false → R (Ending.returned (Value.slice none 0 0)) w12))))
theorem f11_eq (b_0 : Int) (b_1 : Int) (b_2 : Int) (b_3 : Int) (b_4 : Int) (b_5 : Int) (b_6 : Int) (b_7 : Int) (b_8 : Int) (b_9 : Int) (b_10 : Int) (b_11a : Option Addr) (b_11n : Nat) (b_11c : Nat) (b_12a : Option Addr) (b_12n : Nat) (b_12c : Nat) (b_13a : Option Addr) (b_13n : Nat) (b_13c : Nat) (b_14a : Option Addr) (b_14n : Nat) (b_14c : Nat) (b_15a : Option Addr) (b_15n : Nat) (b_15c : Nat) (frame : Int) (agent : Int) (pass : Int) (w : World) (R : Ending → World → Prop) : (fnF Go.Proofs.Try.prog h11 Go.Proofs.Try.f11 [Value.agg
 #[Value.int IntKind.i64 b_0, Value.int IntKind.i64 b_1, Value.int IntKind.i64 b_2, Value.int IntKind.i64 b_3, Value.int IntKind.i64 b_4, Value.int IntKind.i64 b_5, Value.int IntKind.i64 b_6, Value.int IntKind.i64 b_7,
 Value.int IntKind.i64 b_8, Value.int IntKind.i64 b_9, Value.int IntKind.i64 b_10, Value.slice b_11a b_11n b_11c, Value.slice b_12a b_12n b_12c, Value.slice b_13a b_13n b_13c, Value.slice b_14a b_14n b_14c,
 Value.slice b_15a b_15n b_15c],
 Value.int IntKind.i64 frame, Value.int IntKind.i64 agent, Value.int IntKind.i64 pass] w R).den = f11_vc b_0 b_1 b_2 b_3 b_4 b_5 b_6 b_7 b_8 b_9 b_10 b_11a b_11n b_11c b_12a b_12n b_12c b_13a b_13n b_13c b_14a b_14n b_14c b_15a b_15n b_15c frame agent pass w R := by kernel_rfl
theorem f11_calls (b_0 : Int) (b_1 : Int) (b_2 : Int) (b_3 : Int) (b_4 : Int) (b_5 : Int) (b_6 : Int) (b_7 : Int) (b_8 : Int) (b_9 : Int) (b_10 : Int) (b_11a : Option Addr) (b_11n : Nat) (b_11c : Nat) (b_12a : Option Addr) (b_12n : Nat) (b_12c : Nat) (b_13a : Option Addr) (b_13n : Nat) (b_13c : Nat) (b_14a : Option Addr) (b_14n : Nat) (b_14c : Nat) (b_15a : Option Addr) (b_15n : Nat) (b_15c : Nat) (frame : Int) (agent : Int) (pass : Int) (w : World) (R : Ending → World → Prop) (h : f11_vc b_0 b_1 b_2 b_3 b_4 b_5 b_6 b_7 b_8 b_9 b_10 b_11a b_11n b_11c b_12a b_12n b_12c b_13a b_13n b_13c b_14a b_14n b_14c b_15a b_15n b_15c frame agent pass w R) : Calls Go.Proofs.Try.prog 11 (List.toArray [Value.agg
 #[Value.int IntKind.i64 b_0, Value.int IntKind.i64 b_1, Value.int IntKind.i64 b_2, Value.int IntKind.i64 b_3, Value.int IntKind.i64 b_4, Value.int IntKind.i64 b_5, Value.int IntKind.i64 b_6, Value.int IntKind.i64 b_7,
 Value.int IntKind.i64 b_8, Value.int IntKind.i64 b_9, Value.int IntKind.i64 b_10, Value.slice b_11a b_11n b_11c, Value.slice b_12a b_12n b_12c, Value.slice b_13a b_13n b_13c, Value.slice b_14a b_14n b_14c,
 Value.slice b_15a b_15n b_15c],
 Value.int IntKind.i64 frame, Value.int IntKind.i64 agent, Value.int IntKind.i64 pass]) w R :=
 fn_sound (H := h11) (fn := Go.Proofs.Try.f11) (by kernel_rfl) (by kernel_rfl) (by kernel_rfl) ((f11_eq b_0 b_1 b_2 b_3 b_4 b_5 b_6 b_7 b_8 b_9 b_10 b_11a b_11n b_11c b_12a b_12n b_12c b_13a b_13n b_13c b_14a b_14n b_14c b_15a b_15n b_15c frame agent pass w R).mpr h)


/-! manciple/view.Blocked -/
def h12 : Hints := ⟨[4], [], [], [], [], [], [], [], []⟩
def f12_vc (b_0 : Int) (b_1 : Int) (b_2 : Int) (b_3 : Int) (b_4 : Int) (b_5 : Int) (b_6 : Int) (b_7 : Int) (b_8 : Int) (b_9 : Int) (b_10 : Int) (b_11a : Option Addr) (b_11n : Nat) (b_11c : Nat) (b_12a : Option Addr) (b_12n : Nat) (b_12c : Nat) (b_13a : Option Addr) (b_13n : Nat) (b_13c : Nat) (b_14a : Option Addr) (b_14n : Nat) (b_14c : Nat) (b_15a : Option Addr) (b_15n : Nat) (b_15c : Nat) (frame : Int) (agent : Int) (va : Option Addr) (vn : Nat) (vc : Nat) (w : World) (R : Ending → World → Prop) : Prop :=
 ∀ (n1 : Nat),
 w.heap.size ≤ n1 →
 ∀ (w2 : World),
 Bel w w2 →
 Under [n1] w2 →
 OpW Proofs.Try.prog (valueS (Instr.box 2 (Value.int IntKind.i64 frame))) w2 fun (v3 : Value) (w4 : World) =>
 ∃ (ad5 : Addr),
 v3 = Value.pointer (some ad5) ∧
 Keeps [n1] w2 w4 ∧
 OpW Proofs.Try.prog (valueS (Instr.box 2 (Value.int IntKind.i64 agent))) w4 fun (v6 : Value) (w7 : World) =>
 ∃ (ad8 : Addr),
 v6 = Value.pointer (some ad8) ∧
 Keeps [n1] w4 w7 ∧
 OpW Proofs.Try.prog (valueS (Instr.box 33 (Value.slice va vn vc))) w7 fun (v9 : Value) (w10 : World) =>
 ∃ (ad11 : Addr),
 v9 = Value.pointer (some ad11) ∧
 Keeps [n1] w7 w10 ∧
 Calls Proofs.Try.prog 41 #[Value.slice b_15a b_15n b_15c, Value.func (Fn.func 42) #[] #[Value.pointer (some ad5), Value.pointer (some ad8), Value.pointer (some ad11)]] w10
 fun (e12 : Ending) (w13 : World) => ∃ (b14 : Bool), e12 = Ending.returned (Value.bool b14) ∧ Keeps [n1] w10 w13 ∧ R (Ending.returned (Value.bool b14)) w13
theorem f12_eq (b_0 : Int) (b_1 : Int) (b_2 : Int) (b_3 : Int) (b_4 : Int) (b_5 : Int) (b_6 : Int) (b_7 : Int) (b_8 : Int) (b_9 : Int) (b_10 : Int) (b_11a : Option Addr) (b_11n : Nat) (b_11c : Nat) (b_12a : Option Addr) (b_12n : Nat) (b_12c : Nat) (b_13a : Option Addr) (b_13n : Nat) (b_13c : Nat) (b_14a : Option Addr) (b_14n : Nat) (b_14c : Nat) (b_15a : Option Addr) (b_15n : Nat) (b_15c : Nat) (frame : Int) (agent : Int) (va : Option Addr) (vn : Nat) (vc : Nat) (w : World) (R : Ending → World → Prop) : (fnF Go.Proofs.Try.prog h12 Go.Proofs.Try.f12 [Value.agg
 #[Value.int IntKind.i64 b_0, Value.int IntKind.i64 b_1, Value.int IntKind.i64 b_2, Value.int IntKind.i64 b_3, Value.int IntKind.i64 b_4, Value.int IntKind.i64 b_5, Value.int IntKind.i64 b_6, Value.int IntKind.i64 b_7,
 Value.int IntKind.i64 b_8, Value.int IntKind.i64 b_9, Value.int IntKind.i64 b_10, Value.slice b_11a b_11n b_11c, Value.slice b_12a b_12n b_12c, Value.slice b_13a b_13n b_13c, Value.slice b_14a b_14n b_14c,
 Value.slice b_15a b_15n b_15c],
 Value.int IntKind.i64 frame, Value.int IntKind.i64 agent, Value.slice va vn vc] w R).den = f12_vc b_0 b_1 b_2 b_3 b_4 b_5 b_6 b_7 b_8 b_9 b_10 b_11a b_11n b_11c b_12a b_12n b_12c b_13a b_13n b_13c b_14a b_14n b_14c b_15a b_15n b_15c frame agent va vn vc w R := by kernel_rfl
theorem f12_calls (b_0 : Int) (b_1 : Int) (b_2 : Int) (b_3 : Int) (b_4 : Int) (b_5 : Int) (b_6 : Int) (b_7 : Int) (b_8 : Int) (b_9 : Int) (b_10 : Int) (b_11a : Option Addr) (b_11n : Nat) (b_11c : Nat) (b_12a : Option Addr) (b_12n : Nat) (b_12c : Nat) (b_13a : Option Addr) (b_13n : Nat) (b_13c : Nat) (b_14a : Option Addr) (b_14n : Nat) (b_14c : Nat) (b_15a : Option Addr) (b_15n : Nat) (b_15c : Nat) (frame : Int) (agent : Int) (va : Option Addr) (vn : Nat) (vc : Nat) (w : World) (R : Ending → World → Prop) (h : f12_vc b_0 b_1 b_2 b_3 b_4 b_5 b_6 b_7 b_8 b_9 b_10 b_11a b_11n b_11c b_12a b_12n b_12c b_13a b_13n b_13c b_14a b_14n b_14c b_15a b_15n b_15c frame agent va vn vc w R) : Calls Go.Proofs.Try.prog 12 (List.toArray [Value.agg
 #[Value.int IntKind.i64 b_0, Value.int IntKind.i64 b_1, Value.int IntKind.i64 b_2, Value.int IntKind.i64 b_3, Value.int IntKind.i64 b_4, Value.int IntKind.i64 b_5, Value.int IntKind.i64 b_6, Value.int IntKind.i64 b_7,
 Value.int IntKind.i64 b_8, Value.int IntKind.i64 b_9, Value.int IntKind.i64 b_10, Value.slice b_11a b_11n b_11c, Value.slice b_12a b_12n b_12c, Value.slice b_13a b_13n b_13c, Value.slice b_14a b_14n b_14c,
 Value.slice b_15a b_15n b_15c],
 Value.int IntKind.i64 frame, Value.int IntKind.i64 agent, Value.slice va vn vc]) w R :=
 fn_sound (H := h12) (fn := Go.Proofs.Try.f12) (by kernel_rfl) (by kernel_rfl) (by kernel_rfl) ((f12_eq b_0 b_1 b_2 b_3 b_4 b_5 b_6 b_7 b_8 b_9 b_10 b_11a b_11n b_11c b_12a b_12n b_12c b_13a b_13n b_13c b_14a b_14n b_14c b_15a b_15n b_15c frame agent va vn vc w R).mpr h)


/-! manciple/mancipleref17.Blocked -/
def h13 : Hints := ⟨[4, 10], [21], [15, 38, 27, 33], [], [], [(2, ⟨[(9, .int .i64)], []⟩)], [], [], []⟩
def f13_vc (b_0 : Int) (b_1 : Int) (b_2 : Int) (b_3 : Int) (b_4 : Int) (b_5 : Int) (b_6 : Int) (b_7 : Int) (b_8 : Int) (b_9 : Int) (b_10 : Int) (b_11a : Option Addr) (b_11n : Nat) (b_11c : Nat) (b_12a : Option Addr) (b_12n : Nat) (b_12c : Nat) (b_13a : Option Addr) (b_13n : Nat) (b_13c : Nat) (b_14a : Option Addr) (b_14n : Nat) (b_14c : Nat) (b_15a : Option Addr) (b_15n : Nat) (b_15c : Nat) (frame : Int) (agent : Int) (va : Option Addr) (vn : Nat) (vc : Nat) (w : World) (R : Ending → World → Prop) : Prop :=
 ∀ (n1 : Nat),
 w.heap.size ≤ n1 →
 ∃ (J2 : Int × Unit → World → Prop),
 ∃ (J3 : Int × Unit → World → Nat),
 (∀ (w4 : World), Bel w w4 → Under [n1] w4 → J2 (0, ()) w4) ∧
 ∀ (x5 : Int) (w6 : World),
 J2 (x5, ()) w6 →
 (decide (x5 < (↑b_15n : Int)) = true →
 ∃ (ad7 : Addr),
 Gives Proofs.Try.prog (Instr.indexAt 29 (Value.slice b_15a b_15n b_15c) (Value.int IntKind.i64 x5)) (Value.pointer (some ad7)) ∧
 ∃ (x8 : Int),
 ∃ (x9 : Int),
 ∃ (x10 : Int),
 ∃ (a11 : Option Addr),
 ∃ (n12 : Nat),
 ∃ (n13 : Nat),
 Reads Proofs.Try.prog [] (Instr.loadAt 62 (Value.pointer (some ad7))) w6 (Value.agg #[Value.int IntKind.i64 x8, Value.int IntKind.i64 x9, Value.int IntKind.i64 x10, Value.slice a11 n12 n13]) ∧
 ∀ (n14 : Nat),
 w6.heap.size ≤ n14 →
 ((x8 == frame) = true →
 ((x9 == agent) = true →
 ∀ (w15 : World),
 Evo [n14] w6 w15 →
 Under [n1, n14] w15 →
 Calls Proofs.Try.prog 43 #[Value.slice a11 n12 n13, Value.slice va vn vc] w15 fun (e16 : Ending) (w17 : World) =>
 ∃ (b18 : Bool),
 e16 = Ending.returned (Value.bool b18) ∧
 Keeps [n1, n14] w15 w17 ∧
 (b18 = true → R (Ending.returned (Value.bool true)) w17) ∧ (b18 = false → J2 (IntKind.i64.wrap (x5 + 1), ()) w17 ∧ J3 (IntKind.i64.wrap (x5 + 1), ()) w17 < J3 (x5, ()) w6)) ∧
 ((x9 == agent) = false → ∀ (w19 : World), Evo [n14] w6 w19 → Under [n1, n14] w19 → J2 (IntKind.i64.wrap (x5 + 1), ()) w19 ∧ J3 (IntKind.i64.wrap (x5 + 1), ()) w19 < J3 (x5, ()) w6)) ∧
 ((x8 == frame) = false → ∀ (w20 : World), Evo [n14] w6 w20 → Under [n1, n14] w20 → J2 (IntKind.i64.wrap (x5 + 1), ()) w20 ∧ J3 (IntKind.i64.wrap (x5 + 1), ()) w20 < J3 (x5, ()) w6)) ∧
 (decide (x5 < (↑b_15n : Int)) = false → R (Ending.returned (Value.bool false)) w6)
theorem f13_eq (b_0 : Int) (b_1 : Int) (b_2 : Int) (b_3 : Int) (b_4 : Int) (b_5 : Int) (b_6 : Int) (b_7 : Int) (b_8 : Int) (b_9 : Int) (b_10 : Int) (b_11a : Option Addr) (b_11n : Nat) (b_11c : Nat) (b_12a : Option Addr) (b_12n : Nat) (b_12c : Nat) (b_13a : Option Addr) (b_13n : Nat) (b_13c : Nat) (b_14a : Option Addr) (b_14n : Nat) (b_14c : Nat) (b_15a : Option Addr) (b_15n : Nat) (b_15c : Nat) (frame : Int) (agent : Int) (va : Option Addr) (vn : Nat) (vc : Nat) (w : World) (R : Ending → World → Prop) : (fnF Go.Proofs.Try.prog h13 Go.Proofs.Try.f13 [Value.agg
 #[Value.int IntKind.i64 b_0, Value.int IntKind.i64 b_1, Value.int IntKind.i64 b_2, Value.int IntKind.i64 b_3, Value.int IntKind.i64 b_4, Value.int IntKind.i64 b_5, Value.int IntKind.i64 b_6, Value.int IntKind.i64 b_7,
 Value.int IntKind.i64 b_8, Value.int IntKind.i64 b_9, Value.int IntKind.i64 b_10, Value.slice b_11a b_11n b_11c, Value.slice b_12a b_12n b_12c, Value.slice b_13a b_13n b_13c, Value.slice b_14a b_14n b_14c,
 Value.slice b_15a b_15n b_15c],
 Value.int IntKind.i64 frame, Value.int IntKind.i64 agent, Value.slice va vn vc] w R).den = f13_vc b_0 b_1 b_2 b_3 b_4 b_5 b_6 b_7 b_8 b_9 b_10 b_11a b_11n b_11c b_12a b_12n b_12c b_13a b_13n b_13c b_14a b_14n b_14c b_15a b_15n b_15c frame agent va vn vc w R := by kernel_rfl
theorem f13_calls (b_0 : Int) (b_1 : Int) (b_2 : Int) (b_3 : Int) (b_4 : Int) (b_5 : Int) (b_6 : Int) (b_7 : Int) (b_8 : Int) (b_9 : Int) (b_10 : Int) (b_11a : Option Addr) (b_11n : Nat) (b_11c : Nat) (b_12a : Option Addr) (b_12n : Nat) (b_12c : Nat) (b_13a : Option Addr) (b_13n : Nat) (b_13c : Nat) (b_14a : Option Addr) (b_14n : Nat) (b_14c : Nat) (b_15a : Option Addr) (b_15n : Nat) (b_15c : Nat) (frame : Int) (agent : Int) (va : Option Addr) (vn : Nat) (vc : Nat) (w : World) (R : Ending → World → Prop) (h : f13_vc b_0 b_1 b_2 b_3 b_4 b_5 b_6 b_7 b_8 b_9 b_10 b_11a b_11n b_11c b_12a b_12n b_12c b_13a b_13n b_13c b_14a b_14n b_14c b_15a b_15n b_15c frame agent va vn vc w R) : Calls Go.Proofs.Try.prog 13 (List.toArray [Value.agg
 #[Value.int IntKind.i64 b_0, Value.int IntKind.i64 b_1, Value.int IntKind.i64 b_2, Value.int IntKind.i64 b_3, Value.int IntKind.i64 b_4, Value.int IntKind.i64 b_5, Value.int IntKind.i64 b_6, Value.int IntKind.i64 b_7,
 Value.int IntKind.i64 b_8, Value.int IntKind.i64 b_9, Value.int IntKind.i64 b_10, Value.slice b_11a b_11n b_11c, Value.slice b_12a b_12n b_12c, Value.slice b_13a b_13n b_13c, Value.slice b_14a b_14n b_14c,
 Value.slice b_15a b_15n b_15c],
 Value.int IntKind.i64 frame, Value.int IntKind.i64 agent, Value.slice va vn vc]) w R :=
 fn_sound (H := h13) (fn := Go.Proofs.Try.f13) (by kernel_rfl) (by kernel_rfl) (by kernel_rfl) ((f13_eq b_0 b_1 b_2 b_3 b_4 b_5 b_6 b_7 b_8 b_9 b_10 b_11a b_11n b_11c b_12a b_12n b_12c b_13a b_13n b_13c b_14a b_14n b_14c b_15a b_15n b_15c frame agent va vn vc w R).mpr h)


/-! manciple/view.Big -/
def h15 : Hints := ⟨[2], [], [8], [(1, [0, 1, 2, 3, 4, 6, 7, 5, 8, 9, 10])], [], [], [], [], []⟩
def f15_vc (c_0 : Int) (c_1 : Int) (c_2 : Int) (c_3 : Int) (c_4 : Int) (c_5 : Int) (c_6 : Int) (c_7 : Int) (c_8 : Int) (va : Option Addr) (vn : Nat) (vc : Nat) (w : World) (R : Ending → World → Prop) : Prop :=
 ∀ (n1 : Nat),
 w.heap.size ≤ n1 →
 (decide ((↑vn : Int) > 0) = true →
 ∀ (w2 : World),
 Bel w w2 →
 Under [n1] w2 →
 Calls Proofs.Try.prog 47 #[Value.slice va vn vc] w2 fun (e3 : Ending) (w4 : World) =>
 ∃ (x5 : Int),
 ∃ (x6 : Int),
 ∃ (x7 : Int),
 ∃ (x8 : Int),
 e3 = Ending.returned (Value.agg #[Value.int IntKind.i64 x5, Value.int IntKind.i64 x6, Value.int IntKind.i64 x7, Value.int IntKind.i64 x8]) ∧
 Keeps [n1] w2 w4 ∧
 Calls Proofs.Try.prog 48
 #[Value.agg #[Value.int IntKind.i64 x5, Value.int IntKind.i64 x6, Value.int IntKind.i64 x7, Value.int IntKind.i64 x8],
 Value.agg #[Value.int IntKind.i64 c_5, Value.int IntKind.i64 c_6, Value.int IntKind.i64 c_7, Value.int IntKind.i64 c_8]]
 w4 fun (e9 : Ending) (w10 : World) => ∃ (b11 : Bool), e9 = Ending.returned (Value.bool b11) ∧ Keeps [n1] w4 w10 ∧ R (Ending.returned (Value.bool b11)) w10) ∧
 (decide ((↑vn : Int) > 0) = false → ∀ (w12 : World), Bel w w12 → Under [n1] w12 → R (Ending.returned (Value.bool false)) w12)
theorem f15_eq (c_0 : Int) (c_1 : Int) (c_2 : Int) (c_3 : Int) (c_4 : Int) (c_5 : Int) (c_6 : Int) (c_7 : Int) (c_8 : Int) (va : Option Addr) (vn : Nat) (vc : Nat) (w : World) (R : Ending → World → Prop) : (fnF Go.Proofs.Try.prog h15 Go.Proofs.Try.f15 [Value.agg
 #[Value.int IntKind.i64 c_0, Value.int IntKind.i64 c_1, Value.int IntKind.i64 c_2, Value.int IntKind.i64 c_3, Value.int IntKind.i64 c_4, Value.int IntKind.i64 c_5, Value.int IntKind.i64 c_6, Value.int IntKind.i64 c_7,
 Value.int IntKind.i64 c_8],
 Value.slice va vn vc] w R).den = f15_vc c_0 c_1 c_2 c_3 c_4 c_5 c_6 c_7 c_8 va vn vc w R := by kernel_rfl
theorem f15_calls (c_0 : Int) (c_1 : Int) (c_2 : Int) (c_3 : Int) (c_4 : Int) (c_5 : Int) (c_6 : Int) (c_7 : Int) (c_8 : Int) (va : Option Addr) (vn : Nat) (vc : Nat) (w : World) (R : Ending → World → Prop) (h : f15_vc c_0 c_1 c_2 c_3 c_4 c_5 c_6 c_7 c_8 va vn vc w R) : Calls Go.Proofs.Try.prog 15 (List.toArray [Value.agg
 #[Value.int IntKind.i64 c_0, Value.int IntKind.i64 c_1, Value.int IntKind.i64 c_2, Value.int IntKind.i64 c_3, Value.int IntKind.i64 c_4, Value.int IntKind.i64 c_5, Value.int IntKind.i64 c_6, Value.int IntKind.i64 c_7,
 Value.int IntKind.i64 c_8],
 Value.slice va vn vc]) w R :=
 fn_sound (H := h15) (fn := Go.Proofs.Try.f15) (by kernel_rfl) (by kernel_rfl) (by kernel_rfl) ((f15_eq c_0 c_1 c_2 c_3 c_4 c_5 c_6 c_7 c_8 va vn vc w R).mpr h)


/-! manciple/mancipleref17.Big -/
def h16 : Hints := ⟨[], [14, 18], [10, 20], [(5, [0, 1, 2, 3, 4, 5, 6, 7])], [], [(3, ⟨[(6, .int .i64)], []⟩)], [], [], []⟩
def f16_vc (c_0 : Int) (c_1 : Int) (c_2 : Int) (c_3 : Int) (c_4 : Int) (c_5 : Int) (c_6 : Int) (c_7 : Int) (c_8 : Int) (va : Option Addr) (vn : Nat) (vc : Nat) (w : World) (R : Ending → World → Prop) : Prop :=
 OpW Proofs.Try.prog
 (valueS
 (Instr.box 24
 (Value.agg
 #[Value.int IntKind.i64 c_0, Value.int IntKind.i64 c_1, Value.int IntKind.i64 c_2, Value.int IntKind.i64 c_3, Value.int IntKind.i64 c_4, Value.int IntKind.i64 c_5, Value.int IntKind.i64 c_6, Value.int IntKind.i64 c_7,
 Value.int IntKind.i64 c_8])))
 w fun (v1 : Value) (w2 : World) =>
 ∃ (ad3 : Addr),
 v1 = Value.pointer (some ad3) ∧
 Calls Proofs.Try.prog 49 #[Value.slice va vn vc] w2 fun (e4 : Ending) (w5 : World) =>
 ∃ (x6 : Int),
 ∃ (x7 : Int),
 ∃ (x8 : Int),
 ∃ (x9 : Int),
 e4 = Ending.returned (Value.agg #[Value.int IntKind.i64 x6, Value.int IntKind.i64 x7, Value.int IntKind.i64 x8, Value.int IntKind.i64 x9]) ∧
 OpW Proofs.Try.prog (valueS (Instr.alloc 22 true (Value.tuple #[]))) w5 fun (v10 : Value) (w11 : World) =>
 ∃ (ad12 : Addr),
 v10 = Value.pointer (some ad12) ∧
 OpW Proofs.Try.prog (skipS (Instr.storeAt 22 (Value.pointer (some ad12)) (Value.agg #[Value.int IntKind.i64 x6, Value.int IntKind.i64 x7, Value.int IntKind.i64 x8, Value.int IntKind.i64 x9]))) w11
 fun (v13 : Value) (w14 : World) =>
 ∃ (J15 : Int × Unit → World → Prop),
 ∃ (J16 : Int × Unit → World → Nat),
 J15 (0, ()) w14 ∧
 ∀ (x17 : Int) (w18 : World),
 J15 (x17, ()) w18 →
 (decide (x17 < 4) = true →
 ∃ (ad19 : Addr),
 Gives Proofs.Try.prog (Instr.indexAt 22 (Value.pointer (some ad12)) (Value.int IntKind.i64 x17)) (Value.pointer (some ad19)) ∧
 ∃ (x20 : Int),
 Reads Proofs.Try.prog [] (Instr.loadAt 2 (Value.pointer (some ad19))) w18 (Value.int IntKind.i64 x20) ∧
 ∃ (ad21 : Addr),
 Gives Proofs.Try.prog (Instr.indexAt 22 (Value.pointer (some (Addr.mk ad3.block (ad3.off + 5) none))) (Value.int IntKind.i64 x17)) (Value.pointer (some ad21)) ∧
 ∃ (x22 : Int),
 Reads Proofs.Try.prog [] (Instr.loadAt 2 (Value.pointer (some ad21))) w18 (Value.int IntKind.i64 x22) ∧
 (decide (x20 < x22) = true → ∀ (w23 : World), Bel w18 w23 → R (Ending.returned (Value.bool false)) w23) ∧
 (decide (x20 < x22) = false → ∀ (w24 : World), Bel w18 w24 → J15 (IntKind.i64.wrap (x17 + 1), ()) w24 ∧ J16 (IntKind.i64.wrap (x17 + 1), ()) w24 < J16 (x17, ()) w18)) ∧
 (decide (x17 < 4) = false → R (Ending.returned (Value.bool (decide ((↑vn : Int) > 0)))) w18)
theorem f16_eq (c_0 : Int) (c_1 : Int) (c_2 : Int) (c_3 : Int) (c_4 : Int) (c_5 : Int) (c_6 : Int) (c_7 : Int) (c_8 : Int) (va : Option Addr) (vn : Nat) (vc : Nat) (w : World) (R : Ending → World → Prop) : (fnF Go.Proofs.Try.prog h16 Go.Proofs.Try.f16 [Value.agg
 #[Value.int IntKind.i64 c_0, Value.int IntKind.i64 c_1, Value.int IntKind.i64 c_2, Value.int IntKind.i64 c_3, Value.int IntKind.i64 c_4, Value.int IntKind.i64 c_5, Value.int IntKind.i64 c_6, Value.int IntKind.i64 c_7,
 Value.int IntKind.i64 c_8],
 Value.slice va vn vc] w R).den = f16_vc c_0 c_1 c_2 c_3 c_4 c_5 c_6 c_7 c_8 va vn vc w R := by kernel_rfl
theorem f16_calls (c_0 : Int) (c_1 : Int) (c_2 : Int) (c_3 : Int) (c_4 : Int) (c_5 : Int) (c_6 : Int) (c_7 : Int) (c_8 : Int) (va : Option Addr) (vn : Nat) (vc : Nat) (w : World) (R : Ending → World → Prop) (h : f16_vc c_0 c_1 c_2 c_3 c_4 c_5 c_6 c_7 c_8 va vn vc w R) : Calls Go.Proofs.Try.prog 16 (List.toArray [Value.agg
 #[Value.int IntKind.i64 c_0, Value.int IntKind.i64 c_1, Value.int IntKind.i64 c_2, Value.int IntKind.i64 c_3, Value.int IntKind.i64 c_4, Value.int IntKind.i64 c_5, Value.int IntKind.i64 c_6, Value.int IntKind.i64 c_7,
 Value.int IntKind.i64 c_8],
 Value.slice va vn vc]) w R :=
 fn_sound (H := h16) (fn := Go.Proofs.Try.f16) (by kernel_rfl) (by kernel_rfl) (by kernel_rfl) ((f16_eq c_0 c_1 c_2 c_3 c_4 c_5 c_6 c_7 c_8 va vn vc w R).mpr h)


/-! manciple/mancipleref17.Those -/
def h17 : Hints := ⟨[3], [20, 30], [13, 25], [(5, [0, 1, 2, 3, 4, 5, 6, 7, 8, 9])], [], [(3, ⟨[(7, .sl), (8, .int .i64)], []⟩)], [], [], []⟩
def f17_vc (b_0 : Int) (b_1 : Int) (b_2 : Int) (b_3 : Int) (b_4 : Int) (b_5 : Int) (b_6 : Int) (b_7 : Int) (b_8 : Int) (b_9 : Int) (b_10 : Int) (b_11a : Option Addr) (b_11n : Nat) (b_11c : Nat) (b_12a : Option Addr) (b_12n : Nat) (b_12c : Nat) (b_13a : Option Addr) (b_13n : Nat) (b_13c : Nat) (b_14a : Option Addr) (b_14n : Nat) (b_14c : Nat) (b_15a : Option Addr) (b_15n : Nat) (b_15c : Nat) (agent : Int) (pass : Int) (w : World) (R : Ending → World → Prop) : Prop :=
 ∀ (n1 : Nat),
 w.heap.size ≤ n1 →
 ∃ (J2 : (Option Addr × Nat × Nat) × Int × Unit → World → Prop),
 ∃ (J3 : (Option Addr × Nat × Nat) × Int × Unit → World → Nat),
 (∀ (w4 : World), Bel w w4 → Under [n1] w4 → J2 ((none, 0, 0), 0, ()) w4) ∧
 ∀ (a5 : Option Addr) (n6 n7 : Nat) (x8 : Int) (w9 : World),
 J2 ((a5, n6, n7), x8, ()) w9 →
 (decide (x8 < (↑b_11n : Int)) = true →
 ∃ (ad10 : Addr),
 Gives Proofs.Try.prog (Instr.indexAt 25 (Value.slice b_11a b_11n b_11c) (Value.int IntKind.i64 x8)) (Value.pointer (some ad10)) ∧
 ∃ (x11 : Int),
 Reads Proofs.Try.prog [] (Instr.loadAt 2 (Value.pointer (some ad10))) w9 (Value.int IntKind.i64 x11) ∧
 ∀ (w12 : World),
 Bel w9 w12 →
 Under [n1] w12 →
 Calls Proofs.Try.prog 21
 #[Value.agg
 #[Value.int IntKind.i64 b_0, Value.int IntKind.i64 b_1, Value.int IntKind.i64 b_2, Value.int IntKind.i64 b_3, Value.int IntKind.i64 b_4, Value.int IntKind.i64 b_5, Value.int IntKind.i64 b_6,
 Value.int IntKind.i64 b_7, Value.int IntKind.i64 b_8, Value.int IntKind.i64 b_9, Value.int IntKind.i64 b_10, Value.slice b_11a b_11n b_11c, Value.slice b_12a b_12n b_12c,
 Value.slice b_13a b_13n b_13c, Value.slice b_14a b_14n b_14c, Value.slice b_15a b_15n b_15c],
 Value.int IntKind.i64 x11, Value.int IntKind.i64 agent, Value.int IntKind.i64 pass]
 w12 fun (e13 : Ending) (w14 : World) =>
 ∃ (b15 : Bool),
 e13 = Ending.returned (Value.bool b15) ∧
 Keeps [n1] w12 w14 ∧
 (b15 = true →
 ∃ (ad16 : Addr),
 Gives Proofs.Try.prog (Instr.indexAt 25 (Value.slice b_11a b_11n b_11c) (Value.int IntKind.i64 x8)) (Value.pointer (some ad16)) ∧
 ∃ (x17 : Int),
 Reads Proofs.Try.prog [] (Instr.loadAt 2 (Value.pointer (some ad16))) w14 (Value.int IntKind.i64 x17) ∧
 OpW Proofs.Try.prog (valueS (Instr.buildSlice 43 1 #[(0, Value.int IntKind.i64 x17)])) w14 fun (v18 : Value) (w19 : World) =>
 ∃ (a20 : Option Addr),
 ∃ (n21 : Nat),
 ∃ (n22 : Nat),
 v18 = Value.slice a20 n21 n22 ∧
 Keeps [n1] w14 w19 ∧
 OpW Proofs.Try.prog (builtin Builtin.append #[43, 43] 43 #[false, false] #[Value.slice a5 n6 n7, Value.slice a20 n21 n22]) w19 fun (v23 : Value) (w24 : World) =>
 ∃ (a25 : Option Addr),
 ∃ (n26 : Nat),
 ∃ (n27 : Nat),
 v23 = Value.slice a25 n26 n27 ∧
 Keeps [n1] w19 w24 ∧
 J2 ((a25, n26, n27), IntKind.i64.wrap (x8 + 1), ()) w24 ∧ J3 ((a25, n26, n27), IntKind.i64.wrap (x8 + 1), ()) w24 < J3 ((a5, n6, n7), x8, ()) w9) ∧
 (b15 = false → J2 ((a5, n6, n7), IntKind.i64.wrap (x8 + 1), ()) w14 ∧ J3 ((a5, n6, n7), IntKind.i64.wrap (x8 + 1), ()) w14 < J3 ((a5, n6, n7), x8, ()) w9)) ∧
 (decide (x8 < (↑b_11n : Int)) = false → R (Ending.returned (Value.slice a5 n6 n7)) w9)
theorem f17_eq (b_0 : Int) (b_1 : Int) (b_2 : Int) (b_3 : Int) (b_4 : Int) (b_5 : Int) (b_6 : Int) (b_7 : Int) (b_8 : Int) (b_9 : Int) (b_10 : Int) (b_11a : Option Addr) (b_11n : Nat) (b_11c : Nat) (b_12a : Option Addr) (b_12n : Nat) (b_12c : Nat) (b_13a : Option Addr) (b_13n : Nat) (b_13c : Nat) (b_14a : Option Addr) (b_14n : Nat) (b_14c : Nat) (b_15a : Option Addr) (b_15n : Nat) (b_15c : Nat) (agent : Int) (pass : Int) (w : World) (R : Ending → World → Prop) : (fnF Go.Proofs.Try.prog h17 Go.Proofs.Try.f17 [Value.agg
 #[Value.int IntKind.i64 b_0, Value.int IntKind.i64 b_1, Value.int IntKind.i64 b_2, Value.int IntKind.i64 b_3, Value.int IntKind.i64 b_4, Value.int IntKind.i64 b_5, Value.int IntKind.i64 b_6, Value.int IntKind.i64 b_7,
 Value.int IntKind.i64 b_8, Value.int IntKind.i64 b_9, Value.int IntKind.i64 b_10, Value.slice b_11a b_11n b_11c, Value.slice b_12a b_12n b_12c, Value.slice b_13a b_13n b_13c, Value.slice b_14a b_14n b_14c,
 Value.slice b_15a b_15n b_15c],
 Value.int IntKind.i64 agent, Value.int IntKind.i64 pass] w R).den = f17_vc b_0 b_1 b_2 b_3 b_4 b_5 b_6 b_7 b_8 b_9 b_10 b_11a b_11n b_11c b_12a b_12n b_12c b_13a b_13n b_13c b_14a b_14n b_14c b_15a b_15n b_15c agent pass w R := by kernel_rfl
theorem f17_calls (b_0 : Int) (b_1 : Int) (b_2 : Int) (b_3 : Int) (b_4 : Int) (b_5 : Int) (b_6 : Int) (b_7 : Int) (b_8 : Int) (b_9 : Int) (b_10 : Int) (b_11a : Option Addr) (b_11n : Nat) (b_11c : Nat) (b_12a : Option Addr) (b_12n : Nat) (b_12c : Nat) (b_13a : Option Addr) (b_13n : Nat) (b_13c : Nat) (b_14a : Option Addr) (b_14n : Nat) (b_14c : Nat) (b_15a : Option Addr) (b_15n : Nat) (b_15c : Nat) (agent : Int) (pass : Int) (w : World) (R : Ending → World → Prop) (h : f17_vc b_0 b_1 b_2 b_3 b_4 b_5 b_6 b_7 b_8 b_9 b_10 b_11a b_11n b_11c b_12a b_12n b_12c b_13a b_13n b_13c b_14a b_14n b_14c b_15a b_15n b_15c agent pass w R) : Calls Go.Proofs.Try.prog 17 (List.toArray [Value.agg
 #[Value.int IntKind.i64 b_0, Value.int IntKind.i64 b_1, Value.int IntKind.i64 b_2, Value.int IntKind.i64 b_3, Value.int IntKind.i64 b_4, Value.int IntKind.i64 b_5, Value.int IntKind.i64 b_6, Value.int IntKind.i64 b_7,
 Value.int IntKind.i64 b_8, Value.int IntKind.i64 b_9, Value.int IntKind.i64 b_10, Value.slice b_11a b_11n b_11c, Value.slice b_12a b_12n b_12c, Value.slice b_13a b_13n b_13c, Value.slice b_14a b_14n b_14c,
 Value.slice b_15a b_15n b_15c],
 Value.int IntKind.i64 agent, Value.int IntKind.i64 pass]) w R :=
 fn_sound (H := h17) (fn := Go.Proofs.Try.f17) (by kernel_rfl) (by kernel_rfl) (by kernel_rfl) ((f17_eq b_0 b_1 b_2 b_3 b_4 b_5 b_6 b_7 b_8 b_9 b_10 b_11a b_11n b_11c b_12a b_12n b_12c b_13a b_13n b_13c b_14a b_14n b_14c b_15a b_15n b_15c agent pass w R).mpr h)


/-! manciple/mancipleref17.SameIDs -/
def h18 : Hints := ⟨[], [19, 23], [10, 14, 25], [(6, [0, 1, 2, 3, 4, 5, 6, 7, 8])], [], [(4, ⟨[(5, .int .i64)], []⟩)], [], [], []⟩
def f18_vc (aa : Option Addr) (an : Nat) (ac : Nat) (ba : Option Addr) (bn : Nat) (bc : Nat) (w : World) (R : Ending → World → Prop) : Prop :=
 (((↑an : Int) != (↑bn : Int)) = true → R (Ending.returned (Value.bool false)) w) ∧
 (((↑an : Int) != (↑bn : Int)) = false →
 ∃ (J1 : Int × Unit → World → Prop),
 ∃ (J2 : Int × Unit → World → Nat),
 J1 (0, ()) w ∧
 ∀ (x3 : Int) (w4 : World),
 J1 (x3, ()) w4 →
 (decide (x3 < (↑an : Int)) = true →
 ∃ (ad5 : Addr),
 Gives Proofs.Try.prog (Instr.indexAt 43 (Value.slice aa an ac) (Value.int IntKind.i64 x3)) (Value.pointer (some ad5)) ∧
 ∃ (x6 : Int),
 Reads Proofs.Try.prog [] (Instr.loadAt 2 (Value.pointer (some ad5))) w4 (Value.int IntKind.i64 x6) ∧
 ∃ (ad7 : Addr),
 Gives Proofs.Try.prog (Instr.indexAt 43 (Value.slice ba bn bc) (Value.int IntKind.i64 x3)) (Value.pointer (some ad7)) ∧
 ∃ (x8 : Int),
 Reads Proofs.Try.prog [] (Instr.loadAt 2 (Value.pointer (some ad7))) w4 (Value.int IntKind.i64 x8) ∧
 ((x6 != x8) = true → ∀ (w9 : World), Bel w4 w9 → R (Ending.returned (Value.bool false)) w9) ∧
 ((x6 != x8) = false → ∀ (w10 : World), Bel w4 w10 → J1 (IntKind.i64.wrap (x3 + 1), ()) w10 ∧ J2 (IntKind.i64.wrap (x3 + 1), ()) w10 < J2 (x3, ()) w4)) ∧
 (decide (x3 < (↑an : Int)) = false → R (Ending.returned (Value.bool true)) w4))
theorem f18_eq (aa : Option Addr) (an : Nat) (ac : Nat) (ba : Option Addr) (bn : Nat) (bc : Nat) (w : World) (R : Ending → World → Prop) : (fnF Go.Proofs.Try.prog h18 Go.Proofs.Try.f18 [Value.slice aa an ac, Value.slice ba bn bc] w R).den = f18_vc aa an ac ba bn bc w R := by kernel_rfl
theorem f18_calls (aa : Option Addr) (an : Nat) (ac : Nat) (ba : Option Addr) (bn : Nat) (bc : Nat) (w : World) (R : Ending → World → Prop) (h : f18_vc aa an ac ba bn bc w R) : Calls Go.Proofs.Try.prog 18 (List.toArray [Value.slice aa an ac, Value.slice ba bn bc]) w R :=
 fn_sound (H := h18) (fn := Go.Proofs.Try.f18) (by kernel_rfl) (by kernel_rfl) (by kernel_rfl) ((f18_eq aa an ac ba bn bc w R).mpr h)


/-! manciple/view.Those -/
def h19 : Hints := ⟨[3, 9], [15], [14, 22], [], [], [(3, ⟨[(7, .sl), (13, .int .i64)], []⟩)], [], [], []⟩
def f19_vc (b_0 : Int) (b_1 : Int) (b_2 : Int) (b_3 : Int) (b_4 : Int) (b_5 : Int) (b_6 : Int) (b_7 : Int) (b_8 : Int) (b_9 : Int) (b_10 : Int) (b_11a : Option Addr) (b_11n : Nat) (b_11c : Nat) (b_12a : Option Addr) (b_12n : Nat) (b_12c : Nat) (b_13a : Option Addr) (b_13n : Nat) (b_13c : Nat) (b_14a : Option Addr) (b_14n : Nat) (b_14c : Nat) (b_15a : Option Addr) (b_15n : Nat) (b_15c : Nat) (agent : Int) (pass : Int) (w : World) (R : Ending → World → Prop) : Prop :=
 ∀ (n1 : Nat),
 w.heap.size ≤ n1 →
 ∃ (J2 : (Option Addr × Nat × Nat) × Int × Unit → World → Prop),
 ∃ (J3 : (Option Addr × Nat × Nat) × Int × Unit → World → Nat),
 (∀ (w4 : World), Bel w w4 → Under [n1] w4 → J2 ((none, 0, 0), 0, ()) w4) ∧
 ∀ (a5 : Option Addr) (n6 n7 : Nat) (x8 : Int) (w9 : World),
 J2 ((a5, n6, n7), x8, ()) w9 →
 (decide (x8 < (↑b_11n : Int)) = true →
 ∃ (ad10 : Addr),
 Gives Proofs.Try.prog (Instr.indexAt 25 (Value.slice b_11a b_11n b_11c) (Value.int IntKind.i64 x8)) (Value.pointer (some ad10)) ∧
 ∃ (x11 : Int),
 ∃ (x12 : Int),
 ∃ (x13 : Int),
 ∃ (b14 : Bool),
 ∃ (b15 : Bool),
 ∃ (x16 : Int),
 ∃ (x17 : Int),
 Reads Proofs.Try.prog [] (Instr.loadAt 48 (Value.pointer (some ad10))) w9
 (Value.agg #[Value.int IntKind.i64 x11, Value.int IntKind.i64 x12, Value.int IntKind.i64 x13, Value.bool b14, Value.bool b15, Value.int IntKind.i64 x16, Value.int IntKind.i64 x17]) ∧
 ∀ (n18 : Nat),
 w9.heap.size ≤ n18 →
 ∀ (w19 : World),
 Evo [n18] w9 w19 →
 Under [n1, n18] w19 →
 Calls Proofs.Try.prog 20
 #[Value.agg
 #[Value.int IntKind.i64 b_0, Value.int IntKind.i64 b_1, Value.int IntKind.i64 b_2, Value.int IntKind.i64 b_3, Value.int IntKind.i64 b_4, Value.int IntKind.i64 b_5,
 Value.int IntKind.i64 b_6, Value.int IntKind.i64 b_7, Value.int IntKind.i64 b_8, Value.int IntKind.i64 b_9, Value.int IntKind.i64 b_10, Value.slice b_11a b_11n b_11c,
 Value.slice b_12a b_12n b_12c, Value.slice b_13a b_13n b_13c, Value.slice b_14a b_14n b_14c, Value.slice b_15a b_15n b_15c],
 Value.int IntKind.i64 x11, Value.int IntKind.i64 agent, Value.int IntKind.i64 pass]
 w19 fun (e20 : Ending) (w21 : World) =>
 ∃ (b22 : Bool),
 e20 = Ending.returned (Value.bool b22) ∧
 Keeps [n1, n18] w19 w21 ∧
 (b22 = true →
 OpW Proofs.Try.prog (valueS (Instr.buildSlice 43 1 #[(0, Value.int IntKind.i64 x11)])) w21 fun (v23 : Value) (w24 : World) =>
 ∃ (a25 : Option Addr),
 ∃ (n26 : Nat),
 ∃ (n27 : Nat),
 v23 = Value.slice a25 n26 n27 ∧
 Keeps [n1, n18] w21 w24 ∧
 OpW Proofs.Try.prog (builtin Builtin.append #[43, 43] 43 #[false, false] #[Value.slice a5 n6 n7, Value.slice a25 n26 n27]) w24 fun (v28 : Value) (w29 : World) =>
 ∃ (a30 : Option Addr),
 ∃ (n31 : Nat),
 ∃ (n32 : Nat),
 v28 = Value.slice a30 n31 n32 ∧
 Keeps [n1, n18] w24 w29 ∧
 J2 ((a30, n31, n32), IntKind.i64.wrap (x8 + 1), ()) w29 ∧ J3 ((a30, n31, n32), IntKind.i64.wrap (x8 + 1), ()) w29 < J3 ((a5, n6, n7), x8, ()) w9) ∧
 (b22 = false → J2 ((a5, n6, n7), IntKind.i64.wrap (x8 + 1), ()) w21 ∧ J3 ((a5, n6, n7), IntKind.i64.wrap (x8 + 1), ()) w21 < J3 ((a5, n6, n7), x8, ()) w9)) ∧
 (decide (x8 < (↑b_11n : Int)) = false → R (Ending.returned (Value.slice a5 n6 n7)) w9)
theorem f19_eq (b_0 : Int) (b_1 : Int) (b_2 : Int) (b_3 : Int) (b_4 : Int) (b_5 : Int) (b_6 : Int) (b_7 : Int) (b_8 : Int) (b_9 : Int) (b_10 : Int) (b_11a : Option Addr) (b_11n : Nat) (b_11c : Nat) (b_12a : Option Addr) (b_12n : Nat) (b_12c : Nat) (b_13a : Option Addr) (b_13n : Nat) (b_13c : Nat) (b_14a : Option Addr) (b_14n : Nat) (b_14c : Nat) (b_15a : Option Addr) (b_15n : Nat) (b_15c : Nat) (agent : Int) (pass : Int) (w : World) (R : Ending → World → Prop) : (fnF Go.Proofs.Try.prog h19 Go.Proofs.Try.f19 [Value.agg
 #[Value.int IntKind.i64 b_0, Value.int IntKind.i64 b_1, Value.int IntKind.i64 b_2, Value.int IntKind.i64 b_3, Value.int IntKind.i64 b_4, Value.int IntKind.i64 b_5, Value.int IntKind.i64 b_6, Value.int IntKind.i64 b_7,
 Value.int IntKind.i64 b_8, Value.int IntKind.i64 b_9, Value.int IntKind.i64 b_10, Value.slice b_11a b_11n b_11c, Value.slice b_12a b_12n b_12c, Value.slice b_13a b_13n b_13c, Value.slice b_14a b_14n b_14c,
 Value.slice b_15a b_15n b_15c],
 Value.int IntKind.i64 agent, Value.int IntKind.i64 pass] w R).den = f19_vc b_0 b_1 b_2 b_3 b_4 b_5 b_6 b_7 b_8 b_9 b_10 b_11a b_11n b_11c b_12a b_12n b_12c b_13a b_13n b_13c b_14a b_14n b_14c b_15a b_15n b_15c agent pass w R := by kernel_rfl
theorem f19_calls (b_0 : Int) (b_1 : Int) (b_2 : Int) (b_3 : Int) (b_4 : Int) (b_5 : Int) (b_6 : Int) (b_7 : Int) (b_8 : Int) (b_9 : Int) (b_10 : Int) (b_11a : Option Addr) (b_11n : Nat) (b_11c : Nat) (b_12a : Option Addr) (b_12n : Nat) (b_12c : Nat) (b_13a : Option Addr) (b_13n : Nat) (b_13c : Nat) (b_14a : Option Addr) (b_14n : Nat) (b_14c : Nat) (b_15a : Option Addr) (b_15n : Nat) (b_15c : Nat) (agent : Int) (pass : Int) (w : World) (R : Ending → World → Prop) (h : f19_vc b_0 b_1 b_2 b_3 b_4 b_5 b_6 b_7 b_8 b_9 b_10 b_11a b_11n b_11c b_12a b_12n b_12c b_13a b_13n b_13c b_14a b_14n b_14c b_15a b_15n b_15c agent pass w R) : Calls Go.Proofs.Try.prog 19 (List.toArray [Value.agg
 #[Value.int IntKind.i64 b_0, Value.int IntKind.i64 b_1, Value.int IntKind.i64 b_2, Value.int IntKind.i64 b_3, Value.int IntKind.i64 b_4, Value.int IntKind.i64 b_5, Value.int IntKind.i64 b_6, Value.int IntKind.i64 b_7,
 Value.int IntKind.i64 b_8, Value.int IntKind.i64 b_9, Value.int IntKind.i64 b_10, Value.slice b_11a b_11n b_11c, Value.slice b_12a b_12n b_12c, Value.slice b_13a b_13n b_13c, Value.slice b_14a b_14n b_14c,
 Value.slice b_15a b_15n b_15c],
 Value.int IntKind.i64 agent, Value.int IntKind.i64 pass]) w R :=
 fn_sound (H := h19) (fn := Go.Proofs.Try.f19) (by kernel_rfl) (by kernel_rfl) (by kernel_rfl) ((f19_eq b_0 b_1 b_2 b_3 b_4 b_5 b_6 b_7 b_8 b_9 b_10 b_11a b_11n b_11c b_12a b_12n b_12c b_13a b_13n b_13c b_14a b_14n b_14c b_15a b_15n b_15c agent pass w R).mpr h)


/-! manciple/view.Eligible -/
def h20 : Hints := ⟨[4, 10], [33], [27, 21, 37], [], [], [], [], [], [(4, (.op 0 (.op 1 (.op 2 (.op 3 (.alt (.op 4 (.op 5 (.op 6 (.op 7 (.op 8 .nil))))) (.op 7 (.op 4 (.op 5 (.op 6 (.op 8 .nil)))))))))))]⟩
def f20_vc (b_0 : Int) (b_1 : Int) (b_2 : Int) (b_3 : Int) (b_4 : Int) (b_5 : Int) (b_6 : Int) (b_7 : Int) (b_8 : Int) (b_9 : Int) (b_10 : Int) (b_11a : Option Addr) (b_11n : Nat) (b_11c : Nat) (b_12a : Option Addr) (b_12n : Nat) (b_12c : Nat) (b_13a : Option Addr) (b_13n : Nat) (b_13c : Nat) (b_14a : Option Addr) (b_14n : Nat) (b_14c : Nat) (b_15a : Option Addr) (b_15n : Nat) (b_15c : Nat) (frame : Int) (agent : Int) (pass : Int) (w : World) (R : Ending → World → Prop) : Prop :=
 ∀ (n1 : Nat),
 w.heap.size ≤ n1 →
 ∀ (w2 : World),
 Bel w w2 →
 Under [n1] w2 →
 Calls Proofs.Try.prog 11
 #[Value.agg
 #[Value.int IntKind.i64 b_0, Value.int IntKind.i64 b_1, Value.int IntKind.i64 b_2, Value.int IntKind.i64 b_3, Value.int IntKind.i64 b_4, Value.int IntKind.i64 b_5, Value.int IntKind.i64 b_6, Value.int IntKind.i64 b_7,
 Value.int IntKind.i64 b_8, Value.int IntKind.i64 b_9, Value.int IntKind.i64 b_10, Value.slice b_11a b_11n b_11c, Value.slice b_12a b_12n b_12c, Value.slice b_13a b_13n b_13c, Value.slice b_14a b_14n b_14c,
 Value.slice b_15a b_15n b_15c],
 Value.int IntKind.i64 frame, Value.int IntKind.i64 agent, Value.int IntKind.i64 pass]
 w2 fun (e3 : Ending) (w4 : World) =>
 ∃ (a5 : Option Addr),
 ∃ (n6 : Nat),
 ∃ (n7 : Nat),
 e3 = Ending.returned (Value.slice a5 n6 n7) ∧
 Keeps [n1] w2 w4 ∧
 Calls Proofs.Try.prog 15
 #[Value.agg
 #[Value.int IntKind.i64 b_0, Value.int IntKind.i64 b_1, Value.int IntKind.i64 b_2, Value.int IntKind.i64 b_3, Value.int IntKind.i64 b_4, Value.int IntKind.i64 b_5, Value.int IntKind.i64 b_6,
 Value.int IntKind.i64 b_7, Value.int IntKind.i64 b_8],
 Value.slice a5 n6 n7]
 w4 fun (e8 : Ending) (w9 : World) =>
 ∃ (b10 : Bool),
 e8 = Ending.returned (Value.bool b10) ∧
 Keeps [n1] w4 w9 ∧
 ((!b10) = true → R (Ending.returned (Value.bool false)) w9) ∧
 ((!b10) = false →
 Calls Proofs.Try.prog 12
 #[Value.agg
 #[Value.int IntKind.i64 b_0, Value.int IntKind.i64 b_1, Value.int IntKind.i64 b_2, Value.int IntKind.i64 b_3, Value.int IntKind.i64 b_4, Value.int IntKind.i64 b_5, Value.int IntKind.i64 b_6,
 Value.int IntKind.i64 b_7, Value.int IntKind.i64 b_8, Value.int IntKind.i64 b_9, Value.int IntKind.i64 b_10, Value.slice b_11a b_11n b_11c, Value.slice b_12a b_12n b_12c,
 Value.slice b_13a b_13n b_13c, Value.slice b_14a b_14n b_14c, Value.slice b_15a b_15n b_15c],
 Value.int IntKind.i64 frame, Value.int IntKind.i64 agent, Value.slice a5 n6 n7]
 w9 fun (e11 : Ending) (w12 : World) =>
 ∃ (b13 : Bool),
 e11 = Ending.returned (Value.bool b13) ∧
 Keeps [n1] w9 w12 ∧
 (b13 = true → R (Ending.returned (Value.bool false)) w12) ∧
 (b13 = false →
 (∀ (w14 : World),
 Bel w12 w14 →
 Under [n1] w14 →
 Calls Proofs.Try.prog 26
 #[Value.agg
 #[Value.int IntKind.i64 b_0, Value.int IntKind.i64 b_1, Value.int IntKind.i64 b_2, Value.int IntKind.i64 b_3, Value.int IntKind.i64 b_4, Value.int IntKind.i64 b_5,
 Value.int IntKind.i64 b_6, Value.int IntKind.i64 b_7, Value.int IntKind.i64 b_8, Value.int IntKind.i64 b_9, Value.int IntKind.i64 b_10, Value.slice b_11a b_11n b_11c,
 Value.slice b_12a b_12n b_12c, Value.slice b_13a b_13n b_13c, Value.slice b_14a b_14n b_14c, Value.slice b_15a b_15n b_15c],
 Value.int IntKind.i64 frame]
 w14 fun (e15 : Ending) (w16 : World) =>
 ∃ (x17 : Int),
 e15 = Ending.returned (Value.int IntKind.i64 x17) ∧
 Keeps [n1] w14 w16 ∧
 ∃ (ad18 : Addr),
 Gives Proofs.Try.prog (Instr.indexAt 25 (Value.slice b_11a b_11n b_11c) (Value.int IntKind.i64 x17)) (Value.pointer (some ad18)) ∧
 ∃ (x19 : Int),
 ∃ (x20 : Int),
 ∃ (x21 : Int),
 ∃ (b22 : Bool),
 ∃ (b23 : Bool),
 ∃ (x24 : Int),
 ∃ (x25 : Int),
 Reads Proofs.Try.prog [] (Instr.loadAt 48 (Value.pointer (some ad18))) w16
 (Value.agg
 #[Value.int IntKind.i64 x19, Value.int IntKind.i64 x20, Value.int IntKind.i64 x21, Value.bool b22, Value.bool b23, Value.int IntKind.i64 x24,
 Value.int IntKind.i64 x25]) ∧
 ∀ (n26 : Nat),
 w16.heap.size ≤ n26 →
 Reads Proofs.Try.prog [] (Instr.loadAt 48 (Value.pointer (some ad18))) w16
 (Value.agg
 #[Value.int IntKind.i64 x19, Value.int IntKind.i64 x20, Value.int IntKind.i64 x21, Value.bool b22, Value.bool b23, Value.int IntKind.i64 x24,
 Value.int IntKind.i64 x25]) ∧
 (b22 = true → ∀ (w27 : World), Evo [n26] w16 w27 → Under [n1, n26] w27 → R (Ending.returned (Value.bool !b23)) w27) ∧
 (b22 = false → ∀ (w28 : World), Evo [n26] w16 w28 → Under [n1, n26] w28 → R (Ending.returned (Value.bool false)) w28)) ∧
 ∀ (n29 : Nat),
 w12.heap.size ≤ n29 →
 ∀ (w30 : World),
 Bel w12 w30 →
 Under [n1, n29] w30 →
 Calls Proofs.Try.prog 26
 #[Value.agg
 #[Value.int IntKind.i64 b_0, Value.int IntKind.i64 b_1, Value.int IntKind.i64 b_2, Value.int IntKind.i64 b_3, Value.int IntKind.i64 b_4, Value.int IntKind.i64 b_5,
 Value.int IntKind.i64 b_6, Value.int IntKind.i64 b_7, Value.int IntKind.i64 b_8, Value.int IntKind.i64 b_9, Value.int IntKind.i64 b_10, Value.slice b_11a b_11n b_11c,
 Value.slice b_12a b_12n b_12c, Value.slice b_13a b_13n b_13c, Value.slice b_14a b_14n b_14c, Value.slice b_15a b_15n b_15c],
 Value.int IntKind.i64 frame]
 w30 fun (e31 : Ending) (w32 : World) =>
 ∃ (x33 : Int),
 e31 = Ending.returned (Value.int IntKind.i64 x33) ∧
 Keeps [n1, n29] w30 w32 ∧
 ∃ (ad34 : Addr),
 Gives Proofs.Try.prog (Instr.indexAt 25 (Value.slice b_11a b_11n b_11c) (Value.int IntKind.i64 x33)) (Value.pointer (some ad34)) ∧
 ∃ (x35 : Int),
 ∃ (x36 : Int),
 ∃ (x37 : Int),
 ∃ (b38 : Bool),
 ∃ (b39 : Bool),
 ∃ (x40 : Int),
 ∃ (x41 : Int),
 Reads Proofs.Try.prog [] (Instr.loadAt 48 (Value.pointer (some ad34))) w32
 (Value.agg
 #[Value.int IntKind.i64 x35, Value.int IntKind.i64 x36, Value.int IntKind.i64 x37, Value.bool b38, Value.bool b39, Value.int IntKind.i64 x40,
 Value.int IntKind.i64 x41]) ∧
 (b38 = true → ∀ (w42 : World), Evo [n29] w32 w42 → Under [n1, n29] w42 → R (Ending.returned (Value.bool !b39)) w42) ∧
 (b38 = false → ∀ (w43 : World), Evo [n29] w32 w43 → Under [n1, n29] w43 → R (Ending.returned (Value.bool false)) w43)))
theorem f20_eq (b_0 : Int) (b_1 : Int) (b_2 : Int) (b_3 : Int) (b_4 : Int) (b_5 : Int) (b_6 : Int) (b_7 : Int) (b_8 : Int) (b_9 : Int) (b_10 : Int) (b_11a : Option Addr) (b_11n : Nat) (b_11c : Nat) (b_12a : Option Addr) (b_12n : Nat) (b_12c : Nat) (b_13a : Option Addr) (b_13n : Nat) (b_13c : Nat) (b_14a : Option Addr) (b_14n : Nat) (b_14c : Nat) (b_15a : Option Addr) (b_15n : Nat) (b_15c : Nat) (frame : Int) (agent : Int) (pass : Int) (w : World) (R : Ending → World → Prop) : (fnF Go.Proofs.Try.prog h20 Go.Proofs.Try.f20 [Value.agg
 #[Value.int IntKind.i64 b_0, Value.int IntKind.i64 b_1, Value.int IntKind.i64 b_2, Value.int IntKind.i64 b_3, Value.int IntKind.i64 b_4, Value.int IntKind.i64 b_5, Value.int IntKind.i64 b_6, Value.int IntKind.i64 b_7,
 Value.int IntKind.i64 b_8, Value.int IntKind.i64 b_9, Value.int IntKind.i64 b_10, Value.slice b_11a b_11n b_11c, Value.slice b_12a b_12n b_12c, Value.slice b_13a b_13n b_13c, Value.slice b_14a b_14n b_14c,
 Value.slice b_15a b_15n b_15c],
 Value.int IntKind.i64 frame, Value.int IntKind.i64 agent, Value.int IntKind.i64 pass] w R).den = f20_vc b_0 b_1 b_2 b_3 b_4 b_5 b_6 b_7 b_8 b_9 b_10 b_11a b_11n b_11c b_12a b_12n b_12c b_13a b_13n b_13c b_14a b_14n b_14c b_15a b_15n b_15c frame agent pass w R := by kernel_rfl
theorem f20_calls (b_0 : Int) (b_1 : Int) (b_2 : Int) (b_3 : Int) (b_4 : Int) (b_5 : Int) (b_6 : Int) (b_7 : Int) (b_8 : Int) (b_9 : Int) (b_10 : Int) (b_11a : Option Addr) (b_11n : Nat) (b_11c : Nat) (b_12a : Option Addr) (b_12n : Nat) (b_12c : Nat) (b_13a : Option Addr) (b_13n : Nat) (b_13c : Nat) (b_14a : Option Addr) (b_14n : Nat) (b_14c : Nat) (b_15a : Option Addr) (b_15n : Nat) (b_15c : Nat) (frame : Int) (agent : Int) (pass : Int) (w : World) (R : Ending → World → Prop) (h : f20_vc b_0 b_1 b_2 b_3 b_4 b_5 b_6 b_7 b_8 b_9 b_10 b_11a b_11n b_11c b_12a b_12n b_12c b_13a b_13n b_13c b_14a b_14n b_14c b_15a b_15n b_15c frame agent pass w R) : Calls Go.Proofs.Try.prog 20 (List.toArray [Value.agg
 #[Value.int IntKind.i64 b_0, Value.int IntKind.i64 b_1, Value.int IntKind.i64 b_2, Value.int IntKind.i64 b_3, Value.int IntKind.i64 b_4, Value.int IntKind.i64 b_5, Value.int IntKind.i64 b_6, Value.int IntKind.i64 b_7,
 Value.int IntKind.i64 b_8, Value.int IntKind.i64 b_9, Value.int IntKind.i64 b_10, Value.slice b_11a b_11n b_11c, Value.slice b_12a b_12n b_12c, Value.slice b_13a b_13n b_13c, Value.slice b_14a b_14n b_14c,
 Value.slice b_15a b_15n b_15c],
 Value.int IntKind.i64 frame, Value.int IntKind.i64 agent, Value.int IntKind.i64 pass]) w R :=
 fn_sound (H := h20) (fn := Go.Proofs.Try.f20) (by kernel_rfl) (by kernel_rfl) (by kernel_rfl) ((f20_eq b_0 b_1 b_2 b_3 b_4 b_5 b_6 b_7 b_8 b_9 b_10 b_11a b_11n b_11c b_12a b_12n b_12c b_13a b_13n b_13c b_14a b_14n b_14c b_15a b_15n b_15c frame agent pass w R).mpr h)


/-! manciple/mancipleref17.Eligible -/
def h21 : Hints := ⟨[4], [26, 34], [22, 30, 39, 45], [], [], [], [], [], []⟩
def f21_vc (b_0 : Int) (b_1 : Int) (b_2 : Int) (b_3 : Int) (b_4 : Int) (b_5 : Int) (b_6 : Int) (b_7 : Int) (b_8 : Int) (b_9 : Int) (b_10 : Int) (b_11a : Option Addr) (b_11n : Nat) (b_11c : Nat) (b_12a : Option Addr) (b_12n : Nat) (b_12c : Nat) (b_13a : Option Addr) (b_13n : Nat) (b_13c : Nat) (b_14a : Option Addr) (b_14n : Nat) (b_14c : Nat) (b_15a : Option Addr) (b_15n : Nat) (b_15c : Nat) (frame : Int) (agent : Int) (pass : Int) (w : World) (R : Ending → World → Prop) : Prop :=
 ∀ (n1 : Nat),
 w.heap.size ≤ n1 →
 ∀ (w2 : World),
 Bel w w2 →
 Under [n1] w2 →
 Calls Proofs.Try.prog 9
 #[Value.agg
 #[Value.int IntKind.i64 b_0, Value.int IntKind.i64 b_1, Value.int IntKind.i64 b_2, Value.int IntKind.i64 b_3, Value.int IntKind.i64 b_4, Value.int IntKind.i64 b_5, Value.int IntKind.i64 b_6, Value.int IntKind.i64 b_7,
 Value.int IntKind.i64 b_8, Value.int IntKind.i64 b_9, Value.int IntKind.i64 b_10, Value.slice b_11a b_11n b_11c, Value.slice b_12a b_12n b_12c, Value.slice b_13a b_13n b_13c, Value.slice b_14a b_14n b_14c,
 Value.slice b_15a b_15n b_15c],
 Value.int IntKind.i64 frame, Value.int IntKind.i64 agent, Value.int IntKind.i64 pass]
 w2 fun (e3 : Ending) (w4 : World) =>
 ∃ (a5 : Option Addr),
 ∃ (n6 : Nat),
 ∃ (n7 : Nat),
 e3 = Ending.returned (Value.slice a5 n6 n7) ∧
 Keeps [n1] w2 w4 ∧
 Calls Proofs.Try.prog 37
 #[Value.agg
 #[Value.int IntKind.i64 b_0, Value.int IntKind.i64 b_1, Value.int IntKind.i64 b_2, Value.int IntKind.i64 b_3, Value.int IntKind.i64 b_4, Value.int IntKind.i64 b_5, Value.int IntKind.i64 b_6,
 Value.int IntKind.i64 b_7, Value.int IntKind.i64 b_8, Value.int IntKind.i64 b_9, Value.int IntKind.i64 b_10, Value.slice b_11a b_11n b_11c, Value.slice b_12a b_12n b_12c, Value.slice b_13a b_13n b_13c,
 Value.slice b_14a b_14n b_14c, Value.slice b_15a b_15n b_15c],
 Value.int IntKind.i64 frame]
 w4 fun (e8 : Ending) (w9 : World) =>
 ∃ (x10 : Int),
 e8 = Ending.returned (Value.int IntKind.i64 x10) ∧
 Keeps [n1] w4 w9 ∧
 (decide ((↑n6 : Int) > 0) = true →
 ∃ (ad11 : Addr),
 Gives Proofs.Try.prog (Instr.indexAt 25 (Value.slice b_11a b_11n b_11c) (Value.int IntKind.i64 x10)) (Value.pointer (some ad11)) ∧
 ∃ (b12 : Bool),
 Reads Proofs.Try.prog [] (Instr.loadAt 4 (Value.pointer (some (Addr.mk ad11.block (ad11.off + 3) none)))) w9 (Value.bool b12) ∧
 (b12 = true →
 ∃ (ad13 : Addr),
 Gives Proofs.Try.prog (Instr.indexAt 25 (Value.slice b_11a b_11n b_11c) (Value.int IntKind.i64 x10)) (Value.pointer (some ad13)) ∧
 ∃ (b14 : Bool),
 Reads Proofs.Try.prog [] (Instr.loadAt 4 (Value.pointer (some (Addr.mk ad13.block (ad13.off + 4) none)))) w9 (Value.bool b14) ∧
 ((!b14) = true →
 Calls Proofs.Try.prog 16
 #[Value.agg
 #[Value.int IntKind.i64 b_0, Value.int IntKind.i64 b_1, Value.int IntKind.i64 b_2, Value.int IntKind.i64 b_3, Value.int IntKind.i64 b_4, Value.int IntKind.i64 b_5,
 Value.int IntKind.i64 b_6, Value.int IntKind.i64 b_7, Value.int IntKind.i64 b_8],
 Value.slice a5 n6 n7]
 w9 fun (e15 : Ending) (w16 : World) =>
 ∃ (b17 : Bool),
 e15 = Ending.returned (Value.bool b17) ∧
 Keeps [n1] w9 w16 ∧
 (b17 = true →
 Calls Proofs.Try.prog 13
 #[Value.agg
 #[Value.int IntKind.i64 b_0, Value.int IntKind.i64 b_1, Value.int IntKind.i64 b_2, Value.int IntKind.i64 b_3, Value.int IntKind.i64 b_4, Value.int IntKind.i64 b_5,
 Value.int IntKind.i64 b_6, Value.int IntKind.i64 b_7, Value.int IntKind.i64 b_8, Value.int IntKind.i64 b_9, Value.int IntKind.i64 b_10,
 Value.slice b_11a b_11n b_11c, Value.slice b_12a b_12n b_12c, Value.slice b_13a b_13n b_13c, Value.slice b_14a b_14n b_14c, Value.slice b_15a b_15n b_15c],
 Value.int IntKind.i64 frame, Value.int IntKind.i64 agent, Value.slice a5 n6 n7]
 w16 fun (e18 : Ending) (w19 : World) => ∃ (b20 : Bool), e18 = Ending.returned (Value.bool b20) ∧ Keeps [n1] w16 w19 ∧ R (Ending.returned (Value.bool !b20)) w19) ∧
 (b17 = false → R (Ending.returned (Value.bool false)) w16)) ∧
 ((!b14) = false → R (Ending.returned (Value.bool false)) w9)) ∧
 (b12 = false → R (Ending.returned (Value.bool false)) w9)) ∧
 (decide ((↑n6 : Int) > 0) = false → R (Ending.returned (Value.bool false)) w9)
theorem f21_eq (b_0 : Int) (b_1 : Int) (b_2 : Int) (b_3 : Int) (b_4 : Int) (b_5 : Int) (b_6 : Int) (b_7 : Int) (b_8 : Int) (b_9 : Int) (b_10 : Int) (b_11a : Option Addr) (b_11n : Nat) (b_11c : Nat) (b_12a : Option Addr) (b_12n : Nat) (b_12c : Nat) (b_13a : Option Addr) (b_13n : Nat) (b_13c : Nat) (b_14a : Option Addr) (b_14n : Nat) (b_14c : Nat) (b_15a : Option Addr) (b_15n : Nat) (b_15c : Nat) (frame : Int) (agent : Int) (pass : Int) (w : World) (R : Ending → World → Prop) : (fnF Go.Proofs.Try.prog h21 Go.Proofs.Try.f21 [Value.agg
 #[Value.int IntKind.i64 b_0, Value.int IntKind.i64 b_1, Value.int IntKind.i64 b_2, Value.int IntKind.i64 b_3, Value.int IntKind.i64 b_4, Value.int IntKind.i64 b_5, Value.int IntKind.i64 b_6, Value.int IntKind.i64 b_7,
 Value.int IntKind.i64 b_8, Value.int IntKind.i64 b_9, Value.int IntKind.i64 b_10, Value.slice b_11a b_11n b_11c, Value.slice b_12a b_12n b_12c, Value.slice b_13a b_13n b_13c, Value.slice b_14a b_14n b_14c,
 Value.slice b_15a b_15n b_15c],
 Value.int IntKind.i64 frame, Value.int IntKind.i64 agent, Value.int IntKind.i64 pass] w R).den = f21_vc b_0 b_1 b_2 b_3 b_4 b_5 b_6 b_7 b_8 b_9 b_10 b_11a b_11n b_11c b_12a b_12n b_12c b_13a b_13n b_13c b_14a b_14n b_14c b_15a b_15n b_15c frame agent pass w R := by kernel_rfl
theorem f21_calls (b_0 : Int) (b_1 : Int) (b_2 : Int) (b_3 : Int) (b_4 : Int) (b_5 : Int) (b_6 : Int) (b_7 : Int) (b_8 : Int) (b_9 : Int) (b_10 : Int) (b_11a : Option Addr) (b_11n : Nat) (b_11c : Nat) (b_12a : Option Addr) (b_12n : Nat) (b_12c : Nat) (b_13a : Option Addr) (b_13n : Nat) (b_13c : Nat) (b_14a : Option Addr) (b_14n : Nat) (b_14c : Nat) (b_15a : Option Addr) (b_15n : Nat) (b_15c : Nat) (frame : Int) (agent : Int) (pass : Int) (w : World) (R : Ending → World → Prop) (h : f21_vc b_0 b_1 b_2 b_3 b_4 b_5 b_6 b_7 b_8 b_9 b_10 b_11a b_11n b_11c b_12a b_12n b_12c b_13a b_13n b_13c b_14a b_14n b_14c b_15a b_15n b_15c frame agent pass w R) : Calls Go.Proofs.Try.prog 21 (List.toArray [Value.agg
 #[Value.int IntKind.i64 b_0, Value.int IntKind.i64 b_1, Value.int IntKind.i64 b_2, Value.int IntKind.i64 b_3, Value.int IntKind.i64 b_4, Value.int IntKind.i64 b_5, Value.int IntKind.i64 b_6, Value.int IntKind.i64 b_7,
 Value.int IntKind.i64 b_8, Value.int IntKind.i64 b_9, Value.int IntKind.i64 b_10, Value.slice b_11a b_11n b_11c, Value.slice b_12a b_12n b_12c, Value.slice b_13a b_13n b_13c, Value.slice b_14a b_14n b_14c,
 Value.slice b_15a b_15n b_15c],
 Value.int IntKind.i64 frame, Value.int IntKind.i64 agent, Value.int IntKind.i64 pass]) w R :=
 fn_sound (H := h21) (fn := Go.Proofs.Try.f21) (by kernel_rfl) (by kernel_rfl) (by kernel_rfl) ((f21_eq b_0 b_1 b_2 b_3 b_4 b_5 b_6 b_7 b_8 b_9 b_10 b_11a b_11n b_11c b_12a b_12n b_12c b_13a b_13n b_13c b_14a b_14n b_14c b_15a b_15n b_15c frame agent pass w R).mpr h)


/-! manciple/view.Quiet -/
def h22 : Hints := ⟨[2], [], [10], [], [], [], [], [], []⟩
def f22_vc (b_0 : Int) (b_1 : Int) (b_2 : Int) (b_3 : Int) (b_4 : Int) (b_5 : Int) (b_6 : Int) (b_7 : Int) (b_8 : Int) (b_9 : Int) (b_10 : Int) (b_11a : Option Addr) (b_11n : Nat) (b_11c : Nat) (b_12a : Option Addr) (b_12n : Nat) (b_12c : Nat) (b_13a : Option Addr) (b_13n : Nat) (b_13c : Nat) (b_14a : Option Addr) (b_14n : Nat) (b_14c : Nat) (b_15a : Option Addr) (b_15n : Nat) (b_15c : Nat) (agent : Int) (w : World) (R : Ending → World → Prop) : Prop :=
 ∀ (n1 : Nat),
 w.heap.size ≤ n1 →
 ∀ (w2 : World),
 Bel w w2 →
 Under [n1] w2 →
 Calls Proofs.Try.prog 19
 #[Value.agg
 #[Value.int IntKind.i64 b_0, Value.int IntKind.i64 b_1, Value.int IntKind.i64 b_2, Value.int IntKind.i64 b_3, Value.int IntKind.i64 b_4, Value.int IntKind.i64 b_5, Value.int IntKind.i64 b_6, Value.int IntKind.i64 b_7,
 Value.int IntKind.i64 b_8, Value.int IntKind.i64 b_9, Value.int IntKind.i64 b_10, Value.slice b_11a b_11n b_11c, Value.slice b_12a b_12n b_12c, Value.slice b_13a b_13n b_13c, Value.slice b_14a b_14n b_14c,
 Value.slice b_15a b_15n b_15c],
 Value.int IntKind.i64 agent, Value.int IntKind.i64 1]
 w2 fun (e3 : Ending) (w4 : World) =>
 ∃ (a5 : Option Addr),
 ∃ (n6 : Nat),
 ∃ (n7 : Nat),
 e3 = Ending.returned (Value.slice a5 n6 n7) ∧
 Keeps [n1] w2 w4 ∧
 (((↑n6 : Int) == 0) = true →
 Calls Proofs.Try.prog 19
 #[Value.agg
 #[Value.int IntKind.i64 b_0, Value.int IntKind.i64 b_1, Value.int IntKind.i64 b_2, Value.int IntKind.i64 b_3, Value.int IntKind.i64 b_4, Value.int IntKind.i64 b_5, Value.int IntKind.i64 b_6,
 Value.int IntKind.i64 b_7, Value.int IntKind.i64 b_8, Value.int IntKind.i64 b_9, Value.int IntKind.i64 b_10, Value.slice b_11a b_11n b_11c, Value.slice b_12a b_12n b_12c, Value.slice b_13a b_13n b_13c,
 Value.slice b_14a b_14n b_14c, Value.slice b_15a b_15n b_15c],
 Value.int IntKind.i64 agent, Value.int IntKind.i64 2]
 w4 fun (e8 : Ending) (w9 : World) =>
 ∃ (a10 : Option Addr), ∃ (n11 : Nat), ∃ (n12 : Nat), e8 = Ending.returned (Value.slice a10 n11 n12) ∧ Keeps [n1] w4 w9 ∧ R (Ending.returned (Value.bool ((↑n11 : Int) == 0))) w9) ∧
 (((↑n6 : Int) == 0) = false → R (Ending.returned (Value.bool false)) w4)
theorem f22_eq (b_0 : Int) (b_1 : Int) (b_2 : Int) (b_3 : Int) (b_4 : Int) (b_5 : Int) (b_6 : Int) (b_7 : Int) (b_8 : Int) (b_9 : Int) (b_10 : Int) (b_11a : Option Addr) (b_11n : Nat) (b_11c : Nat) (b_12a : Option Addr) (b_12n : Nat) (b_12c : Nat) (b_13a : Option Addr) (b_13n : Nat) (b_13c : Nat) (b_14a : Option Addr) (b_14n : Nat) (b_14c : Nat) (b_15a : Option Addr) (b_15n : Nat) (b_15c : Nat) (agent : Int) (w : World) (R : Ending → World → Prop) : (fnF Go.Proofs.Try.prog h22 Go.Proofs.Try.f22 [Value.agg
 #[Value.int IntKind.i64 b_0, Value.int IntKind.i64 b_1, Value.int IntKind.i64 b_2, Value.int IntKind.i64 b_3, Value.int IntKind.i64 b_4, Value.int IntKind.i64 b_5, Value.int IntKind.i64 b_6, Value.int IntKind.i64 b_7,
 Value.int IntKind.i64 b_8, Value.int IntKind.i64 b_9, Value.int IntKind.i64 b_10, Value.slice b_11a b_11n b_11c, Value.slice b_12a b_12n b_12c, Value.slice b_13a b_13n b_13c, Value.slice b_14a b_14n b_14c,
 Value.slice b_15a b_15n b_15c],
 Value.int IntKind.i64 agent] w R).den = f22_vc b_0 b_1 b_2 b_3 b_4 b_5 b_6 b_7 b_8 b_9 b_10 b_11a b_11n b_11c b_12a b_12n b_12c b_13a b_13n b_13c b_14a b_14n b_14c b_15a b_15n b_15c agent w R := by kernel_rfl
theorem f22_calls (b_0 : Int) (b_1 : Int) (b_2 : Int) (b_3 : Int) (b_4 : Int) (b_5 : Int) (b_6 : Int) (b_7 : Int) (b_8 : Int) (b_9 : Int) (b_10 : Int) (b_11a : Option Addr) (b_11n : Nat) (b_11c : Nat) (b_12a : Option Addr) (b_12n : Nat) (b_12c : Nat) (b_13a : Option Addr) (b_13n : Nat) (b_13c : Nat) (b_14a : Option Addr) (b_14n : Nat) (b_14c : Nat) (b_15a : Option Addr) (b_15n : Nat) (b_15c : Nat) (agent : Int) (w : World) (R : Ending → World → Prop) (h : f22_vc b_0 b_1 b_2 b_3 b_4 b_5 b_6 b_7 b_8 b_9 b_10 b_11a b_11n b_11c b_12a b_12n b_12c b_13a b_13n b_13c b_14a b_14n b_14c b_15a b_15n b_15c agent w R) : Calls Go.Proofs.Try.prog 22 (List.toArray [Value.agg
 #[Value.int IntKind.i64 b_0, Value.int IntKind.i64 b_1, Value.int IntKind.i64 b_2, Value.int IntKind.i64 b_3, Value.int IntKind.i64 b_4, Value.int IntKind.i64 b_5, Value.int IntKind.i64 b_6, Value.int IntKind.i64 b_7,
 Value.int IntKind.i64 b_8, Value.int IntKind.i64 b_9, Value.int IntKind.i64 b_10, Value.slice b_11a b_11n b_11c, Value.slice b_12a b_12n b_12c, Value.slice b_13a b_13n b_13c, Value.slice b_14a b_14n b_14c,
 Value.slice b_15a b_15n b_15c],
 Value.int IntKind.i64 agent]) w R :=
 fn_sound (H := h22) (fn := Go.Proofs.Try.f22) (by kernel_rfl) (by kernel_rfl) (by kernel_rfl) ((f22_eq b_0 b_1 b_2 b_3 b_4 b_5 b_6 b_7 b_8 b_9 b_10 b_11a b_11n b_11c b_12a b_12n b_12c b_13a b_13n b_13c b_14a b_14n b_14c b_15a b_15n b_15c agent w R).mpr h)


/-! manciple/mancipleref17.Quiet -/
def h23 : Hints := ⟨[2], [], [10], [], [], [], [], [], []⟩
def f23_vc (b_0 : Int) (b_1 : Int) (b_2 : Int) (b_3 : Int) (b_4 : Int) (b_5 : Int) (b_6 : Int) (b_7 : Int) (b_8 : Int) (b_9 : Int) (b_10 : Int) (b_11a : Option Addr) (b_11n : Nat) (b_11c : Nat) (b_12a : Option Addr) (b_12n : Nat) (b_12c : Nat) (b_13a : Option Addr) (b_13n : Nat) (b_13c : Nat) (b_14a : Option Addr) (b_14n : Nat) (b_14c : Nat) (b_15a : Option Addr) (b_15n : Nat) (b_15c : Nat) (agent : Int) (w : World) (R : Ending → World → Prop) : Prop :=
 ∀ (n1 : Nat),
 w.heap.size ≤ n1 →
 ∀ (w2 : World),
 Bel w w2 →
 Under [n1] w2 →
 Calls Proofs.Try.prog 17
 #[Value.agg
 #[Value.int IntKind.i64 b_0, Value.int IntKind.i64 b_1, Value.int IntKind.i64 b_2, Value.int IntKind.i64 b_3, Value.int IntKind.i64 b_4, Value.int IntKind.i64 b_5, Value.int IntKind.i64 b_6, Value.int IntKind.i64 b_7,
 Value.int IntKind.i64 b_8, Value.int IntKind.i64 b_9, Value.int IntKind.i64 b_10, Value.slice b_11a b_11n b_11c, Value.slice b_12a b_12n b_12c, Value.slice b_13a b_13n b_13c, Value.slice b_14a b_14n b_14c,
 Value.slice b_15a b_15n b_15c],
 Value.int IntKind.i64 agent, Value.int IntKind.i64 1]
 w2 fun (e3 : Ending) (w4 : World) =>
 ∃ (a5 : Option Addr),
 ∃ (n6 : Nat),
 ∃ (n7 : Nat),
 e3 = Ending.returned (Value.slice a5 n6 n7) ∧
 Keeps [n1] w2 w4 ∧
 (((↑n6 : Int) == 0) = true →
 Calls Proofs.Try.prog 17
 #[Value.agg
 #[Value.int IntKind.i64 b_0, Value.int IntKind.i64 b_1, Value.int IntKind.i64 b_2, Value.int IntKind.i64 b_3, Value.int IntKind.i64 b_4, Value.int IntKind.i64 b_5, Value.int IntKind.i64 b_6,
 Value.int IntKind.i64 b_7, Value.int IntKind.i64 b_8, Value.int IntKind.i64 b_9, Value.int IntKind.i64 b_10, Value.slice b_11a b_11n b_11c, Value.slice b_12a b_12n b_12c, Value.slice b_13a b_13n b_13c,
 Value.slice b_14a b_14n b_14c, Value.slice b_15a b_15n b_15c],
 Value.int IntKind.i64 agent, Value.int IntKind.i64 2]
 w4 fun (e8 : Ending) (w9 : World) =>
 ∃ (a10 : Option Addr), ∃ (n11 : Nat), ∃ (n12 : Nat), e8 = Ending.returned (Value.slice a10 n11 n12) ∧ Keeps [n1] w4 w9 ∧ R (Ending.returned (Value.bool ((↑n11 : Int) == 0))) w9) ∧
 (((↑n6 : Int) == 0) = false → R (Ending.returned (Value.bool false)) w4)
theorem f23_eq (b_0 : Int) (b_1 : Int) (b_2 : Int) (b_3 : Int) (b_4 : Int) (b_5 : Int) (b_6 : Int) (b_7 : Int) (b_8 : Int) (b_9 : Int) (b_10 : Int) (b_11a : Option Addr) (b_11n : Nat) (b_11c : Nat) (b_12a : Option Addr) (b_12n : Nat) (b_12c : Nat) (b_13a : Option Addr) (b_13n : Nat) (b_13c : Nat) (b_14a : Option Addr) (b_14n : Nat) (b_14c : Nat) (b_15a : Option Addr) (b_15n : Nat) (b_15c : Nat) (agent : Int) (w : World) (R : Ending → World → Prop) : (fnF Go.Proofs.Try.prog h23 Go.Proofs.Try.f23 [Value.agg
 #[Value.int IntKind.i64 b_0, Value.int IntKind.i64 b_1, Value.int IntKind.i64 b_2, Value.int IntKind.i64 b_3, Value.int IntKind.i64 b_4, Value.int IntKind.i64 b_5, Value.int IntKind.i64 b_6, Value.int IntKind.i64 b_7,
 Value.int IntKind.i64 b_8, Value.int IntKind.i64 b_9, Value.int IntKind.i64 b_10, Value.slice b_11a b_11n b_11c, Value.slice b_12a b_12n b_12c, Value.slice b_13a b_13n b_13c, Value.slice b_14a b_14n b_14c,
 Value.slice b_15a b_15n b_15c],
 Value.int IntKind.i64 agent] w R).den = f23_vc b_0 b_1 b_2 b_3 b_4 b_5 b_6 b_7 b_8 b_9 b_10 b_11a b_11n b_11c b_12a b_12n b_12c b_13a b_13n b_13c b_14a b_14n b_14c b_15a b_15n b_15c agent w R := by kernel_rfl
theorem f23_calls (b_0 : Int) (b_1 : Int) (b_2 : Int) (b_3 : Int) (b_4 : Int) (b_5 : Int) (b_6 : Int) (b_7 : Int) (b_8 : Int) (b_9 : Int) (b_10 : Int) (b_11a : Option Addr) (b_11n : Nat) (b_11c : Nat) (b_12a : Option Addr) (b_12n : Nat) (b_12c : Nat) (b_13a : Option Addr) (b_13n : Nat) (b_13c : Nat) (b_14a : Option Addr) (b_14n : Nat) (b_14c : Nat) (b_15a : Option Addr) (b_15n : Nat) (b_15c : Nat) (agent : Int) (w : World) (R : Ending → World → Prop) (h : f23_vc b_0 b_1 b_2 b_3 b_4 b_5 b_6 b_7 b_8 b_9 b_10 b_11a b_11n b_11c b_12a b_12n b_12c b_13a b_13n b_13c b_14a b_14n b_14c b_15a b_15n b_15c agent w R) : Calls Go.Proofs.Try.prog 23 (List.toArray [Value.agg
 #[Value.int IntKind.i64 b_0, Value.int IntKind.i64 b_1, Value.int IntKind.i64 b_2, Value.int IntKind.i64 b_3, Value.int IntKind.i64 b_4, Value.int IntKind.i64 b_5, Value.int IntKind.i64 b_6, Value.int IntKind.i64 b_7,
 Value.int IntKind.i64 b_8, Value.int IntKind.i64 b_9, Value.int IntKind.i64 b_10, Value.slice b_11a b_11n b_11c, Value.slice b_12a b_12n b_12c, Value.slice b_13a b_13n b_13c, Value.slice b_14a b_14n b_14c,
 Value.slice b_15a b_15n b_15c],
 Value.int IntKind.i64 agent]) w R :=
 fn_sound (H := h23) (fn := Go.Proofs.Try.f23) (by kernel_rfl) (by kernel_rfl) (by kernel_rfl) ((f23_eq b_0 b_1 b_2 b_3 b_4 b_5 b_6 b_7 b_8 b_9 b_10 b_11a b_11n b_11c b_12a b_12n b_12c b_13a b_13n b_13c b_14a b_14n b_14c b_15a b_15n b_15c agent w R).mpr h)


/-! manciple/book.Frame -/
def h26 : Hints := ⟨[2], [], [], [], [], [], [], [], []⟩
def f26_vc (b_0 : Int) (b_1 : Int) (b_2 : Int) (b_3 : Int) (b_4 : Int) (b_5 : Int) (b_6 : Int) (b_7 : Int) (b_8 : Int) (b_9 : Int) (b_10 : Int) (b_11a : Option Addr) (b_11n : Nat) (b_11c : Nat) (b_12a : Option Addr) (b_12n : Nat) (b_12c : Nat) (b_13a : Option Addr) (b_13n : Nat) (b_13c : Nat) (b_14a : Option Addr) (b_14n : Nat) (b_14c : Nat) (b_15a : Option Addr) (b_15n : Nat) (b_15c : Nat) (id : Int) (w : World) (R : Ending → World → Prop) : Prop :=
 ∀ (n1 : Nat),
 w.heap.size ≤ n1 →
 ∀ (w2 : World),
 Bel w w2 →
 Under [n1] w2 →
 OpW Proofs.Try.prog (valueS (Instr.box 2 (Value.int IntKind.i64 id))) w2 fun (v3 : Value) (w4 : World) =>
 ∃ (ad5 : Addr),
 v3 = Value.pointer (some ad5) ∧
 Keeps [n1] w2 w4 ∧
 Calls Proofs.Try.prog 59 #[Value.slice b_11a b_11n b_11c, Value.func (Fn.func 60) #[] #[Value.pointer (some ad5)]] w4 fun (e6 : Ending) (w7 : World) =>
 ∃ (x8 : Int), e6 = Ending.returned (Value.int IntKind.i64 x8) ∧ Keeps [n1] w4 w7 ∧ R (Ending.returned (Value.int IntKind.i64 x8)) w7
theorem f26_eq (b_0 : Int) (b_1 : Int) (b_2 : Int) (b_3 : Int) (b_4 : Int) (b_5 : Int) (b_6 : Int) (b_7 : Int) (b_8 : Int) (b_9 : Int) (b_10 : Int) (b_11a : Option Addr) (b_11n : Nat) (b_11c : Nat) (b_12a : Option Addr) (b_12n : Nat) (b_12c : Nat) (b_13a : Option Addr) (b_13n : Nat) (b_13c : Nat) (b_14a : Option Addr) (b_14n : Nat) (b_14c : Nat) (b_15a : Option Addr) (b_15n : Nat) (b_15c : Nat) (id : Int) (w : World) (R : Ending → World → Prop) : (fnF Go.Proofs.Try.prog h26 Go.Proofs.Try.f26 [Value.agg
 #[Value.int IntKind.i64 b_0, Value.int IntKind.i64 b_1, Value.int IntKind.i64 b_2, Value.int IntKind.i64 b_3, Value.int IntKind.i64 b_4, Value.int IntKind.i64 b_5, Value.int IntKind.i64 b_6, Value.int IntKind.i64 b_7,
 Value.int IntKind.i64 b_8, Value.int IntKind.i64 b_9, Value.int IntKind.i64 b_10, Value.slice b_11a b_11n b_11c, Value.slice b_12a b_12n b_12c, Value.slice b_13a b_13n b_13c, Value.slice b_14a b_14n b_14c,
 Value.slice b_15a b_15n b_15c],
 Value.int IntKind.i64 id] w R).den = f26_vc b_0 b_1 b_2 b_3 b_4 b_5 b_6 b_7 b_8 b_9 b_10 b_11a b_11n b_11c b_12a b_12n b_12c b_13a b_13n b_13c b_14a b_14n b_14c b_15a b_15n b_15c id w R := by kernel_rfl
theorem f26_calls (b_0 : Int) (b_1 : Int) (b_2 : Int) (b_3 : Int) (b_4 : Int) (b_5 : Int) (b_6 : Int) (b_7 : Int) (b_8 : Int) (b_9 : Int) (b_10 : Int) (b_11a : Option Addr) (b_11n : Nat) (b_11c : Nat) (b_12a : Option Addr) (b_12n : Nat) (b_12c : Nat) (b_13a : Option Addr) (b_13n : Nat) (b_13c : Nat) (b_14a : Option Addr) (b_14n : Nat) (b_14c : Nat) (b_15a : Option Addr) (b_15n : Nat) (b_15c : Nat) (id : Int) (w : World) (R : Ending → World → Prop) (h : f26_vc b_0 b_1 b_2 b_3 b_4 b_5 b_6 b_7 b_8 b_9 b_10 b_11a b_11n b_11c b_12a b_12n b_12c b_13a b_13n b_13c b_14a b_14n b_14c b_15a b_15n b_15c id w R) : Calls Go.Proofs.Try.prog 26 (List.toArray [Value.agg
 #[Value.int IntKind.i64 b_0, Value.int IntKind.i64 b_1, Value.int IntKind.i64 b_2, Value.int IntKind.i64 b_3, Value.int IntKind.i64 b_4, Value.int IntKind.i64 b_5, Value.int IntKind.i64 b_6, Value.int IntKind.i64 b_7,
 Value.int IntKind.i64 b_8, Value.int IntKind.i64 b_9, Value.int IntKind.i64 b_10, Value.slice b_11a b_11n b_11c, Value.slice b_12a b_12n b_12c, Value.slice b_13a b_13n b_13c, Value.slice b_14a b_14n b_14c,
 Value.slice b_15a b_15n b_15c],
 Value.int IntKind.i64 id]) w R :=
 fn_sound (H := h26) (fn := Go.Proofs.Try.f26) (by kernel_rfl) (by kernel_rfl) (by kernel_rfl) ((f26_eq b_0 b_1 b_2 b_3 b_4 b_5 b_6 b_7 b_8 b_9 b_10 b_11a b_11n b_11c b_12a b_12n b_12c b_13a b_13n b_13c b_14a b_14n b_14c b_15a b_15n b_15c id w R).mpr h)


/-! manciple/book.Agent -/
def h27 : Hints := ⟨[2], [], [], [], [], [], [], [], []⟩
def f27_vc (b_0 : Int) (b_1 : Int) (b_2 : Int) (b_3 : Int) (b_4 : Int) (b_5 : Int) (b_6 : Int) (b_7 : Int) (b_8 : Int) (b_9 : Int) (b_10 : Int) (b_11a : Option Addr) (b_11n : Nat) (b_11c : Nat) (b_12a : Option Addr) (b_12n : Nat) (b_12c : Nat) (b_13a : Option Addr) (b_13n : Nat) (b_13c : Nat) (b_14a : Option Addr) (b_14n : Nat) (b_14c : Nat) (b_15a : Option Addr) (b_15n : Nat) (b_15c : Nat) (id : Int) (w : World) (R : Ending → World → Prop) : Prop :=
 ∀ (n1 : Nat),
 w.heap.size ≤ n1 →
 ∀ (w2 : World),
 Bel w w2 →
 Under [n1] w2 →
 OpW Proofs.Try.prog (valueS (Instr.box 2 (Value.int IntKind.i64 id))) w2 fun (v3 : Value) (w4 : World) =>
 ∃ (ad5 : Addr),
 v3 = Value.pointer (some ad5) ∧
 Keeps [n1] w2 w4 ∧
 Calls Proofs.Try.prog 61 #[Value.slice b_12a b_12n b_12c, Value.func (Fn.func 62) #[] #[Value.pointer (some ad5)]] w4 fun (e6 : Ending) (w7 : World) =>
 ∃ (x8 : Int), e6 = Ending.returned (Value.int IntKind.i64 x8) ∧ Keeps [n1] w4 w7 ∧ R (Ending.returned (Value.int IntKind.i64 x8)) w7
theorem f27_eq (b_0 : Int) (b_1 : Int) (b_2 : Int) (b_3 : Int) (b_4 : Int) (b_5 : Int) (b_6 : Int) (b_7 : Int) (b_8 : Int) (b_9 : Int) (b_10 : Int) (b_11a : Option Addr) (b_11n : Nat) (b_11c : Nat) (b_12a : Option Addr) (b_12n : Nat) (b_12c : Nat) (b_13a : Option Addr) (b_13n : Nat) (b_13c : Nat) (b_14a : Option Addr) (b_14n : Nat) (b_14c : Nat) (b_15a : Option Addr) (b_15n : Nat) (b_15c : Nat) (id : Int) (w : World) (R : Ending → World → Prop) : (fnF Go.Proofs.Try.prog h27 Go.Proofs.Try.f27 [Value.agg
 #[Value.int IntKind.i64 b_0, Value.int IntKind.i64 b_1, Value.int IntKind.i64 b_2, Value.int IntKind.i64 b_3, Value.int IntKind.i64 b_4, Value.int IntKind.i64 b_5, Value.int IntKind.i64 b_6, Value.int IntKind.i64 b_7,
 Value.int IntKind.i64 b_8, Value.int IntKind.i64 b_9, Value.int IntKind.i64 b_10, Value.slice b_11a b_11n b_11c, Value.slice b_12a b_12n b_12c, Value.slice b_13a b_13n b_13c, Value.slice b_14a b_14n b_14c,
 Value.slice b_15a b_15n b_15c],
 Value.int IntKind.i64 id] w R).den = f27_vc b_0 b_1 b_2 b_3 b_4 b_5 b_6 b_7 b_8 b_9 b_10 b_11a b_11n b_11c b_12a b_12n b_12c b_13a b_13n b_13c b_14a b_14n b_14c b_15a b_15n b_15c id w R := by kernel_rfl
theorem f27_calls (b_0 : Int) (b_1 : Int) (b_2 : Int) (b_3 : Int) (b_4 : Int) (b_5 : Int) (b_6 : Int) (b_7 : Int) (b_8 : Int) (b_9 : Int) (b_10 : Int) (b_11a : Option Addr) (b_11n : Nat) (b_11c : Nat) (b_12a : Option Addr) (b_12n : Nat) (b_12c : Nat) (b_13a : Option Addr) (b_13n : Nat) (b_13c : Nat) (b_14a : Option Addr) (b_14n : Nat) (b_14c : Nat) (b_15a : Option Addr) (b_15n : Nat) (b_15c : Nat) (id : Int) (w : World) (R : Ending → World → Prop) (h : f27_vc b_0 b_1 b_2 b_3 b_4 b_5 b_6 b_7 b_8 b_9 b_10 b_11a b_11n b_11c b_12a b_12n b_12c b_13a b_13n b_13c b_14a b_14n b_14c b_15a b_15n b_15c id w R) : Calls Go.Proofs.Try.prog 27 (List.toArray [Value.agg
 #[Value.int IntKind.i64 b_0, Value.int IntKind.i64 b_1, Value.int IntKind.i64 b_2, Value.int IntKind.i64 b_3, Value.int IntKind.i64 b_4, Value.int IntKind.i64 b_5, Value.int IntKind.i64 b_6, Value.int IntKind.i64 b_7,
 Value.int IntKind.i64 b_8, Value.int IntKind.i64 b_9, Value.int IntKind.i64 b_10, Value.slice b_11a b_11n b_11c, Value.slice b_12a b_12n b_12c, Value.slice b_13a b_13n b_13c, Value.slice b_14a b_14n b_14c,
 Value.slice b_15a b_15n b_15c],
 Value.int IntKind.i64 id]) w R :=
 fn_sound (H := h27) (fn := Go.Proofs.Try.f27) (by kernel_rfl) (by kernel_rfl) (by kernel_rfl) ((f27_eq b_0 b_1 b_2 b_3 b_4 b_5 b_6 b_7 b_8 b_9 b_10 b_11a b_11n b_11c b_12a b_12n b_12c b_13a b_13n b_13c b_14a b_14n b_14c b_15a b_15n b_15c id w R).mpr h)


/-! slices.ContainsFunc[[]manciple/api.Filter,manciple/api.Filter] -/
def h41 : Hints := ⟨[], [], [], [], [], [], [], [], []⟩
def f41_vc (sa : Option Addr) (sn : Nat) (sc : Nat) (f : Value) (w : World) (R : Ending → World → Prop) : Prop :=
 Calls Proofs.Try.prog 72 #[Value.slice sa sn sc, f] w fun (e1 : Ending) (w2 : World) => ∃ (x3 : Int), e1 = Ending.returned (Value.int IntKind.i64 x3) ∧ R (Ending.returned (Value.bool (decide (x3 ≥ 0)))) w2
theorem f41_eq (sa : Option Addr) (sn : Nat) (sc : Nat) (f : Value) (w : World) (R : Ending → World → Prop) : (fnF Go.Proofs.Try.prog h41 Go.Proofs.Try.f41 [Value.slice sa sn sc, f] w R).den = f41_vc sa sn sc f w R := by kernel_rfl
theorem f41_calls (sa : Option Addr) (sn : Nat) (sc : Nat) (f : Value) (w : World) (R : Ending → World → Prop) (h : f41_vc sa sn sc f w R) : Calls Go.Proofs.Try.prog 41 (List.toArray [Value.slice sa sn sc, f]) w R :=
 fn_sound (H := h41) (fn := Go.Proofs.Try.f41) (by kernel_rfl) (by kernel_rfl) (by kernel_rfl) ((f41_eq sa sn sc f w R).mpr h)


/-! manciple/view.Blocked$1 -/
def h42 : Hints := ⟨[4], [], [10, 16], [], [], [], [], [], []⟩
def f42_vc (f_0 : Int) (f_1 : Int) (f_2 : Int) (f_3a : Option Addr) (f_3n : Nat) (f_3c : Nat) (cap0 : Value) (cap1 : Value) (cap2 : Value) (w : World) (R : Ending → World → Prop) : Prop :=
 ∀ (n1 : Nat),
 w.heap.size ≤ n1 →
 ∃ (x2 : Int),
 Reads Proofs.Try.prog [] (Instr.loadAt 2 cap0) w (Value.int IntKind.i64 x2) ∧
 ((f_0 == x2) = true →
 ∃ (x3 : Int),
 Reads Proofs.Try.prog [] (Instr.loadAt 2 cap1) w (Value.int IntKind.i64 x3) ∧
 ((f_1 == x3) = true →
 ∃ (a4 : Option Addr),
 ∃ (n5 : Nat),
 ∃ (n6 : Nat),
 Reads Proofs.Try.prog [] (Instr.loadAt 33 cap2) w (Value.slice a4 n5 n6) ∧
 ∀ (w7 : World),
 Bel w w7 →
 Under [n1] w7 →
 Calls Proofs.Try.prog 25 #[Value.slice f_3a f_3n f_3c, Value.slice a4 n5 n6] w7 fun (e8 : Ending) (w9 : World) =>
 ∃ (b10 : Bool), e8 = Ending.returned (Value.bool b10) ∧ Keeps [n1] w7 w9 ∧ R (Ending.returned (Value.bool b10)) w9) ∧
 ((f_1 == x3) = false → ∀ (w11 : World), Bel w w11 → Under [n1] w11 → R (Ending.returned (Value.bool false)) w11)) ∧
 ((f_0 == x2) = false → ∀ (w12 : World), Bel w w12 → Under [n1] w12 → R (Ending.returned (Value.bool false)) w12)
theorem f42_eq (f_0 : Int) (f_1 : Int) (f_2 : Int) (f_3a : Option Addr) (f_3n : Nat) (f_3c : Nat) (cap0 : Value) (cap1 : Value) (cap2 : Value) (w : World) (R : Ending → World → Prop) : (fnF Go.Proofs.Try.prog h42 Go.Proofs.Try.f42 [Value.agg #[Value.int IntKind.i64 f_0, Value.int IntKind.i64 f_1, Value.int IntKind.i64 f_2, Value.slice f_3a f_3n f_3c], cap0, cap1, cap2] w R).den = f42_vc f_0 f_1 f_2 f_3a f_3n f_3c cap0 cap1 cap2 w R := by kernel_rfl
theorem f42_calls (f_0 : Int) (f_1 : Int) (f_2 : Int) (f_3a : Option Addr) (f_3n : Nat) (f_3c : Nat) (cap0 : Value) (cap1 : Value) (cap2 : Value) (w : World) (R : Ending → World → Prop) (h : f42_vc f_0 f_1 f_2 f_3a f_3n f_3c cap0 cap1 cap2 w R) : Calls Go.Proofs.Try.prog 42 (List.toArray [Value.agg #[Value.int IntKind.i64 f_0, Value.int IntKind.i64 f_1, Value.int IntKind.i64 f_2, Value.slice f_3a f_3n f_3c], cap0, cap1, cap2]) w R :=
 fn_sound (H := h42) (fn := Go.Proofs.Try.f42) (by kernel_rfl) (by kernel_rfl) (by kernel_rfl) ((f42_eq f_0 f_1 f_2 f_3a f_3n f_3c cap0 cap1 cap2 w R).mpr h)


/-! manciple/manciplelaw17.works -/
def h8 : Hints := ⟨[2], [24, 30, 40], [26, 33, 38, 44, 49], [(3, [0, 2, 1, 3, 4, 5]), (4, [0, 1, 2, 3, 4, 5, 7, 8, 6, 9, 10, 11, 12, 13, 14, 15, 16, 17, 18, 19, 20, 21, 22, 23, 24, 25, 26, 27, 28, 29, 30, 31])], [], [], [], [], []⟩
def f8_vc  (w : World) (R : Ending → World → Prop) : Prop :=
 OpW Proofs.Try.prog
 (valueS
 (Instr.buildSlice 33 3
 #[(0, Value.agg #[Value.int IntKind.i64 0, Value.int IntKind.i64 0, Value.int IntKind.i64 1]), (1, Value.agg #[Value.int IntKind.i64 0, Value.int IntKind.i64 2, Value.int IntKind.i64 3]),
 (2, Value.agg #[Value.int IntKind.i64 0, Value.int IntKind.i64 5, Value.int IntKind.i64 1])]))
 w fun (v1 : Value) (w2 : World) =>
 ∃ (a3 : Option Addr),
 ∃ (n4 : Nat),
 ∃ (n5 : Nat),
 v1 = Value.slice a3 n4 n5 ∧
 OpW Proofs.Try.prog
 (valueS
 (Instr.buildSlice 25 2
 #[(0, Value.agg #[Value.int IntKind.i64 1, Value.int IntKind.i64 2, Value.int IntKind.i64 1, Value.bool true, Value.bool false, Value.int IntKind.i64 0, Value.int IntKind.i64 0]),
 (1, Value.agg #[Value.int IntKind.i64 2, Value.int IntKind.i64 2, Value.int IntKind.i64 1, Value.bool true, Value.bool true, Value.int IntKind.i64 0, Value.int IntKind.i64 0])]))
 w2 fun (v6 : Value) (w7 : World) =>
 ∃ (a8 : Option Addr),
 ∃ (n9 : Nat),
 ∃ (n10 : Nat),
 v6 = Value.slice a8 n9 n10 ∧
 OpW Proofs.Try.prog (valueS (Instr.buildSlice 26 1 #[(0, Value.agg #[Value.int IntKind.i64 7, Value.slice a3 n4 n5, Value.slice a3 n4 n5])])) w7 fun (v11 : Value) (w12 : World) =>
 ∃ (a13 : Option Addr),
 ∃ (n14 : Nat),
 ∃ (n15 : Nat),
 v11 = Value.slice a13 n14 n15 ∧
 ∀ (n16 : Nat),
 w12.heap.size ≤ n16 →
 ∀ (w17 : World),
 Evo [n16] w12 w17 →
 Under [n16] w17 →
 Calls Proofs.Try.prog 11
 #[Value.agg
 #[Value.int IntKind.i64 9, Value.int IntKind.i64 9, Value.int IntKind.i64 0, Value.int IntKind.i64 0, Value.int IntKind.i64 9, Value.int IntKind.i64 0, Value.int IntKind.i64 0,
 Value.int IntKind.i64 0, Value.int IntKind.i64 0, Value.int IntKind.i64 0, Value.int IntKind.i64 0, Value.slice a8 n9 n10, Value.slice a13 n14 n15, Value.slice none 0 0, Value.slice none 0 0,
 Value.slice none 0 0],
 Value.int IntKind.i64 1, Value.int IntKind.i64 7, Value.int IntKind.i64 1]
 w17 fun (e18 : Ending) (w19 : World) =>
 ∃ (a20 : Option Addr),
 ∃ (n21 : Nat),
 ∃ (n22 : Nat),
 e18 = Ending.returned (Value.slice a20 n21 n22) ∧
 Keeps [n16] w17 w19 ∧
 Calls Proofs.Try.prog 19
 #[Value.agg
 #[Value.int IntKind.i64 9, Value.int IntKind.i64 9, Value.int IntKind.i64 0, Value.int IntKind.i64 0, Value.int IntKind.i64 9, Value.int IntKind.i64 0, Value.int IntKind.i64 0,
 Value.int IntKind.i64 0, Value.int IntKind.i64 0, Value.int IntKind.i64 0, Value.int IntKind.i64 0, Value.slice a8 n9 n10, Value.slice a13 n14 n15, Value.slice none 0 0,
 Value.slice none 0 0, Value.slice none 0 0],
 Value.int IntKind.i64 7, Value.int IntKind.i64 2]
 w19 fun (e23 : Ending) (w24 : World) =>
 ∃ (a25 : Option Addr),
 ∃ (n26 : Nat),
 ∃ (n27 : Nat),
 e23 = Ending.returned (Value.slice a25 n26 n27) ∧
 Keeps [n16] w19 w24 ∧
 ∃ (a28 : Option Addr),
 ∃ (n29 : Nat),
 ∃ (n30 : Nat),
 Gives Proofs.Try.prog (Instr.sliceAt 33 (Value.slice a3 n4 n5) (some (Value.int IntKind.i64 1)) (some (Value.int IntKind.i64 2)) none) (Value.slice a28 n29 n30) ∧
 ∀ (w31 : World),
 Bel w24 w31 →
 Under [n16] w31 →
 Calls Proofs.Try.prog 10 #[Value.slice a20 n21 n22, Value.slice a28 n29 n30] w31 fun (e32 : Ending) (w33 : World) =>
 ∃ (b34 : Bool),
 e32 = Ending.returned (Value.bool b34) ∧
 Keeps [n16] w31 w33 ∧
 (b34 = true →
 ∃ (a35 : Option Addr),
 ∃ (n36 : Nat),
 ∃ (n37 : Nat),
 Gives Proofs.Try.prog (Instr.sliceAt 33 (Value.slice a3 n4 n5) none (some (Value.int IntKind.i64 2)) none) (Value.slice a35 n36 n37) ∧
 Calls Proofs.Try.prog 11
 #[Value.agg
 #[Value.int IntKind.i64 9, Value.int IntKind.i64 9, Value.int IntKind.i64 0, Value.int IntKind.i64 0, Value.int IntKind.i64 9,
 Value.int IntKind.i64 0, Value.int IntKind.i64 0, Value.int IntKind.i64 0, Value.int IntKind.i64 0, Value.int IntKind.i64 0,
 Value.int IntKind.i64 0, Value.slice a8 n9 n10, Value.slice a13 n14 n15, Value.slice none 0 0, Value.slice none 0 0,
 Value.slice none 0 0],
 Value.int IntKind.i64 1, Value.int IntKind.i64 7, Value.int IntKind.i64 2]
 w33 fun (e38 : Ending) (w39 : World) =>
 ∃ (a40 : Option Addr),
 ∃ (n41 : Nat),
 ∃ (n42 : Nat),
 e38 = Ending.returned (Value.slice a40 n41 n42) ∧
 Keeps [n16] w33 w39 ∧
 Calls Proofs.Try.prog 10 #[Value.slice a40 n41 n42, Value.slice a35 n36 n37] w39 fun (e43 : Ending) (w44 : World) =>
 ∃ (b45 : Bool),
 e43 = Ending.returned (Value.bool b45) ∧
 Keeps [n16] w39 w44 ∧
 (b45 = true →
 (((↑n26 : Int) == 1) = true →
 ∃ (ad46 : Addr),
 Gives Proofs.Try.prog (Instr.indexAt 43 (Value.slice a25 n26 n27) (Value.int IntKind.i64 0))
 (Value.pointer (some ad46)) ∧
 ∃ (x47 : Int),
 Reads Proofs.Try.prog [] (Instr.loadAt 2 (Value.pointer (some ad46))) w44 (Value.int IntKind.i64 x47) ∧
 ((x47 == 1) = true →
 Calls Proofs.Try.prog 22
 #[Value.agg
 #[Value.int IntKind.i64 9, Value.int IntKind.i64 9, Value.int IntKind.i64 0,
 Value.int IntKind.i64 0, Value.int IntKind.i64 9, Value.int IntKind.i64 0,
 Value.int IntKind.i64 0, Value.int IntKind.i64 0, Value.int IntKind.i64 0,
 Value.int IntKind.i64 0, Value.int IntKind.i64 0, Value.slice a8 n9 n10,
 Value.slice a13 n14 n15, Value.slice none 0 0, Value.slice none 0 0, Value.slice none 0 0],
 Value.int IntKind.i64 7]
 w44 fun (e48 : Ending) (w49 : World) =>
 ∃ (b50 : Bool),
 e48 = Ending.returned (Value.bool b50) ∧
 Keeps [n16] w44 w49 ∧
 Reads Proofs.Try.prog [] (Instr.loadAt 2 (Value.pointer (some ad46))) w49
 (Value.int IntKind.i64 x47) ∧
 ((!b50) = true →
 Calls Proofs.Try.prog 22
 #[Value.agg
 #[Value.int IntKind.i64 9, Value.int IntKind.i64 9, Value.int IntKind.i64 0,
 Value.int IntKind.i64 0, Value.int IntKind.i64 9, Value.int IntKind.i64 0,
 Value.int IntKind.i64 0, Value.int IntKind.i64 0, Value.int IntKind.i64 0,
 Value.int IntKind.i64 0, Value.int IntKind.i64 0, Value.slice a8 n9 n10,
 Value.slice a13 n14 n15, Value.slice none 0 0, Value.slice none 0 0,
 Value.slice none 0 0],
 Value.int IntKind.i64 8]
 w49 fun (e51 : Ending) (w52 : World) =>
 ∃ (b53 : Bool),
 e51 = Ending.returned (Value.bool b53) ∧
 Keeps [n16] w49 w52 ∧
 Reads Proofs.Try.prog [] (Instr.loadAt 2 (Value.pointer (some ad46))) w52
 (Value.int IntKind.i64 x47) ∧
 R (Ending.returned (Value.bool b53)) w52) ∧
 ((!b50) = false → R (Ending.returned (Value.bool false)) w49)) ∧
 ((x47 == 1) = false → R (Ending.returned (Value.bool false)) w44)) ∧
 (((↑n26 : Int) == 1) = false → R (Ending.returned (Value.bool false)) w44)) ∧
 (b45 = false → R (Ending.returned (Value.bool false)) w44)) ∧
 (b34 = false → R (Ending.returned (Value.bool false)) w33)
theorem f8_eq  (w : World) (R : Ending → World → Prop) : (fnF Go.Proofs.Try.prog h8 Go.Proofs.Try.f8 [] w R).den = f8_vc  w R := by kernel_rfl
theorem f8_calls  (w : World) (R : Ending → World → Prop) (h : f8_vc  w R) : Calls Go.Proofs.Try.prog 8 (List.toArray []) w R :=
 fn_sound (H := h8) (fn := Go.Proofs.Try.f8) (by kernel_rfl) (by kernel_rfl) (by kernel_rfl) ((f8_eq  w R).mpr h)

end Vcw

/- Calls of functions' values. -/
namespace Go.Vc
open Go Go.RowKit
section
variable {P : Program} {w W : World} {M : Nat → Prop} {gs : List Nat} {fv : Value}

/-- A call of a function's value that returns a value, and changes nothing. -/
def RetI (P : Program) (fv : Value) (args : Array Value) (W : World) (v : Value) : Prop := ∀ K : Value → World → Prop, (∀ w', Bel W w' → K v w') → OpW P (invokeS fv args) W K
theorem opw_invoke {f : FuncId} {first cap args : Array Value} {K : Value → World → Prop} (he : pureRun P (invokeS (.func (.func f) first cap) args) = some (.enter f ((first ++ args) ++ cap))) (h : Calls P f ((first ++ args) ++ cap) W fun e w' => ∃ v, e = .returned v ∧ K v w') : OpW P (invokeS (.func (.func f) first cap) args) W K := by
  unfold OpW
  rw [pureRun_run he W]
  exact h
theorem RetI.of {f : FuncId} {first cap args : Array Value} {v : Value} (he : pureRun P (invokeS (.func (.func f) first cap) args) = some (.enter f ((first ++ args) ++ cap))) (h : Ret P f ((first ++ args) ++ cap) W v) : RetI P (.func (.func f) first cap) args W v := fun _ hK => opw_invoke he (h _ fun w' hb => ⟨v, rfl, hK w' hb⟩)
theorem at_inv {args : Array Value} {v : Value} {K : Value → World → Prop} (hA : AtF w M gs W) (hc : RetI P fv args W v) (hK : ∀ w', AtF w M gs w' → Keeps gs W w' → Bel W w' → K v w') : OpW P (invokeS fv args) W K := hc K fun w' hb => hK w' (hA.call hb) (hA.keeps hb) hb
end
end Go.Vc

/- book.Frame, book.Agent. -/
set_option maxRecDepth 20000
set_option maxHeartbeats 1000000
namespace Go.Vc.W
open Go Go.Vc Go.Vc.V Go.RowKit Go.Proofs Vcw

variable {w W W' : World} {M : Nat → Prop} {gs : List Nat}

theorem c60 {p : Nat} (f : FrT) (id : Int) (hp : W.heap[p]? = some (.cells #[.int .i64 id] 2 (0, 0))) : Ret Try.prog 60 #[.agg (frE f).toArray, .pointer (some ⟨p, 0, none⟩)] W (.bool (f.1 == id)) := by
  intro R h
  refine f60_calls f.1 f.2.1 f.2.2.1 f.2.2.2.1 f.2.2.2.2.1 f.2.2.2.2.2.1 f.2.2.2.2.2.2 _ W R ?_
  unfold f60_vc
  intro n1 _
  exact ⟨_, rd_f0 (r := []) (ty := 2) hp (by kernel_rfl) (by simp), fun w3 hb _ => h _ hb⟩
theorem c59 {l : List FrT} {a : Option Addr} {n c : Nat} {fv : Value} (id : Int) (W : World) (hs : SlE W 7 frE l a n c) (hf : ∀ W' f, Bel W W' → RetI Try.prog fv #[.agg (frE f).toArray] W' (.bool (f.1 == id))) : Ret Try.prog 59 #[.slice a n c, fv] W (.int .i64 (ixOf (·.1) id l 0)) := by
  intro R h
  refine f59_calls a n c fv W R ?_
  unfold f59_vc
  have hn := hs.len_le
  refine ⟨fun v W' => At W [] W' ∧ ∃ i : Nat, v.1 = i ∧ i ≤ l.length ∧ ixOf (·.1) id (l.drop i) i = ixOf (·.1) id l 0, fun v _ => (n - v.1).toNat, ⟨At.refl W, 0, rfl, Nat.zero_le _, rfl⟩, ?_⟩
  rintro x3 w4 ⟨hA, i, hi, hil, hx⟩
  simp only at hi
  subst hi
  refine brD (fun hlt => ?_) (fun hge => leaf h hA ?_)
  · obtain ⟨f, hfi⟩ : ∃ x, l[i]? = some x := ⟨_, List.getElem?_eq_getElem (by omega)⟩
    obtain ⟨ad, g1, el, _⟩ := elt_at (P := Try.prog) (k := .i64) (t := 25) (hs.call hA.below) hfi (e := 48) (by kernel_rfl) (by kernel_rfl)
    rw [ixOf_step hfi] at hx
    refine ⟨ad, g1, _, _, _, _, _, _, _, el.agg 7 (by kernel_rfl) (by kernel_rfl) (by simp) (by simp), ?_⟩
    refine at_inv hA (hf w4 f hA.below) fun w14 hA _ _ => ⟨_, rfl, brB (fun he => leaf h hA ?_) (fun hne => ?_)⟩
    · rw [if_pos (by simpa using he)] at hx
      rw [hx]
    · rw [if_neg (by simpa using hne)] at hx
      rw [succ_i i (by omega)]
      exact ⟨⟨hA, i + 1, rfl, by omega, hx⟩, by simp only; omega⟩
  · rw [show i = l.length by omega, List.drop_length, ixOf] at hx
    rw [← hx]
theorem c26 {b : BkA} {d : BkD} (id : Int) (w : World) (hb : Bk w b d) : Ret Try.prog 26 #[b.v, .int .i64 id] w (.int .i64 (ixOf (·.1) id d.frs 0)) := by
  intro R h
  refine f26_calls _ _ _ _ _ _ _ _ _ _ _ _ _ _ _ _ _ _ _ _ _ _ _ _ _ _ id w R ?_
  unfold f26_vc
  intro n1 hn1 w2 hb2 hun2
  have hA : At w [n1] w2 := ⟨((At.refl w).call hb2).chg, hun2⟩
  refine opw_boxS hA fun p w4 hp hA hk hb4 hpb => ⟨_, rfl, hk, ?_⟩
  refine at_callb hA (c59 id w4 (hb.call hA.below).fr fun W' f hb' => RetI.of (by kernel_rfl) (c60 f id ?_)) fun w7 hA hk _ => ⟨_, rfl, hk, leaf h hA rfl⟩
  rw [hb'.block (Array.getElem?_eq_some_iff.1 hpb).1, hpb]
  rfl
theorem c62 {p : Nat} {a1 a2 : Option Addr} {n1 c1 n2 c2 : Nat} (x id : Int) (hp : W.heap[p]? = some (.cells #[.int .i64 id] 2 (0, 0))) : Ret Try.prog 62 #[.agg #[.int .i64 x, .slice a1 n1 c1, .slice a2 n2 c2], .pointer (some ⟨p, 0, none⟩)] W (.bool (x == id)) := by
  intro R h
  refine f62_calls x a1 n1 c1 a2 n2 c2 _ W R ?_
  unfold f62_vc
  intro n1 _
  exact ⟨_, rd_f0 (r := []) (ty := 2) hp (by kernel_rfl) (by simp), fun w3 hb _ => h _ hb⟩
theorem c61 {l : List AgT} {a : Option Addr} {n c : Nat} {fv : Value} (id : Int) (W : World) (hs : ∀ {W'}, Bel W W' → SlR W' 3 (agR W') l a n c) (hf : ∀ W' x a1 n1 c1 a2 n2 c2, Bel W W' → RetI Try.prog fv #[.agg #[.int .i64 x, .slice a1 n1 c1, .slice a2 n2 c2]] W' (.bool (x == id))) : Ret Try.prog 61 #[.slice a n c, fv] W (.int .i64 (ixOf (·.1) id l 0)) := by
  intro R h
  refine f61_calls a n c fv W R ?_
  unfold f61_vc
  have hn := (hs (At.refl W).below).len_le
  refine ⟨fun v W' => At W [] W' ∧ ∃ i : Nat, v.1 = i ∧ i ≤ l.length ∧ ixOf (·.1) id (l.drop i) i = ixOf (·.1) id l 0, fun v _ => (n - v.1).toNat, ⟨At.refl W, 0, rfl, Nat.zero_le _, rfl⟩, ?_⟩
  rintro x3 w4 ⟨hA, i, hi, hil, hx⟩
  simp only at hi
  subst hi
  refine brD (fun hlt => ?_) (fun hge => leaf h hA ?_)
  · obtain ⟨f, hfi⟩ : ∃ x, l[i]? = some x := ⟨_, List.getElem?_eq_getElem (by omega)⟩
    obtain ⟨ad, cs, g1, el, _, _, _, _, _, _, rfl, _, _⟩ := rel_at (t := 26) (hs hA.below) hfi (e := 56) (by kernel_rfl) (by kernel_rfl)
    rw [ixOf_step hfi] at hx
    refine ⟨ad, g1, _, _, _, _, _, _, _, el.agg 3 (by kernel_rfl) (by kernel_rfl) (by simp) (by simp), ?_⟩
    refine at_inv hA (hf w4 f.1 _ _ _ _ _ _ hA.below) fun w14 hA _ _ => ⟨_, rfl, brB (fun he => leaf h hA ?_) (fun hne => ?_)⟩
    · rw [if_pos (by simpa using he)] at hx
      rw [hx]
    · rw [if_neg (by simpa using hne)] at hx
      rw [succ_i i (by omega)]
      exact ⟨⟨hA, i + 1, rfl, by omega, hx⟩, by simp only; omega⟩
  · rw [show i = l.length by omega, List.drop_length, ixOf] at hx
    rw [← hx]
theorem c27 {b : BkA} {d : BkD} (id : Int) (w : World) (hb : Bk w b d) : Ret Try.prog 27 #[b.v, .int .i64 id] w (.int .i64 (ixOf (·.1) id d.ags 0)) := by
  intro R h
  refine f27_calls _ _ _ _ _ _ _ _ _ _ _ _ _ _ _ _ _ _ _ _ _ _ _ _ _ _ id w R ?_
  unfold f27_vc
  intro n1 hn1 w2 hb2 hun2
  have hA : At w [n1] w2 := ⟨((At.refl w).call hb2).chg, hun2⟩
  refine opw_boxS hA fun p w4 hp hA hk hb4 hpb => ⟨_, rfl, hk, ?_⟩
  refine at_callb hA (c61 id w4 (fun hbb => ((hb.call hA.below).call hbb).ag) fun W' x a1 n1 c1 a2 n2 c2 hb' => RetI.of (by kernel_rfl) (c62 x id ?_)) fun w7 hA hk _ => ⟨_, rfl, hk, leaf h hA rfl⟩
  rw [hb'.block (Array.getElem?_eq_some_iff.1 hpb).1, hpb]
  rfl
end Go.Vc.W

/- view.V and the reference's Have. -/
set_option maxRecDepth 20000
set_option maxHeartbeats 1000000
namespace Go.Vc.W
open Go Go.Vc Go.Vc.V Go.RowKit Go.Proofs Vcw

variable {w W W' : World} {M : Nat → Prop} {gs : List Nat}

/-- The role of the frame at a place; what of an agent at a place is free. -/
def roleAt (d : BkD) (i : Int) : Int := (d.frs[i.toNat]?).elim 0 (·.2.1)
def freeAt (d : BkD) (i : Int) : List PartT := (d.ags[i.toNat]?).elim [] (·.2.2)
def haveL (d : BkD) (frame agent pass : Int) : List PartT :=
  if ixOf (·.1) frame d.frs 0 < 0 ∨ ixOf (·.1) agent d.ags 0 < 0 ∨ pass < 1 ∨ pass > 2 then []
  else if pass = 1 then only2 (freeAt d (ixOf (·.1) agent d.ags 0)) (roleAt d (ixOf (·.1) frame d.frs 0)) (roleAt d (ixOf (·.1) frame d.frs 0))
  else only2 (freeAt d (ixOf (·.1) agent d.ags 0)) 0 (roleAt d (ixOf (·.1) frame d.frs 0))
theorem frame_at {b : BkA} {d : BkD} (hb : Bk w b d) {id : Int} (h : ¬ ixOf (·.1) id d.frs 0 < 0) : ∃ ad f, Gives Try.prog (Instr.indexAt 25 (.slice b.f.1 b.f.2.1 b.f.2.2) (.int .i64 (ixOf (·.1) id d.frs 0))) (.pointer (some ad)) ∧ Elt w ad (frE f) ∧ roleAt d (ixOf (·.1) id d.frs 0) = f.2.1 := by
  rcases ixOf_range (k := fun x : FrT => x.1) (id := id) d.frs 0 with hneg | ⟨j, hj, _, hjl⟩
  · exact absurd hneg h
  obtain ⟨f, hf⟩ : ∃ x, d.frs[j]? = some x := ⟨_, List.getElem?_eq_getElem (by omega)⟩
  obtain ⟨ad, g1, el, _⟩ := elt_at (P := Try.prog) (k := .i64) (t := 25) hb.fr hf (e := 48) (by kernel_rfl) (by kernel_rfl)
  rw [hj]
  exact ⟨ad, f, g1, el, by unfold roleAt; rw [Int.toNat_natCast, hf]; rfl⟩
theorem agent_at {b : BkA} {d : BkD} (hb : Bk w b d) {id : Int} (h : ¬ ixOf (·.1) id d.ags 0 < 0) : ∃ ad x a n c a2 n2 c2, Gives Try.prog (Instr.indexAt 26 (.slice b.a.1 b.a.2.1 b.a.2.2) (.int .i64 (ixOf (·.1) id d.ags 0))) (.pointer (some ad)) ∧ Elt w ad [.int .i64 x, .slice a n c, .slice a2 n2 c2] ∧ SlE w 3 partE (freeAt d (ixOf (·.1) id d.ags 0)) a2 n2 c2 := by
  rcases ixOf_range (k := fun x : AgT => x.1) (id := id) d.ags 0 with hneg | ⟨j, hj, _, hjl⟩
  · exact absurd hneg h
  obtain ⟨f, hf⟩ : ∃ x, d.ags[j]? = some x := ⟨_, List.getElem?_eq_getElem (by omega)⟩
  obtain ⟨ad, cs, g1, el, a1, m1, c1, a2, m2, c2, rfl, _, s2⟩ := rel_at (t := 26) hb.ag hf (e := 56) (by kernel_rfl) (by kernel_rfl)
  rw [hj]
  refine ⟨ad, f.1, a1, m1, c1, a2, m2, c2, g1, el, ?_⟩
  have e : freeAt d (j : Int) = f.2.2 := by unfold freeAt; rw [Int.toNat_natCast, hf]; rfl
  rw [e]
  exact s2
theorem c9 {b : BkA} {d : BkD} (frame agent pass : Int) (w : World) (hb : Bk w b d) : RetL Try.prog 9 #[b.v, .int .i64 frame, .int .i64 agent, .int .i64 pass] w 66 3 partE (haveL d frame agent pass) := by
  intro R h
  refine f9_calls _ _ _ _ _ _ _ _ _ _ _ _ _ _ _ _ _ _ _ _ _ _ _ _ _ _ frame agent pass w R ?_
  unfold f9_vc
  unfold haveL at h
  intro n1 hn1 w2 hb2 hun2
  have hA : At w [n1] w2 := ⟨((At.refl w).call hb2).chg, hun2⟩
  refine at_callb hA (c37 frame w2 (hb.call hA.below)) fun w4 hA hk _ => ⟨_, rfl, hk, ?_⟩
  refine at_callb hA (c38 agent w4 (hb.call hA.below)) fun w7 hA hk _ => ⟨_, rfl, hk, ?_⟩
  refine brD (fun hx => leafl h hA OwnL.nil (by rw [if_pos (.inl hx)])) (fun h1 => brD (fun hx => leafl h hA OwnL.nil (by rw [if_pos (.inr (.inl hx))])) (fun h2 => brD (fun hx => leafl h hA OwnL.nil (by rw [if_pos (.inr (.inr (.inl hx)))])) (fun h3 => brD (fun hx => leafl h hA OwnL.nil (by rw [if_pos (.inr (.inr (.inr hx)))])) (fun h4 => ?_))))
  rw [if_neg (fun hh => by rcases hh with hh | hh | hh | hh <;> contradiction)] at h
  obtain ⟨ad, f, g1, el, er⟩ := frame_at (hb.call hA.below) h1
  obtain ⟨ad2, x, a1, m1, c1, a2, m2, c2, g2, el2, s2⟩ := agent_at (hb.call hA.below) h2
  rw [er] at h
  refine ⟨ad, g1, _, (el.sub (o := 1) (by decide)).one (by kernel_rfl) (by simp), brE (fun hp => ⟨ad2, g2, _, _, _, (el2.sub (o := 2) (by decide)).one (by kernel_rfl) (by simp), ?_⟩) (fun hp => ⟨ad2, g2, _, _, _, (el2.sub (o := 2) (by decide)).one (by kernel_rfl) (by simp), ?_⟩)⟩
  · rw [if_pos hp] at h
    exact at_calll hA (c39 f.2.1 f.2.1 w7 s2) (fun _ _ => rfl) fun a c w16 hA hk _ ho _ => ⟨_, _, _, rfl, hk, leafl h hA ho rfl⟩
  · rw [if_neg hp] at h
    exact at_calll hA (c39 0 f.2.1 w7 s2) (fun _ _ => rfl) fun a c w16 hA hk _ ho _ => ⟨_, _, _, rfl, hk, leafl h hA ho rfl⟩
end Go.Vc.W

/- view.V; the reference's Blocked. -/
set_option maxRecDepth 20000
set_option maxHeartbeats 1000000
namespace Go.Vc.W
open Go Go.Vc Go.Vc.V Go.RowKit Go.Proofs Vcw

variable {w W W' : World} {M : Nat → Prop} {gs : List Nat}

theorem only_one (l : List PartT) (r : Int) : onlyL l [r] = only2 l r r := by
  unfold onlyL only2
  simp only [List.mem_cons, List.not_mem_nil, or_false, or_self]
theorem only_two (l : List PartT) (r : Int) : onlyL l [r, 0] = only2 l 0 r := by
  have e : ∀ p : PartT, (p.2.1 ∈ [r, 0]) = (p.2.1 = 0 ∨ p.2.1 = r) := fun p => propext (by simp only [List.mem_cons, List.not_mem_nil, or_false]; exact or_comm)
  unfold onlyL only2
  simp only [e]
theorem c11 {b : BkA} {d : BkD} (frame agent pass : Int) (w : World) (hb : Bk w b d) : RetL Try.prog 11 #[b.v, .int .i64 frame, .int .i64 agent, .int .i64 pass] w 66 3 partE (haveL d frame agent pass) := by
  intro R h
  refine f11_calls _ _ _ _ _ _ _ _ _ _ _ _ _ _ _ _ _ _ _ _ _ _ _ _ _ _ frame agent pass w R ?_
  unfold f11_vc
  unfold haveL at h
  intro n1 hn1 w2 hb2 hun2
  have hA : At w [n1] w2 := ⟨((At.refl w).call hb2).chg, hun2⟩
  refine at_callb hA (c26 frame w2 (hb.call hA.below)) fun w4 hA hk _ => ⟨_, rfl, hk, ?_⟩
  refine at_callb hA (c27 agent w4 (hb.call hA.below)) fun w7 hA hk _ => ⟨_, rfl, hk, ?_⟩
  refine brD (fun hx => leafl h hA OwnL.nil (by rw [if_pos (.inl hx)])) (fun h1 => brD (fun hx => leafl h hA OwnL.nil (by rw [if_pos (.inr (.inl hx))])) (fun h2 => ?_))
  obtain ⟨ad, f, g1, el, er⟩ := frame_at (hb.call hA.below) h1
  obtain ⟨ad2, x, a1, m1, c1, a2, m2, c2, g2, el2, s2⟩ := agent_at (hb.call hA.below) h2
  rw [er] at h
  refine ⟨ad, g1, _, (el.sub (o := 1) (by decide)).one (by kernel_rfl) (by simp), ?_⟩
  refine opw_litL (e' := 3) (f := one) (size := 1) (l := [f.2.1]) hA rfl (fun _ _ => rfl) (by decide) (by kernel_rfl) fun g w12 _ hA hk hb12 ho => ⟨_, _, _, rfl, hk, ?_⟩
  refine brE (fun hp => ?_) (fun hp => brE (fun hp2 => ?_) (fun hp2 => leafl h hA OwnL.nil ?_))
  · rw [if_neg (fun hh => by rcases hh with hh | hh | hh | hh <;> first | contradiction | omega), if_pos hp] at h
    refine ⟨ad2, g2, _, _, _, ((el2.below hb12).sub (o := 2) (by decide)).one (by kernel_rfl) (by simp), ?_⟩
    exact at_calll hA (c40 w12 (s2.call hb12) (ho.sl fun _ _ => rfl)) (fun _ _ => rfl) fun a c w16 hA hk _ ho _ => ⟨_, _, _, rfl, hk, leafl h hA ho (only_one _ _)⟩
  · rw [if_neg (fun hh => by rcases hh with hh | hh | hh | hh <;> first | contradiction | omega), if_neg hp] at h
    refine opw_push (f := one) (e' := 3) (bytes := 8) hA ho 0 (by kernel_rfl) (by kernel_rfl) rfl (fun _ _ => rfl) (fun u hu => by simp at hu; subst hu; rfl) (by simp) (by decide) fun a3 c3 w31 hA ho hg _ => ?_
    have hA7 := ‹AtF w noB [n1] w7›
    obtain ⟨ad3, x3, a4, m4, c4, a5, m5, c5, g3, el3, s3⟩ := agent_at (hb.call hA.below) h2
    refine ⟨ad3, g3, _, _, _, (el3.sub (o := 2) (by decide)).one (by kernel_rfl) (by simp), ?_⟩
    exact at_calll hA (c40 w31 s3 (ho.sl fun _ _ => rfl)) (fun _ _ => rfl) fun a c w40 hA hk _ ho _ => ⟨_, _, _, rfl, hk, leafl h hA ho (only_two _ _)⟩
  · rw [if_pos (by omega)]
def blockedL (d : BkD) (frame agent : Int) (v : List PartT) : Bool := d.fls.any fun f => decide (f.1 = frame ∧ f.2.1 = agent) && holdsB f.2.2.2 v
theorem any_take {α : Type} {p : α → Bool} {l : List α} {i : Nat} {x : α} (hx : l[i]? = some x) : (l.take (i + 1)).any p = ((l.take i).any p || p x) := by
  rw [List.take_add_one, hx, List.any_append]; simp
theorem c13 {b : BkA} {d : BkD} {v : List PartT} {a : Option Addr} {n c : Nat} (frame agent : Int) (w : World) (hb : Bk w b d) (hv : SlE w 3 partE v a n c) : Ret Try.prog 13 #[b.v, .int .i64 frame, .int .i64 agent, .slice a n c] w (.bool (blockedL d frame agent v)) := by
  intro R h
  refine f13_calls _ _ _ _ _ _ _ _ _ _ _ _ _ _ _ _ _ _ _ _ _ _ _ _ _ _ frame agent a n c w R ?_
  unfold f13_vc
  have hn := hb.fl.len_le
  intro n1 hn1
  refine ⟨fun s W' => At w [n1] W' ∧ ∃ i : Nat, s.1 = i ∧ i ≤ d.fls.length ∧ (d.fls.take i).any (fun f => decide (f.1 = frame ∧ f.2.1 = agent) && holdsB f.2.2.2 v) = false, fun s _ => (b.l.2.1 - s.1).toNat, ⟨fun w4 hb4 hu => ⟨⟨((At.refl w).call hb4).chg, hu⟩, 0, rfl, Nat.zero_le _, rfl⟩, ?_⟩⟩
  rintro x5 w6 ⟨hA, i, hi, hil, hf⟩
  simp only at hi
  subst hi
  refine brD (fun hlt => ?_) (fun hge => leaf h hA ?_)
  · obtain ⟨p, hp⟩ : ∃ x, d.fls[i]? = some x := ⟨_, List.getElem?_eq_getElem (by omega)⟩
    obtain ⟨ad, cs, g1, el, a1, m1, c1, rfl, s1⟩ := rel_at (t := 29) hb.fl hp (e := 62) (by kernel_rfl) (by kernel_rfl)
    have hany := any_take (p := fun f : TkT => decide (f.1 = frame ∧ f.2.1 = agent) && holdsB f.2.2.2 v) hp
    rw [hf, Bool.false_or] at hany
    have hsz := hA.size
    refine ⟨ad, g1, _, _, _, _, _, _, (el.below hA.below).agg 4 (by kernel_rfl) (by kernel_rfl) (by simp) (by simp), ?_⟩
    intro n14 hn14
    rw [succ_i i (by omega)]
    have nx : ∀ {w'}, At w [n1, n14] w' → (decide (p.1 = frame ∧ p.2.1 = agent) && holdsB p.2.2.2 v) = false → (At w [n1] w' ∧ ∃ j : Nat, ((i + 1 : Nat) : Int) = j ∧ j ≤ d.fls.length ∧ (d.fls.take j).any (fun f => decide (f.1 = frame ∧ f.2.1 = agent) && holdsB f.2.2.2 v) = false) ∧ ((b.l.2.1 : Int) - ((i + 1 : Nat) : Int)).toNat < ((b.l.2.1 : Int) - (i : Int)).toNat := fun hA hq => ⟨⟨hA.sub (by simp), i + 1, rfl, by omega, by rw [hany]; exact hq⟩, by omega⟩
    refine brE (fun h1 => brE (fun h2 => ?_) (fun h2 => ?_)) (fun h1 => ?_)
    · intro w15 hev hun
      have hA := hA.evo (by intro x hx; simp at hx; omega) hev hun
      refine at_callb hA (c43 w15 (s1.call hA.below) (hv.call hA.below)) fun w17 hA hk _ => ⟨_, rfl, hk, brB (fun hh => leaf h hA ?_) (fun hh => nx hA (by rw [hh, Bool.and_false]))⟩
      have : blockedL d frame agent v = true := List.any_eq_true.2 ⟨p, List.mem_of_getElem? hp, by rw [decide_eq_true ⟨h1, h2⟩, hh]; rfl⟩
      rw [this]
    · intro w19 hev hun
      exact nx (hA.evo (by intro x hx; simp at hx; omega) hev hun) (by rw [decide_eq_false fun hh => h2 hh.2]; rfl)
    · intro w20 hev hun
      exact nx (hA.evo (by intro x hx; simp at hx; omega) hev hun) (by rw [decide_eq_false fun hh => h1 hh.1]; rfl)
  · rw [show i = d.fls.length by omega, List.take_length] at hf
    unfold blockedL
    rw [hf]
end Go.Vc.W

/- view.Blocked. -/
set_option maxRecDepth 20000
set_option maxHeartbeats 1000000
namespace Go.Vc.W
open Go Go.Vc Go.Vc.V Go.RowKit Go.Proofs Vcw

variable {w W W' : World} {M : Nat → Prop} {gs : List Nat}

def bitK (p : TkT → Bool) (f : TkT) : Int := if p f = true then 0 else 1
theorem bitK_iff {p : TkT → Bool} {f : TkT} : bitK p f = 0 ↔ p f = true := by
  unfold bitK
  split <;> simp_all
theorem ixOf_any (p : TkT → Bool) : ∀ (l : List TkT) (i : Nat), decide (ixOf (bitK p) 0 l i ≥ 0) = l.any p
  | [], i => by simp [ixOf]
  | x :: r, i => by
    rw [ixOf, List.any_cons]
    by_cases h : p x = true
    · rw [if_pos (bitK_iff.2 h), h]; simp
    · rw [if_neg (fun hh => h (bitK_iff.1 hh)), ixOf_any p r]; simp [h]
theorem c42 {p1 p2 p3 : Nat} {f : TkT} {v : List PartT} {fa va : Option Addr} {fn fc vn vc : Nat} (frame agent : Int) (W : World)
    (h1 : W.heap[p1]? = some (.cells #[.int .i64 frame] 2 (0, 0))) (h2 : W.heap[p2]? = some (.cells #[.int .i64 agent] 2 (0, 0))) (h3 : W.heap[p3]? = some (.cells #[.slice va vn vc] 33 (0, 0)))
    (hf : SlE W 3 partE f.2.2.2 fa fn fc) (hv : SlE W 3 partE v va vn vc) :
    Ret Try.prog 42 #[.agg #[.int .i64 f.1, .int .i64 f.2.1, .int .i64 f.2.2.1, .slice fa fn fc], .pointer (some ⟨p1, 0, none⟩), .pointer (some ⟨p2, 0, none⟩), .pointer (some ⟨p3, 0, none⟩)] W (.bool (decide (f.1 = frame ∧ f.2.1 = agent) && (decide (vecB f.2.2.2 = true ∧ vecB v = true) && (vsub f.2.2.2 v).isSome))) := by
  intro R h
  refine f42_calls f.1 f.2.1 f.2.2.1 fa fn fc _ _ _ W R ?_
  unfold f42_vc
  intro n1 hn1
  refine ⟨_, rd_f0 (r := []) (ty := 2) h1 (by kernel_rfl) (by simp), ?_⟩
  refine brE (fun e1 => ⟨_, rd_f0 (r := []) (ty := 2) h2 (by kernel_rfl) (by simp), brE (fun e2 => ?_) (fun e2 => ?_)⟩) (fun e1 => ?_)
  · refine ⟨_, _, _, rd_f0 (r := []) (ty := 33) h3 (by kernel_rfl) (by simp), ?_⟩
    intro w7 hb hu
    have hA : At W [n1] w7 := ⟨((At.refl W).call hb).chg, hu⟩
    refine at_callb hA (c25 w7 (hf.call hb) (hv.call hb)) fun w9 hA hk _ => ⟨_, rfl, hk, leaf h hA ?_⟩
    rw [decide_eq_true (p := f.1 = frame ∧ f.2.1 = agent) ⟨e1, e2⟩, Bool.true_and]
  · intro w11 hb hu
    have := h w11 hb
    rwa [decide_eq_false (p := f.1 = frame ∧ f.2.1 = agent) fun hh => e2 hh.2, Bool.false_and] at this
  · intro w11 hb hu
    have := h w11 hb
    rwa [decide_eq_false (p := f.1 = frame ∧ f.2.1 = agent) fun hh => e1 hh.1, Bool.false_and] at this
theorem c72 {l : List TkT} {a : Option Addr} {n c : Nat} {fv : Value} (p : TkT → Bool) (W : World) (hs : ∀ {W'}, Bel W W' → SlR W' 4 (tkR W') l a n c) (hf : ∀ W' f a1 n1 c1, Bel W W' → SlE W' 3 partE f.2.2.2 a1 n1 c1 → RetI Try.prog fv #[.agg #[.int .i64 f.1, .int .i64 f.2.1, .int .i64 f.2.2.1, .slice a1 n1 c1]] W' (.bool (p f))) : Ret Try.prog 72 #[.slice a n c, fv] W (.int .i64 (ixOf (bitK p) 0 l 0)) := by
  intro R h
  refine f72_calls a n c fv W R ?_
  unfold f72_vc
  have hn := (hs (At.refl W).below).len_le
  refine ⟨fun v W' => At W [] W' ∧ ∃ i : Nat, v.1 = i ∧ i ≤ l.length ∧ ixOf (bitK p) 0 (l.drop i) i = ixOf (bitK p) 0 l 0, fun v _ => (n - v.1).toNat, ⟨At.refl W, 0, rfl, Nat.zero_le _, rfl⟩, ?_⟩
  rintro x3 w4 ⟨hA, i, hi, hil, hx⟩
  simp only at hi
  subst hi
  refine brD (fun hlt => ?_) (fun hge => leaf h hA ?_)
  · obtain ⟨f, hfi⟩ : ∃ x, l[i]? = some x := ⟨_, List.getElem?_eq_getElem (by omega)⟩
    obtain ⟨ad, cs, g1, el, a1, m1, c1, rfl, s1⟩ := rel_at (t := 29) (hs hA.below) hfi (e := 62) (by kernel_rfl) (by kernel_rfl)
    rw [ixOf_step hfi] at hx
    refine ⟨ad, g1, _, _, _, _, _, _, el.agg 4 (by kernel_rfl) (by kernel_rfl) (by simp) (by simp), ?_⟩
    refine at_inv hA (hf w4 f a1 m1 c1 hA.below s1) fun w14 hA _ _ => ⟨_, rfl, fun he => leaf h hA ?_, fun hne => ?_⟩
    · rw [if_pos (bitK_iff.2 he)] at hx
      rw [hx]
    · rw [if_neg (fun hh => by rw [bitK_iff.1 hh] at hne; cases hne)] at hx
      rw [succ_i i (by omega)]
      exact ⟨⟨hA, i + 1, rfl, by omega, hx⟩, by simp only; omega⟩
  · rw [show i = l.length by omega, List.drop_length, ixOf] at hx
    rw [← hx]
theorem c41 {l : List TkT} {a : Option Addr} {n c : Nat} {fv : Value} (p : TkT → Bool) (W : World) (hs : ∀ {W'}, Bel W W' → SlR W' 4 (tkR W') l a n c) (hf : ∀ W' f a1 n1 c1, Bel W W' → SlE W' 3 partE f.2.2.2 a1 n1 c1 → RetI Try.prog fv #[.agg #[.int .i64 f.1, .int .i64 f.2.1, .int .i64 f.2.2.1, .slice a1 n1 c1]] W' (.bool (p f))) : Ret Try.prog 41 #[.slice a n c, fv] W (.bool (l.any p)) := by
  intro R h
  refine f41_calls a n c fv W R ?_
  unfold f41_vc
  refine at_callb (At.refl W) (c72 p W hs hf) fun w2 hA _ hb => ⟨_, rfl, ?_⟩
  rw [ixOf_any]
  exact h w2 hb
def blockedS (d : BkD) (frame agent : Int) (v : List PartT) : Bool := d.fls.any fun f => decide (f.1 = frame ∧ f.2.1 = agent) && (decide (vecB f.2.2.2 = true ∧ vecB v = true) && (vsub f.2.2.2 v).isSome)
theorem c12 {b : BkA} {d : BkD} {v : List PartT} {a : Option Addr} {n c : Nat} (frame agent : Int) (w : World) (hb : Bk w b d) (hv : SlE w 3 partE v a n c) : Ret Try.prog 12 #[b.v, .int .i64 frame, .int .i64 agent, .slice a n c] w (.bool (blockedS d frame agent v)) := by
  intro R h
  refine f12_calls _ _ _ _ _ _ _ _ _ _ _ _ _ _ _ _ _ _ _ _ _ _ _ _ _ _ frame agent a n c w R ?_
  unfold f12_vc
  intro n1 hn1 w2 hb2 hun2
  have hA : At w [n1] w2 := ⟨((At.refl w).call hb2).chg, hun2⟩
  refine opw_boxS hA fun p1 w4 hp1 hA hk hb4 hpb1 => ⟨_, rfl, hk, ?_⟩
  refine opw_boxS hA fun p2 w7 hp2 hA hk hb7 hpb2 => ⟨_, rfl, hk, ?_⟩
  refine opw_boxS hA fun p3 w10 hp3 hA hk hb10 hpb3 => ⟨_, rfl, hk, ?_⟩
  have q1 : ∀ {W'}, Bel w10 W' → W'.heap[p1]? = some (.cells #[.int .i64 frame] 2 (0, 0)) := fun hb' => by
    have e := (hb7.trans (hb10.trans hb')).block (Array.getElem?_eq_some_iff.1 hpb1).1
    rw [e, hpb1]; rfl
  have q2 : ∀ {W'}, Bel w10 W' → W'.heap[p2]? = some (.cells #[.int .i64 agent] 2 (0, 0)) := fun hb' => by
    have e := (hb10.trans hb').block (Array.getElem?_eq_some_iff.1 hpb2).1
    rw [e, hpb2]; rfl
  have q3 : ∀ {W'}, Bel w10 W' → W'.heap[p3]? = some (.cells #[.slice a n c] 33 (0, 0)) := fun hb' => by
    have e := hb'.block (Array.getElem?_eq_some_iff.1 hpb3).1
    rw [e, hpb3]; rfl
  refine at_callb hA (c41 _ w10 (fun hbb => ((hb.call hA.below).call hbb).fl) fun W' f a1 m1 c1 hb' s1 => RetI.of (by kernel_rfl) (c42 frame agent W' (q1 hb') (q2 hb') (q3 hb') s1 ((hv.call hA.below).call hb'))) fun w13 hA hk _ => ⟨_, rfl, hk, leaf h hA rfl⟩
end Go.Vc.W

/- The formulas of functions, printed by a program (VcTool.lean): each is what the generator's formula comes to, by the kernel's reckoning; whoever proves one has the function's contract. -/
set_option maxRecDepth 100000
set_option maxHeartbeats 1000000
set_option linter.unusedVariables false
namespace Vcx
open Go Go.Vc Go.RowKit
/-! (manciple/sums.Sums).Holds -/
def h48 : Hints := ⟨[2, 3], [10, 13], [15, 19], [(4, [0, 1, 2, 3, 4, 5, 6])], [(2, 5)], [], [], [], []⟩
def f48_vc (a_0 : Int) (a_1 : Int) (a_2 : Int) (a_3 : Int) (b_0 : Int) (b_1 : Int) (b_2 : Int) (b_3 : Int) (w : World) (R : Ending → World → Prop) : Prop :=
 ∀ (n1 : Nat),
 w.heap.size ≤ n1 →
 ∀ (n2 : Nat),
 w.heap.size ≤ n2 →
 (decide (a_0 < b_0) = true → ∀ (w3 : World), Bel w w3 → Under [n1, n2] w3 → R (Ending.returned (Value.bool false)) w3) ∧
 (decide (a_0 < b_0) = false →
 (decide (a_1 < b_1) = true → ∀ (w4 : World), Bel w w4 → Under [n1, n2] w4 → R (Ending.returned (Value.bool false)) w4) ∧
 (decide (a_1 < b_1) = false →
 (decide (a_2 < b_2) = true → ∀ (w5 : World), Bel w w5 → Under [n1, n2] w5 → R (Ending.returned (Value.bool false)) w5) ∧
 (decide (a_2 < b_2) = false →
 (decide (a_3 < b_3) = true → ∀ (w6 : World), Bel w w6 → Under [n1, n2] w6 → R (Ending.returned (Value.bool false)) w6) ∧
 (decide (a_3 < b_3) = false →
 ∀ (w7 : World),
 Bel w w7 →
 Under [n1, n2] w7 →
 Calls Proofs.Try.prog 74 #[Value.agg #[Value.int IntKind.i64 a_0, Value.int IntKind.i64 a_1, Value.int IntKind.i64 a_2, Value.int IntKind.i64 a_3]] w7 fun (e8 : Ending) (w9 : World) =>
 ∃ (b10 : Bool),
 e8 = Ending.returned (Value.bool b10) ∧
 Keeps [n1, n2] w7 w9 ∧
 (b10 = true →
 Calls Proofs.Try.prog 74 #[Value.agg #[Value.int IntKind.i64 b_0, Value.int IntKind.i64 b_1, Value.int IntKind.i64 b_2, Value.int IntKind.i64 b_3]] w9 fun (e11 : Ending) (w12 : World) =>
 ∃ (b13 : Bool), e11 = Ending.returned (Value.bool b13) ∧ Keeps [n1, n2] w9 w12 ∧ R (Ending.returned (Value.bool b13)) w12) ∧
 (b10 = false → R (Ending.returned (Value.bool false)) w9)))))
theorem f48_eq (a_0 : Int) (a_1 : Int) (a_2 : Int) (a_3 : Int) (b_0 : Int) (b_1 : Int) (b_2 : Int) (b_3 : Int) (w : World) (R : Ending → World → Prop) : (fnF Go.Proofs.Try.prog h48 Go.Proofs.Try.f48 [Value.agg #[Value.int IntKind.i64 a_0, Value.int IntKind.i64 a_1, Value.int IntKind.i64 a_2, Value.int IntKind.i64 a_3],
 Value.agg #[Value.int IntKind.i64 b_0, Value.int IntKind.i64 b_1, Value.int IntKind.i64 b_2, Value.int IntKind.i64 b_3]] w R).den = f48_vc a_0 a_1 a_2 a_3 b_0 b_1 b_2 b_3 w R := by kernel_rfl
theorem f48_calls (a_0 : Int) (a_1 : Int) (a_2 : Int) (a_3 : Int) (b_0 : Int) (b_1 : Int) (b_2 : Int) (b_3 : Int) (w : World) (R : Ending → World → Prop) (h : f48_vc a_0 a_1 a_2 a_3 b_0 b_1 b_2 b_3 w R) : Calls Go.Proofs.Try.prog 48 (List.toArray [Value.agg #[Value.int IntKind.i64 a_0, Value.int IntKind.i64 a_1, Value.int IntKind.i64 a_2, Value.int IntKind.i64 a_3],
 Value.agg #[Value.int IntKind.i64 b_0, Value.int IntKind.i64 b_1, Value.int IntKind.i64 b_2, Value.int IntKind.i64 b_3]]) w R :=
 fn_sound (H := h48) (fn := Go.Proofs.Try.f48) (by kernel_rfl) (by kernel_rfl) (by kernel_rfl) ((f48_eq a_0 a_1 a_2 a_3 b_0 b_1 b_2 b_3 w R).mpr h)

end Vcx

/- sums.Holds; view.Big. -/
set_option maxRecDepth 20000
set_option maxHeartbeats 1000000
namespace Go.Vc.W
open Go Go.Vc Go.Vc.V Go.RowKit Go.Proofs Vcw

variable {w W W' : World} {M : Nat → Prop} {gs : List Nat}

theorem c48 (a0 a1 a2 a3 b0 b1 b2 b3 : Int) (w : World) : Ret Try.prog 48 #[arrV a0 a1 a2 a3, arrV b0 b1 b2 b3] w (.bool (decide (b0 ≤ a0 ∧ b1 ≤ a1 ∧ b2 ≤ a2 ∧ b3 ≤ a3) && (decide (sumR a0 a1 a2 a3) && decide (sumR b0 b1 b2 b3)))) := by
  intro R h
  refine Vcx.f48_calls a0 a1 a2 a3 b0 b1 b2 b3 w R ?_
  unfold Vcx.f48_vc
  intro n1 hn1 n2 hn2
  have no : ¬ (b0 ≤ a0 ∧ b1 ≤ a1 ∧ b2 ≤ a2 ∧ b3 ≤ a3) → ∀ w', Bel w w' → R (.returned (.bool false)) w' := fun hh w' hb => by
    have := h w' hb
    rwa [decide_eq_false hh, Bool.false_and] at this
  refine brD (fun hx w3 hb _ => no (by omega) w3 hb) (fun h0 => brD (fun hx w3 hb _ => no (by omega) w3 hb) (fun h1 => brD (fun hx w3 hb _ => no (by omega) w3 hb) (fun h2 => brD (fun hx w3 hb _ => no (by omega) w3 hb) (fun h3 w7 hb hu => ?_))))
  rw [decide_eq_true (p := b0 ≤ a0 ∧ b1 ≤ a1 ∧ b2 ≤ a2 ∧ b3 ≤ a3) (by omega), Bool.true_and] at h
  have hA : At w [n1, n2] w7 := ⟨((At.refl w).call hb).chg, hu⟩
  refine at_callb hA (c74 a0 a1 a2 a3 w7) fun w9 hA hk _ => ⟨_, rfl, hk, brB (fun hx => ?_) (fun hx => leaf h hA ?_)⟩
  · refine at_callb hA (c74 b0 b1 b2 b3 w9) fun w12 hA hk _ => ⟨_, rfl, hk, leaf h hA ?_⟩
    rw [hx, Bool.true_and]
  · rw [hx, Bool.false_and]

def sumS (k : Int) (l : List PartT) : Int := if vecB l = true then sumK k l else 0
theorem ofV_eq (l : List PartT) : ofV l = arrV (sumS 0 l) (sumS 1 l) (sumS 2 l) (sumS 3 l) := by
  unfold ofV sumS
  split <;> rfl
def bigS (b : BkA) (l : List PartT) : Bool := decide (0 < l.length) && (decide (b.c5 ≤ sumS 0 l ∧ b.c6 ≤ sumS 1 l ∧ b.c7 ≤ sumS 2 l ∧ b.c8 ≤ sumS 3 l) && (decide (sumR (sumS 0 l) (sumS 1 l) (sumS 2 l) (sumS 3 l)) && decide (sumR b.c5 b.c6 b.c7 b.c8)))
abbrev BkA.cfg (b : BkA) : Value := .agg #[.int .i64 b.c0, .int .i64 b.c1, .int .i64 b.c2, .int .i64 b.c3, .int .i64 b.c4, .int .i64 b.c5, .int .i64 b.c6, .int .i64 b.c7, .int .i64 b.c8]
theorem c15 {l : List PartT} {a : Option Addr} {n c : Nat} (b : BkA) (w : World) (hs : SlE w 3 partE l a n c) : Ret Try.prog 15 #[b.cfg, .slice a n c] w (.bool (bigS b l)) := by
  intro R h
  refine f15_calls _ _ _ _ _ _ _ _ _ a n c w R ?_
  unfold f15_vc
  have hn := hs.1
  unfold bigS at h
  intro n1 hn1
  refine brD (fun hp w2 hb hu => ?_) (fun hp w2 hb hu => ?_)
  · rw [decide_eq_true (p := 0 < l.length) (by omega), Bool.true_and] at h
    have hA : At w [n1] w2 := ⟨((At.refl w).call hb).chg, hu⟩
    refine at_callb hA (c47 w2 (hs.call hb)) fun w4 hA hk _ => ⟨_, _, _, _, by rw [ofV_eq], hk, ?_⟩
    exact at_callb hA (c48 _ _ _ _ _ _ _ _ w4) fun w10 hA hk _ => ⟨_, rfl, hk, leaf h hA rfl⟩
  · rw [decide_eq_false (p := 0 < l.length) (by omega), Bool.false_and] at h
    exact h w2 hb
end Go.Vc.W

/- The reference's Big. -/
set_option maxRecDepth 20000
set_option maxHeartbeats 1000000
namespace Go.Vc.W
open Go Go.Vc Go.Vc.V Go.RowKit Go.Proofs Vcw

variable {w W W' : World} {M : Nat → Prop} {gs : List Nat}

def bigR (b : BkA) (l : List PartT) : Bool := decide (b.c5 ≤ sumS 0 l ∧ b.c6 ≤ sumS 1 l ∧ b.c7 ≤ sumS 2 l ∧ b.c8 ≤ sumS 3 l) && decide (0 < l.length)
theorem blk_keep {g : Nat} {cs : List Value} {t : TypeId} (h : W.heap[g]? = some (.cells cs.toArray t (0, 0))) (hb : Bel W W') : W'.heap[g]? = some (.cells cs.toArray t (0, 0)) := by
  rw [hb.block (Array.getElem?_eq_some_iff.1 h).1, h]
theorem rd_cell {g o : Nat} {cs : List Value} {t te : TypeId} {v : Value} (h : W.heap[g]? = some (.cells cs.toArray t (0, 0))) (hv : cs[o]? = some v) (hagg : pureRun Try.prog (isAgg te) = some false) : Reads Try.prog [] (Instr.loadAt te (.pointer (some ⟨g, o, none⟩))) W v :=
  reads_one hagg (fun _ hd => by cases hd) (by have := elt_cells h o v hv; rwa [addr_add, Nat.zero_add] at this)
theorem gives_arr4 {g o k : Nat} (hk : k < 4) : Gives Try.prog (Instr.indexAt 22 (.pointer (some (Addr.mk g o none))) (.int .i64 (k : Int))) (.pointer (some (Addr.mk g (o + k) none))) := by
  have := gives_index_arr (P := Try.prog) (t := 22) (e := 2) (n := 1) (m := 4) (ad := ⟨g, o, none⟩) (k := .i64) (by kernel_rfl) (by kernel_rfl) hk
  rwa [addr_add, Nat.mul_one] at this
theorem c16 {l : List PartT} {a : Option Addr} {n c : Nat} (b : BkA) (w : World) (hs : SlE w 3 partE l a n c) : Ret Try.prog 16 #[b.cfg, .slice a n c] w (.bool (bigR b l)) := by
  intro R h
  refine f16_calls _ _ _ _ _ _ _ _ _ a n c w R ?_
  unfold f16_vc
  have hn := hs.1
  have hA := At.refl w
  refine opw_boxS hA fun p w2 hp hA _ hb2 hpb => ⟨_, rfl, ?_⟩
  have hpb : w2.heap[p]? = some (.cells ([.int .i64 b.c0, .int .i64 b.c1, .int .i64 b.c2, .int .i64 b.c3, .int .i64 b.c4, .int .i64 b.c5, .int .i64 b.c6, .int .i64 b.c7, .int .i64 b.c8] : List Value).toArray 24 (0, 0)) := hpb
  refine at_callb hA (c49 w2 (hs.call hA.below)) fun w5 hA _ hb5 => ⟨_, _, _, _, by rw [ofV_eq], ?_⟩
  refine opw_allocS [.int .i64 0, .int .i64 0, .int .i64 0, .int .i64 0] (zv := arrV 0 0 0 0) (by kernel_rfl) rfl hA fun q w11 hq hA11 _ hb11 hqb => ⟨_, rfl, ?_⟩
  have hsz := hA.size
  refine opw_storeF (cells' := [.int .i64 (sumS 0 l), .int .i64 (sumS 1 l), .int .i64 (sumS 2 l), .int .i64 (sumS 3 l)]) hA11 hqb (.inl (by omega)) (by simp) (by kernel_rfl) fun w14 hA14 _ hch hqb => ?_
  have hb14 : Bel w5 w14 := by
    have hA0 : At w5 [] w5 := At.refl w5
    exact ((hA0.call hb11).step hch fun b _ hb => by subst hb; exact .inl (by omega)).below
  have hpb := blk_keep hpb (hb5.trans hb14)
  refine ⟨fun s W' => (At w [] W' ∧ Bel w14 W') ∧ ∃ k : Nat, s.1 = k ∧ k ≤ 4 ∧ (0 < k → b.c5 ≤ sumS 0 l) ∧ (1 < k → b.c6 ≤ sumS 1 l) ∧ (2 < k → b.c7 ≤ sumS 2 l) ∧ (3 < k → b.c8 ≤ sumS 3 l), fun s _ => 4 - s.1.toNat, ⟨⟨hA14, (At.refl w14).below⟩, 0, rfl, by omega, by omega, by omega, by omega, by omega⟩, ?_⟩
  rintro x w18 ⟨⟨hA, hbb⟩, k, hk, hk4, q0, q1, q2, q3⟩
  simp only at hk
  subst hk
  have hpb := blk_keep hpb hbb
  have hqb := blk_keep hqb hbb
  refine brD (fun hlt => ?_) (fun hge => leaf h hA ?_)
  · have hk4 : k < 4 := by omega
    have hc : k = 0 ∨ k = 1 ∨ k = 2 ∨ k = 3 := by omega
    have no : ¬ (b.c5 ≤ sumS 0 l ∧ b.c6 ≤ sumS 1 l ∧ b.c7 ≤ sumS 2 l ∧ b.c8 ≤ sumS 3 l) → ∀ w', Bel w18 w' → R (.returned (.bool false)) w' := fun hh w' hb => leaf h (hA.call hb) (by unfold bigR; rw [decide_eq_false hh, Bool.false_and])
    rcases hc with rfl | rfl | rfl | rfl
    · refine ⟨_, gives_arr4 (by omega), _, rd_cell hqb rfl (by kernel_rfl), _, gives_arr4 (by omega), _, rd_cell hpb rfl (by kernel_rfl), brD (fun hx w' hb => no (by omega) w' hb) (fun hx w' hb => ?_)⟩
      rw [succ_i 0 (by omega)]
      exact ⟨⟨⟨hA.call hb, hbb.trans hb⟩, 1, rfl, by omega, by omega, by omega, by omega, by omega⟩, by simp only; omega⟩
    · refine ⟨_, gives_arr4 (by omega), _, rd_cell hqb rfl (by kernel_rfl), _, gives_arr4 (by omega), _, rd_cell hpb rfl (by kernel_rfl), brD (fun hx w' hb => no (by omega) w' hb) (fun hx w' hb => ?_)⟩
      rw [succ_i 1 (by omega)]
      exact ⟨⟨⟨hA.call hb, hbb.trans hb⟩, 2, rfl, by omega, by omega, by omega, by omega, by omega⟩, by simp only; omega⟩
    · refine ⟨_, gives_arr4 (by omega), _, rd_cell hqb rfl (by kernel_rfl), _, gives_arr4 (by omega), _, rd_cell hpb rfl (by kernel_rfl), brD (fun hx w' hb => no (by omega) w' hb) (fun hx w' hb => ?_)⟩
      rw [succ_i 2 (by omega)]
      exact ⟨⟨⟨hA.call hb, hbb.trans hb⟩, 3, rfl, by omega, by omega, by omega, by omega, by omega⟩, by simp only; omega⟩
    · refine ⟨_, gives_arr4 (by omega), _, rd_cell hqb rfl (by kernel_rfl), _, gives_arr4 (by omega), _, rd_cell hpb rfl (by kernel_rfl), brD (fun hx w' hb => no (by omega) w' hb) (fun hx w' hb => ?_)⟩
      rw [succ_i 3 (by omega)]
      exact ⟨⟨⟨hA.call hb, hbb.trans hb⟩, 4, rfl, by omega, by omega, by omega, by omega, by omega⟩, by simp only; omega⟩
  · unfold bigR
    rw [decide_eq_true (p := b.c5 ≤ sumS 0 l ∧ b.c6 ≤ sumS 1 l ∧ b.c7 ≤ sumS 2 l ∧ b.c8 ≤ sumS 3 l) (by omega), Bool.true_and, hn]
    simp
theorem sumS_range (k : Int) (l : List PartT) : 0 ≤ sumS k l ∧ sumS k l ≤ 1152921504606846976 := by
  unfold sumS
  split
  · rename_i hv
    have := vec_bound (k := k) hv
    omega
  · omega
theorem big_eq {b : BkA} (l : List PartT) (h : minQ b) : bigS b l = bigR b l := by
  obtain ⟨h0, h1, h2, h3⟩ := h
  unfold inQ at h0 h1 h2 h3
  unfold bigS bigR
  rw [decide_eq_true (p := sumR (sumS 0 l) (sumS 1 l) (sumS 2 l) (sumS 3 l)) ⟨sumS_range _ _, sumS_range _ _, sumS_range _ _, sumS_range _ _⟩, decide_eq_true (p := sumR b.c5 b.c6 b.c7 b.c8) ⟨by omega, by omega, by omega, by omega⟩, Bool.true_and, Bool.and_true, Bool.and_comm]
theorem blocked_eq (d : BkD) (frame agent : Int) (v : List PartT) : blockedS d frame agent v = blockedL d frame agent v := rfl
end Go.Vc.W

/- view.Quiet's eligible: f20. -/
set_option maxRecDepth 20000
set_option maxHeartbeats 1000000
namespace Go.Vc.W
open Go Go.Vc Go.Vc.V Go.RowKit Go.Proofs Vcw

variable {w W W' : World} {M : Nat → Prop} {gs : List Nat}

def openAt (d : BkD) (i : Int) : Bool := (d.frs[i.toNat]?).elim false fun f => f.2.2.2.1 && !f.2.2.2.2.1
theorem frame_at2 {b : BkA} {d : BkD} (hb : Bk w b d) {id : Int} (h : ¬ ixOf (·.1) id d.frs 0 < 0) : ∃ ad f, Gives Try.prog (Instr.indexAt 25 (.slice b.f.1 b.f.2.1 b.f.2.2) (.int .i64 (ixOf (·.1) id d.frs 0))) (.pointer (some ad)) ∧ Elt w ad (frE f) ∧ openAt d (ixOf (·.1) id d.frs 0) = (f.2.2.2.1 && !f.2.2.2.2.1) := by
  rcases ixOf_range (k := fun x : FrT => x.1) (id := id) d.frs 0 with hneg | ⟨j, hj, _, hjl⟩
  · exact absurd hneg h
  obtain ⟨f, hf⟩ : ∃ x, d.frs[j]? = some x := ⟨_, List.getElem?_eq_getElem (by omega)⟩
  obtain ⟨ad, g1, el, _⟩ := elt_at (P := Try.prog) (k := .i64) (t := 25) hb.fr hf (e := 48) (by kernel_rfl) (by kernel_rfl)
  rw [hj]
  exact ⟨ad, f, g1, el, by unfold openAt; rw [Int.toNat_natCast, hf]; rfl⟩
def eligS (b : BkA) (d : BkD) (frame agent pass : Int) : Bool := bigS b (haveL d frame agent pass) && (!blockedS d frame agent (haveL d frame agent pass) && openAt d (ixOf (·.1) frame d.frs 0))
theorem big_ix {b : BkA} {d : BkD} {frame agent pass : Int} (h : bigS b (haveL d frame agent pass) = true) : ¬ ixOf (·.1) frame d.frs 0 < 0 := fun hx => by
  rw [show haveL d frame agent pass = [] by unfold haveL; rw [if_pos (.inl hx)]] at h
  simp [bigS] at h
theorem c20 {b : BkA} {d : BkD} (frame agent pass : Int) (w : World) (hb : Bk w b d) : Ret Try.prog 20 #[b.v, .int .i64 frame, .int .i64 agent, .int .i64 pass] w (.bool (eligS b d frame agent pass)) := by
  intro R h
  refine f20_calls _ _ _ _ _ _ _ _ _ _ _ _ _ _ _ _ _ _ _ _ _ _ _ _ _ _ frame agent pass w R ?_
  unfold f20_vc
  unfold eligS at h
  intro n1 hn1 w2 hb2 hun2
  have hA : At w [n1] w2 := ⟨((At.refl w).call hb2).chg, hun2⟩
  refine at_calll hA (c11 frame agent pass w2 (hb.call hA.below)) (fun _ _ => rfl) fun a c w4 hA hk _ ho _ => ⟨_, _, _, rfl, hk, ?_⟩
  have hs := ho.sl (fun _ _ => rfl)
  refine at_callb hA (c15 b w4 hs) fun w9 hA hk hb9 => ⟨_, rfl, hk, brNB (fun hx => leaf h hA (by rw [hx, Bool.false_and])) (fun hbig => ?_)⟩
  rw [hbig, Bool.true_and] at h
  refine at_callb hA (c12 frame agent w9 (hb.call hA.below) (hs.call hb9)) fun w12 hA hk hb12 => ⟨_, rfl, hk, brB (fun hx => leaf h hA (by rw [hx]; rfl)) (fun hbl => ?_)⟩
  rw [hbl, Bool.not_false, Bool.true_and] at h
  have hix := big_ix hbig
  refine ⟨fun w14 hb14 hu => ?_, fun n29 hn29 w30 hb30 hu => ?_⟩
  · have hA : At w [n1] w14 := ⟨(hA.call hb14).chg, hu⟩
    refine at_callb hA (c26 frame w14 (hb.call hA.below)) fun w16 hA hk _ => ⟨_, rfl, hk, ?_⟩
    obtain ⟨ad, f, g1, el, er⟩ := frame_at2 (hb.call hA.below) hix
    have hsz := hA.size
    rw [er] at h
    refine ⟨ad, g1, _, _, _, _, _, _, _, el.agg 7 (by kernel_rfl) (by kernel_rfl) (by simp) (by simp), fun n26 hn26 => ⟨el.agg 7 (by kernel_rfl) (by kernel_rfl) (by simp) (by simp), brB (fun hx w27 hev hun => leaf h (hA.evo (by intro x hx; simp at hx; omega) hev hun) (by rw [hx, Bool.true_and])) (fun hx w27 hev hun => leaf h (hA.evo (by intro x hx; simp at hx; omega) hev hun) (by rw [hx, Bool.false_and]))⟩⟩
  · have hA : At w [n1, n29] w30 := ⟨(hA.call hb30).chg, hu⟩
    have hsz12 := hb12.size
    refine at_callb hA (c26 frame w30 (hb.call hA.below)) fun w32 hA hk hb32 => ⟨_, rfl, hk, ?_⟩
    obtain ⟨ad, f, g1, el, er⟩ := frame_at2 (hb.call hA.below) hix
    rw [er] at h
    have hsz := (‹AtF w noB [n1] w12›).size
    refine ⟨ad, g1, _, _, _, _, _, _, _, el.agg 7 (by kernel_rfl) (by kernel_rfl) (by simp) (by simp), brB (fun hx w27 hev hun => leaf h (hA.evo (by intro x hx; simp at hx; omega) hev hun) (by rw [hx, Bool.true_and])) (fun hx w27 hev hun => leaf h (hA.evo (by intro x hx; simp at hx; omega) hev hun) (by rw [hx, Bool.false_and]))⟩
end Go.Vc.W

/- view.Those: f19; view.Quiet: f22. -/
set_option maxRecDepth 20000
set_option maxHeartbeats 1000000
namespace Go.Vc.W
open Go Go.Vc Go.Vc.V Go.RowKit Go.Proofs Vcw

variable {w W W' : World} {M : Nat → Prop} {gs : List Nat}

def thoseL (b : BkA) (d : BkD) (agent pass : Int) (l : List FrT) : List Int := (l.filter fun f => eligS b d f.1 agent pass).map (·.1)
theorem c19 {b : BkA} {d : BkD} (agent pass : Int) (w : World) (hb : Bk w b d) (hl : d.frs.length ≤ 1048576) : RetL Try.prog 19 #[b.v, .int .i64 agent, .int .i64 pass] w 2 1 one (thoseL b d agent pass d.frs) := by
  intro R h
  refine f19_calls _ _ _ _ _ _ _ _ _ _ _ _ _ _ _ _ _ _ _ _ _ _ _ _ _ _ agent pass w R ?_
  unfold f19_vc
  have hn := hb.fr.len_le
  have hn0 := hb.fr.1
  intro n1 hn1
  refine ⟨fun v W => At w [n1] W ∧ ∃ i : Nat, v.2.1 = i ∧ i ≤ d.frs.length ∧ OwnL w [n1] W 2 1 one (.slice v.1.1 v.1.2.1 v.1.2.2) (thoseL b d agent pass (d.frs.take i)), fun v _ => (b.f.2.1 - v.2.1).toNat, fun w4 hb4 hu => ⟨⟨((At.refl w).call hb4).chg, hu⟩, 0, rfl, Nat.zero_le _, OwnL.nil⟩, ?_⟩
  rintro a5 n6 n7 x8 w9 ⟨hA, i, hi, hil, ho⟩
  simp only at hi ho
  subst hi
  refine brD (fun hlt => ?_) (fun hge => leafl h hA ho ?_)
  · obtain ⟨f, hf⟩ : ∃ x, d.frs[i]? = some x := ⟨_, List.getElem?_eq_getElem (by omega)⟩
    obtain ⟨ad, g1, el, _⟩ := elt_at (P := Try.prog) (k := .i64) (t := 25) (hb.call hA.below).fr hf (e := 48) (by kernel_rfl) (by kernel_rfl)
    have htk : d.frs.take (i + 1) = d.frs.take i ++ [f] := by rw [List.take_add_one, hf]; rfl
    have hap : thoseL b d agent pass (d.frs.take (i + 1)) = thoseL b d agent pass (d.frs.take i) ++ (if eligS b d f.1 agent pass = true then [f.1] else []) := by
      unfold thoseL
      rw [htk, List.filter_append, List.map_append]
      congr 1
      by_cases hq : eligS b d f.1 agent pass = true
      · simp [hq]
      · simp [hq]
    have hol : (thoseL b d agent pass (d.frs.take i)).length ≤ i := by
      unfold thoseL
      rw [List.length_map]
      exact Nat.le_trans (List.length_filter_le ..) (by simp; omega)
    refine ⟨ad, g1, _, _, _, _, _, _, _, el.agg 7 (by kernel_rfl) (by kernel_rfl) (by simp) (by simp), ?_⟩
    intro n18 hn18 w19 hev hun
    have hsz := hA.size
    have hbel := hev.bel (by simpa using hn18)
    have hA : At w [n1, n18] w19 := ⟨(hA.call hbel).chg, hun⟩
    have ho := (ho.more (gs' := [n1, n18]) (by intro g h1 h2; simp at h1 h2; omega)).call hbel
    refine at_callb hA (c20 f.1 agent pass w19 (hb.call hA.below)) fun w21 hA hk hb21 => ⟨_, rfl, hk, ?_⟩
    have ho := ho.call hb21
    rw [succ_i i (by omega)]
    refine brB (fun hq => ?_) (fun hq => ?_)
    · refine opw_push (e' := 2) (bytes := 8) hA ho f.1 (by kernel_rfl) (by kernel_rfl) rfl (fun _ _ => rfl) (fun u hu => by simp at hu; subst hu; rfl) (by omega) (by decide) fun a2 c2 w29 hA ho _ _ => ?_
      refine ⟨⟨hA.sub (by simp), i + 1, rfl, by omega, ?_⟩, by simp only; omega⟩
      simp only
      rw [hap, if_pos hq]
      exact ho.more (by simp)
    · refine ⟨⟨hA.sub (by simp), i + 1, rfl, by omega, ?_⟩, by simp only; omega⟩
      simp only
      rw [hap, if_neg (by rw [hq]; decide), List.append_nil]
      exact ho.more (by simp)
  · rw [show i = d.frs.length by omega, List.take_length]
theorem c22 {b : BkA} {d : BkD} (agent : Int) (w : World) (hb : Bk w b d) (hl : d.frs.length ≤ 1048576) : Ret Try.prog 22 #[b.v, .int .i64 agent] w (.bool (decide (thoseL b d agent 1 d.frs = [] ∧ thoseL b d agent 2 d.frs = []))) := by
  intro R h
  refine f22_calls _ _ _ _ _ _ _ _ _ _ _ _ _ _ _ _ _ _ _ _ _ _ _ _ _ _ agent w R ?_
  unfold f22_vc
  intro n1 hn1 w2 hb2 hun2
  have hA : At w [n1] w2 := ⟨((At.refl w).call hb2).chg, hun2⟩
  refine at_calll hA (c19 agent 1 w2 (hb.call hA.below) hl) (fun _ _ => rfl) fun a c w4 hA hk _ ho _ => ⟨_, _, _, rfl, hk, brE (fun hx => ?_) (fun hx => leaf h hA ?_)⟩
  · have e1 : thoseL b d agent 1 d.frs = [] := List.length_eq_zero_iff.1 (by omega)
    refine at_calll hA (c19 agent 2 w4 (hb.call hA.below) hl) (fun _ _ => rfl) fun a c w9 hA hk _ ho _ => ⟨_, _, _, rfl, hk, leaf h hA ?_⟩
    refine congrArg (fun x => Ending.returned (Value.bool x)) ?_
    rw [Bool.eq_iff_iff, decide_eq_true_iff, beq_iff_eq]
    exact ⟨fun hh => ⟨e1, List.length_eq_zero_iff.1 (by omega)⟩, fun hh => by rw [hh.2]; rfl⟩
  · rw [decide_eq_false fun hh => hx (by rw [hh.1]; rfl)]
end Go.Vc.W

/- Slices of slices: what Instr.sliceAt gives. -/
namespace Go.Vc
open Go Go.RowKit
section
variable {P : Program}
theorem gives_slice_lh {t e : TypeId} {n len cap l h : Nat} {a : Option Addr} {k k2 : IntKind} (ht : P.underlying t = some (.slice e)) (hs : pureRun P (sizeOf e) = some n) (h1 : l ≤ h) (h2 : h ≤ cap) :
    Gives P (Instr.sliceAt t (.slice a len cap) (some (.int k (l : Int))) (some (.int k2 (h : Int))) none) (.slice (if cap = l then a else a.map (·.add (l * n))) (h - l) (cap - l)) := by
  intro W
  have he : P.elem t = e := by simp [Program.elem, ht]
  have ht' : P.underlying t = some (.slice (P.elem t)) := by rw [he]; exact ht
  have hh := run_slice_lh (P := P) W t a len cap ht' k k2 (l : Int) (h : Int) (by omega) (by omega) (by omega)
  rw [run_sliceAt_slice (P := P) W t _ _ _ _ ht', hh, he, pureRun_run hs W]
  simp only [Result.andThen, sliced, Int.toNat_natCast]
theorem gives_slice_h {t e : TypeId} {n len cap h : Nat} {a : Option Addr} {k2 : IntKind} (ht : P.underlying t = some (.slice e)) (hs : pureRun P (sizeOf e) = some n) (h2 : h ≤ cap) :
    Gives P (Instr.sliceAt t (.slice a len cap) none (some (.int k2 (h : Int))) none) (.slice (if cap = 0 then a else a.map (·.add (0 * n))) h cap) := by
  intro W
  have he : P.elem t = e := by simp [Program.elem, ht]
  have ht' : P.underlying t = some (.slice (P.elem t)) := by rw [he]; exact ht
  have hh := run_slice_h (P := P) W t a len cap ht' k2 (h : Int) (by omega) (by omega)
  rw [run_sliceAt_slice (P := P) W t _ _ _ _ ht', hh, he, pureRun_run hs W]
  simp only [Result.andThen, sliced, Int.toNat_natCast, Nat.sub_zero]
theorem gives_slice_l {t e : TypeId} {n len cap l : Nat} {a : Option Addr} {k : IntKind} (ht : P.underlying t = some (.slice e)) (hs : pureRun P (sizeOf e) = some n) (h1 : l ≤ len) :
    Gives P (Instr.sliceAt t (.slice a len cap) (some (.int k (l : Int))) none none) (.slice (if cap = l then a else a.map (·.add (l * n))) (len - l) (cap - l)) := by
  intro W
  have he : P.elem t = e := by simp [Program.elem, ht]
  have ht' : P.underlying t = some (.slice (P.elem t)) := by rw [he]; exact ht
  have hh := run_slice_l (P := P) W t a len cap ht' k (l : Int) (by omega) (by omega)
  rw [run_sliceAt_slice (P := P) W t _ _ _ _ ht', hh, he, pureRun_run hs W]
  simp only [Result.andThen, sliced, Int.toNat_natCast]
end
end Go.Vc

/- works. -/
set_option maxRecDepth 20000
set_option maxHeartbeats 1000000
namespace Go.Vc.W
open Go Go.Vc Go.Vc.V Go.RowKit Go.Proofs Vcw

variable {w W W' : World} {M : Nat → Prop} {gs : List Nat}

def wV : List PartT := [(0, 0, 1), (0, 2, 3), (0, 5, 1)]
def wF : List FrT := [(1, 2, 1, true, false, 0, 0), (2, 2, 1, true, true, 0, 0)]
def wD : BkD := ⟨wF, [(7, wV, wV)], [], [], []⟩
def wB (f a : Option Addr × Nat × Nat) : BkA := ⟨9, 9, 0, 0, 9, 0, 0, 0, 0, 0, 0, f, a, (none, 0, 0), (none, 0, 0), (none, 0, 0)⟩
theorem w1 : haveL wD 1 7 1 = [(0, 2, 3)] := by decide +kernel
theorem w2 : haveL wD 1 7 2 = [(0, 0, 1), (0, 2, 3)] := by decide +kernel
theorem w3 (f a : Option Addr × Nat × Nat) : thoseL (wB f a) wD 7 2 wF = [1] := by kernel_rfl
theorem w4 (f a : Option Addr × Nat × Nat) : thoseL (wB f a) wD 7 1 wF = [1] := by kernel_rfl
theorem w5 (f a : Option Addr × Nat × Nat) : thoseL (wB f a) wD 8 1 wF = [] := by kernel_rfl
theorem w6 (f a : Option Addr × Nat × Nat) : thoseL (wB f a) wD 8 2 wF = [] := by kernel_rfl
end Go.Vc.W

/- works: view.V, Those and Quiet answer as they should on a book of two frames. -/
set_option maxRecDepth 20000
set_option maxHeartbeats 1000000
namespace Go.Vc.W
open Go Go.Vc Go.Vc.V Go.RowKit Go.Proofs Vcw

variable {w W W' : World} {M : Nat → Prop} {gs : List Nat}

theorem wv {f1 a1 : Option Addr} {f2 f3 a2 a3 : Nat} : (wB (f1, f2, f3) (a1, a2, a3)).v = (.agg #[.int .i64 9, .int .i64 9, .int .i64 0, .int .i64 0, .int .i64 9, .int .i64 0, .int .i64 0, .int .i64 0, .int .i64 0, .int .i64 0, .int .i64 0, .slice f1 f2 f3, .slice a1 a2 a3, .slice none 0 0, .slice none 0 0, .slice none 0 0] : Value) := rfl
theorem v11a {f1 a1 : Option Addr} {f2 f3 a2 a3 : Nat} (w : World) (hb : Bk w (wB (f1, f2, f3) (a1, a2, a3)) wD) : RetL Try.prog 11 #[(.agg #[.int .i64 9, .int .i64 9, .int .i64 0, .int .i64 0, .int .i64 9, .int .i64 0, .int .i64 0, .int .i64 0, .int .i64 0, .int .i64 0, .int .i64 0, .slice f1 f2 f3, .slice a1 a2 a3, .slice none 0 0, .slice none 0 0, .slice none 0 0] : Value), .int .i64 1, .int .i64 7, .int .i64 1] w 66 3 partE [(0, 2, 3)] := by
  have := c11 1 7 1 w hb
  rw [w1, wv] at this
  exact this
theorem v11b {f1 a1 : Option Addr} {f2 f3 a2 a3 : Nat} (w : World) (hb : Bk w (wB (f1, f2, f3) (a1, a2, a3)) wD) : RetL Try.prog 11 #[(.agg #[.int .i64 9, .int .i64 9, .int .i64 0, .int .i64 0, .int .i64 9, .int .i64 0, .int .i64 0, .int .i64 0, .int .i64 0, .int .i64 0, .int .i64 0, .slice f1 f2 f3, .slice a1 a2 a3, .slice none 0 0, .slice none 0 0, .slice none 0 0] : Value), .int .i64 1, .int .i64 7, .int .i64 2] w 66 3 partE [(0, 0, 1), (0, 2, 3)] := by
  have := c11 1 7 2 w hb
  rw [w2, wv] at this
  exact this
theorem v19 {f1 a1 : Option Addr} {f2 f3 a2 a3 : Nat} (w : World) (hb : Bk w (wB (f1, f2, f3) (a1, a2, a3)) wD) : RetL Try.prog 19 #[(.agg #[.int .i64 9, .int .i64 9, .int .i64 0, .int .i64 0, .int .i64 9, .int .i64 0, .int .i64 0, .int .i64 0, .int .i64 0, .int .i64 0, .int .i64 0, .slice f1 f2 f3, .slice a1 a2 a3, .slice none 0 0, .slice none 0 0, .slice none 0 0] : Value), .int .i64 7, .int .i64 2] w 2 1 one [1] := by
  have := c19 7 2 w hb (by decide)
  rw [show wD.frs = wF from rfl, w3, wv] at this
  exact this
theorem v22a {f1 a1 : Option Addr} {f2 f3 a2 a3 : Nat} (w : World) (hb : Bk w (wB (f1, f2, f3) (a1, a2, a3)) wD) : Ret Try.prog 22 #[(.agg #[.int .i64 9, .int .i64 9, .int .i64 0, .int .i64 0, .int .i64 9, .int .i64 0, .int .i64 0, .int .i64 0, .int .i64 0, .int .i64 0, .int .i64 0, .slice f1 f2 f3, .slice a1 a2 a3, .slice none 0 0, .slice none 0 0, .slice none 0 0] : Value), .int .i64 7] w (.bool false) := by
  have := c22 7 w hb (by decide)
  rw [show wD.frs = wF from rfl, w4, w3, wv] at this
  exact this
theorem v22b {f1 a1 : Option Addr} {f2 f3 a2 a3 : Nat} (w : World) (hb : Bk w (wB (f1, f2, f3) (a1, a2, a3)) wD) : Ret Try.prog 22 #[(.agg #[.int .i64 9, .int .i64 9, .int .i64 0, .int .i64 0, .int .i64 9, .int .i64 0, .int .i64 0, .int .i64 0, .int .i64 0, .int .i64 0, .int .i64 0, .slice f1 f2 f3, .slice a1 a2 a3, .slice none 0 0, .slice none 0 0, .slice none 0 0] : Value), .int .i64 8] w (.bool true) := by
  have := c22 8 w hb (by decide)
  rw [show wD.frs = wF from rfl, w5, w6, wv] at this
  exact this
theorem slr_none {α : Type} {n : Nat} {R : α → List Value → Prop} : SlR w n R [] none 0 0 := ⟨rfl, Nat.le_refl _, Nat.zero_le _, fun _ => rfl, fun i x hx => by simp at hx⟩
/-- A part of a slice's data, up to a place. -/
theorem SlE.upto {α : Type} {n : Nat} {f : α → List Value} {l : List α} {a : Option Addr} {len cap h : Nat} (hs : SlE w n f l a len cap) (hh : h ≤ len) : SlE w n f (l.take h) a h cap := by
  obtain ⟨h1, h2, h3, h4, h5⟩ := hs
  refine ⟨by rw [List.length_take]; omega, by omega, h3, h4, fun i x hx => ?_⟩
  rw [List.getElem?_take] at hx
  split at hx
  · exact h5 i x hx
  · cases hx
theorem c8 (w : World) : Ret Try.prog 8 #[] w (.bool true) := by
  intro R h
  refine f8_calls w R ?_
  unfold f8_vc
  have hA := At.refl w
  refine opw_litL (e' := 66) (f := partE) (size := 3) (l := wV) hA rfl (fun _ _ => rfl) (by decide) (by kernel_rfl) fun g w2 _ hA _ hb2 ho1 => ⟨_, _, _, rfl, ?_⟩
  refine opw_litL (e' := 48) (f := frE) (size := 7) (l := wF) hA rfl (fun _ _ => rfl) (by decide) (by kernel_rfl) fun g2 w7 _ hA _ hb7 ho2 => ⟨_, _, _, rfl, ?_⟩
  refine opw_litL (e' := 56) (f := fun _ : AgT => [.int .i64 7, .slice (some ⟨g, 0, none⟩) 3 3, .slice (some ⟨g, 0, none⟩) 3 3]) (size := 3) (l := [(7, wV, wV)]) hA rfl (fun _ _ => rfl) (by decide) (by kernel_rfl) fun g3 w12 _ hA _ hb12 ho3 => ⟨_, _, _, rfl, ?_⟩
  have s1 := (ho1.sl (fun _ _ => rfl)).call (hb7.trans hb12)
  have s2 := (ho2.sl (fun _ _ => rfl)).call hb12
  have s3 := ho3.sl (fun _ _ => rfl)
  have hb : Bk w12 (wB (some ⟨g2, 0, none⟩, 2, 2) (some ⟨g3, 0, none⟩, 1, 1)) wD := ⟨s2, ⟨s3.1, s3.2.1, s3.2.2.1, s3.2.2.2.1, fun i x hx => by
      obtain ⟨ad, cs, e1, e2, e3, rfl⟩ := s3.2.2.2.2 i x hx
      have : x ∈ [((7, wV, wV) : AgT)] := List.mem_of_getElem? hx
      rw [List.mem_singleton] at this
      subst this
      exact ⟨ad, _, e1, e2, e3, _, _, _, _, _, _, rfl, s1, s1⟩⟩, slr_none, slr_none, slr_none⟩
  intro n16 hn16 w17 hev hun
  have hbel := hev.bel (by simpa using hn16)
  have hA : At w [n16] w17 := ⟨(hA.call hbel).chg, hun⟩
  have hb := hb.call hbel
  have s1 := s1.call hbel
  refine at_calll hA (v11a w17 hb) (fun _ _ => rfl) fun a c w19 hA hk hb19 ho1 s11 => ⟨_, _, _, rfl, hk, ?_⟩
  refine at_calll hA (v19 w19 (hb.call hb19)) (fun _ _ => rfl) fun a3 c3 w24 hA hk hb24 ho3 s19 => ⟨_, _, _, rfl, hk, ?_⟩
  refine ⟨_, _, _, gives_slice_lh (e := 66) (n := 3) (l := 1) (h := 2) (by kernel_rfl) (by kernel_rfl) (by decide) (by decide), ?_⟩
  intro w31 hb31 hun31
  have hA : At w [n16] w31 := ⟨(hA.call hb31).chg, hun31⟩
  have hbA := (hb19.trans hb24).trans hb31
  have sl1 : SlE w31 3 partE [(0, 2, 3)] (if (3 : Nat) = 1 then some (⟨g, 0, none⟩ : Addr) else Option.map (fun x => x.add (1 * 3)) (some (⟨g, 0, none⟩ : Addr))) (2 - 1) (3 - 1) := by
    rw [if_neg (by decide)]
    exact SlE.upto (h := 1) ((s1.call hbA).from_ (i := 1) rfl (by decide)) (by decide)
  refine at_callb hA (c10 w31 (s11.call (hb24.trans hb31)) sl1) fun w33 hA hk hb33 => ⟨_, rfl, hk, brB (fun _ => ?_) (fun hf => ?_)⟩
  · have hbB := hbA.trans hb33
    refine ⟨_, _, _, gives_slice_h (e := 66) (n := 3) (h := 2) (by kernel_rfl) (by kernel_rfl) (by decide), ?_⟩
    have sl2 : SlE w33 3 partE [(0, 0, 1), (0, 2, 3)] (if (3 : Nat) = 0 then some (⟨g, 0, none⟩ : Addr) else Option.map (fun x => x.add (0 * 3)) (some (⟨g, 0, none⟩ : Addr))) 2 3 := by
      rw [if_neg (by decide)]
      exact SlE.upto (h := 2) (s1.call hbB) (by decide)
    refine at_calll hA (v11b w33 (hb.call hbB)) (fun _ _ => rfl) fun a4 c4 w39 hA hk hb39 ho4 s12 => ⟨_, _, _, rfl, hk, ?_⟩
    refine at_callb hA (c10 w39 s12 (sl2.call hb39)) fun w44 hA hk hb44 => ⟨_, rfl, hk, brB (fun _ => ?_) (fun hf => absurd hf (by decide))⟩
    refine brE (fun _ => ?_) (fun hx => absurd rfl hx)
    obtain ⟨ad, g1, el, _⟩ := elt_at (P := Try.prog) (k := .i64) (t := 43) (s19.call (((hb31.trans hb33).trans hb39).trans hb44)) (i := 0) (x := 1) rfl (e := 2) (by kernel_rfl) (by kernel_rfl)
    have hbC := (hbB.trans hb39).trans hb44
    refine ⟨ad, g1, _, el.one (by kernel_rfl) (by simp), brE (fun _ => ?_) (fun hx => absurd rfl hx)⟩
    refine at_callb hA (v22a w44 (hb.call hbC)) fun w49 hA hk hb49 => ⟨_, rfl, hk, (el.below hb49).one (by kernel_rfl) (by simp), brB (fun _ => ?_) (fun hx => by cases hx)⟩
    exact at_callb hA (v22b w49 (hb.call (hbC.trans hb49))) fun w52 hA hk hb52 => ⟨_, rfl, hk, (el.below (hb49.trans hb52)).one (by kernel_rfl) (by simp), leaf h hA rfl⟩
  · exact absurd hf (by decide)
end Go.Vc.W

/- The formulas of functions, printed by a program (VcTool.lean): each is what the generator's formula comes to, by the kernel's reckoning; whoever proves one has the function's contract. -/
set_option maxRecDepth 100000
set_option maxHeartbeats 1000000
set_option linter.unusedVariables false
namespace Vcw
open Go Go.Vc Go.RowKit
/-! manciple/manciplelaw17.ViewTells -/
def h3 : Hints := ⟨[3, 4], [28, 30, 35, 37, 46, 48, 53, 55, 76, 78, 83, 85], [21, 24, 60, 63, 12, 17, 44, 74, 91], [(7, [0, 1, 2, 3, 4, 5, 7, 6, 8, 9, 10, 11, 12, 13, 14, 15, 16, 18, 19, 20, 21, 22, 23, 17, 24, 25, 26]), (11, [0, 1, 2, 4, 5, 6, 3, 7, 8, 9, 10, 11, 12, 13, 14, 15, 17, 18, 19, 20, 21, 22, 16, 23, 24, 25, 26, 27, 28, 29])], [], [(4, ⟨[(7, .int .i64)], []⟩)], [], [], []⟩
def f3_vc (b_0 : Int) (b_1 : Int) (b_2 : Int) (b_3 : Int) (b_4 : Int) (b_5 : Int) (b_6 : Int) (b_7 : Int) (b_8 : Int) (b_9 : Int) (b_10 : Int) (b_11a : Option Addr) (b_11n : Nat) (b_11c : Nat) (b_12a : Option Addr) (b_12n : Nat) (b_12c : Nat) (b_13a : Option Addr) (b_13n : Nat) (b_13c : Nat) (b_14a : Option Addr) (b_14n : Nat) (b_14c : Nat) (b_15a : Option Addr) (b_15n : Nat) (b_15c : Nat) (ids_0 : Int) (ids_1 : Int) (va : Option Addr) (vn : Nat) (vc : Nat) (w : World) (R : Ending → World → Prop) : Prop :=
 ∀ (n1 : Nat),
 w.heap.size ≤ n1 →
 ∀ (n2 : Nat),
 w.heap.size ≤ n2 →
 ∀ (w3 : World),
 Bel w w3 →
 Under [n1, n2] w3 →
 Calls Proofs.Try.prog 6
 #[Value.agg
 #[Value.int IntKind.i64 b_0, Value.int IntKind.i64 b_1, Value.int IntKind.i64 b_2, Value.int IntKind.i64 b_3, Value.int IntKind.i64 b_4, Value.int IntKind.i64 b_5, Value.int IntKind.i64 b_6, Value.int IntKind.i64 b_7,
 Value.int IntKind.i64 b_8, Value.int IntKind.i64 b_9, Value.int IntKind.i64 b_10, Value.slice b_11a b_11n b_11c, Value.slice b_12a b_12n b_12c, Value.slice b_13a b_13n b_13c, Value.slice b_14a b_14n b_14c,
 Value.slice b_15a b_15n b_15c]]
 w3 fun (e4 : Ending) (w5 : World) =>
 ∃ (b6 : Bool),
 e4 = Ending.returned (Value.bool b6) ∧
 Keeps [n1, n2] w3 w5 ∧
 ((!b6) = true → Calls Proofs.Try.prog 8 #[] w5 fun (e7 : Ending) (w8 : World) => ∃ (b9 : Bool), e7 = Ending.returned (Value.bool b9) ∧ Keeps [n1, n2] w5 w8 ∧ R (Ending.returned (Value.bool b9)) w8) ∧
 ((!b6) = false →
 Calls Proofs.Try.prog 7
 #[Value.agg
 #[Value.int IntKind.i64 b_0, Value.int IntKind.i64 b_1, Value.int IntKind.i64 b_2, Value.int IntKind.i64 b_3, Value.int IntKind.i64 b_4, Value.int IntKind.i64 b_5, Value.int IntKind.i64 b_6,
 Value.int IntKind.i64 b_7, Value.int IntKind.i64 b_8, Value.int IntKind.i64 b_9, Value.int IntKind.i64 b_10, Value.slice b_11a b_11n b_11c, Value.slice b_12a b_12n b_12c, Value.slice b_13a b_13n b_13c,
 Value.slice b_14a b_14n b_14c, Value.slice b_15a b_15n b_15c]]
 w5 fun (e10 : Ending) (w11 : World) =>
 ∃ (x12 : Int),
 e10 = Ending.returned (Value.int IntKind.i64 x12) ∧
 Keeps [n1, n2] w5 w11 ∧
 ((x12 != 0) = true →
 Calls Proofs.Try.prog 8 #[] w11 fun (e13 : Ending) (w14 : World) => ∃ (b15 : Bool), e13 = Ending.returned (Value.bool b15) ∧ Keeps [n1, n2] w11 w14 ∧ R (Ending.returned (Value.bool b15)) w14) ∧
 ((x12 != 0) = false →
 (decide ((↑vn : Int) > 150) = true →
 Calls Proofs.Try.prog 8 #[] w11 fun (e16 : Ending) (w17 : World) => ∃ (b18 : Bool), e16 = Ending.returned (Value.bool b18) ∧ Keeps [n1, n2] w11 w17 ∧ R (Ending.returned (Value.bool b18)) w17) ∧
 (decide ((↑vn : Int) > 150) = false →
 ∃ (J19 : Int × Unit → World → Prop),
 ∃ (J20 : Int × Unit → World → Nat),
 J19 (0, ()) w11 ∧
 ∀ (x21 : Int) (w22 : World),
 J19 (x21, ()) w22 →
 (decide (x21 ≤ 3) = true →
 Calls Proofs.Try.prog 9
 #[Value.agg
 #[Value.int IntKind.i64 b_0, Value.int IntKind.i64 b_1, Value.int IntKind.i64 b_2, Value.int IntKind.i64 b_3, Value.int IntKind.i64 b_4, Value.int IntKind.i64 b_5,
 Value.int IntKind.i64 b_6, Value.int IntKind.i64 b_7, Value.int IntKind.i64 b_8, Value.int IntKind.i64 b_9, Value.int IntKind.i64 b_10, Value.slice b_11a b_11n b_11c,
 Value.slice b_12a b_12n b_12c, Value.slice b_13a b_13n b_13c, Value.slice b_14a b_14n b_14c, Value.slice b_15a b_15n b_15c],
 Value.int IntKind.i64 ids_0, Value.int IntKind.i64 ids_1, Value.int IntKind.i64 x21]
 w22 fun (e23 : Ending) (w24 : World) =>
 ∃ (a25 : Option Addr),
 ∃ (n26 : Nat),
 ∃ (n27 : Nat),
 e23 = Ending.returned (Value.slice a25 n26 n27) ∧
 Keeps [n1, n2] w22 w24 ∧
 ∀ (w28 : World),
 Bel w24 w28 →
 Under [n1, n2] w28 →
 Calls Proofs.Try.prog 11
 #[Value.agg
 #[Value.int IntKind.i64 b_0, Value.int IntKind.i64 b_1, Value.int IntKind.i64 b_2, Value.int IntKind.i64 b_3, Value.int IntKind.i64 b_4,
 Value.int IntKind.i64 b_5, Value.int IntKind.i64 b_6, Value.int IntKind.i64 b_7, Value.int IntKind.i64 b_8, Value.int IntKind.i64 b_9,
 Value.int IntKind.i64 b_10, Value.slice b_11a b_11n b_11c, Value.slice b_12a b_12n b_12c, Value.slice b_13a b_13n b_13c, Value.slice b_14a b_14n b_14c,
 Value.slice b_15a b_15n b_15c],
 Value.int IntKind.i64 ids_0, Value.int IntKind.i64 ids_1, Value.int IntKind.i64 x21]
 w28 fun (e29 : Ending) (w30 : World) =>
 ∃ (a31 : Option Addr),
 ∃ (n32 : Nat),
 ∃ (n33 : Nat),
 e29 = Ending.returned (Value.slice a31 n32 n33) ∧
 Keeps [n1, n2] w28 w30 ∧
 Calls Proofs.Try.prog 10 #[Value.slice a31 n32 n33, Value.slice a25 n26 n27] w30 fun (e34 : Ending) (w35 : World) =>
 ∃ (b36 : Bool),
 e34 = Ending.returned (Value.bool b36) ∧
 Keeps [n1, n2] w30 w35 ∧
 ((!b36) = true → R (Ending.returned (Value.bool false)) w35) ∧
 ((!b36) = false →
 Calls Proofs.Try.prog 12
 #[Value.agg
 #[Value.int IntKind.i64 b_0, Value.int IntKind.i64 b_1, Value.int IntKind.i64 b_2, Value.int IntKind.i64 b_3, Value.int IntKind.i64 b_4,
 Value.int IntKind.i64 b_5, Value.int IntKind.i64 b_6, Value.int IntKind.i64 b_7, Value.int IntKind.i64 b_8, Value.int IntKind.i64 b_9,
 Value.int IntKind.i64 b_10, Value.slice b_11a b_11n b_11c, Value.slice b_12a b_12n b_12c, Value.slice b_13a b_13n b_13c,
 Value.slice b_14a b_14n b_14c, Value.slice b_15a b_15n b_15c],
 Value.int IntKind.i64 ids_0, Value.int IntKind.i64 ids_1, Value.slice a25 n26 n27]
 w35 fun (e37 : Ending) (w38 : World) =>
 ∃ (b39 : Bool),
 e37 = Ending.returned (Value.bool b39) ∧
 Keeps [n1, n2] w35 w38 ∧
 Calls Proofs.Try.prog 13
 #[Value.agg
 #[Value.int IntKind.i64 b_0, Value.int IntKind.i64 b_1, Value.int IntKind.i64 b_2, Value.int IntKind.i64 b_3,
 Value.int IntKind.i64 b_4, Value.int IntKind.i64 b_5, Value.int IntKind.i64 b_6, Value.int IntKind.i64 b_7,
 Value.int IntKind.i64 b_8, Value.int IntKind.i64 b_9, Value.int IntKind.i64 b_10, Value.slice b_11a b_11n b_11c,
 Value.slice b_12a b_12n b_12c, Value.slice b_13a b_13n b_13c, Value.slice b_14a b_14n b_14c, Value.slice b_15a b_15n b_15c],
 Value.int IntKind.i64 ids_0, Value.int IntKind.i64 ids_1, Value.slice a25 n26 n27]
 w38 fun (e40 : Ending) (w41 : World) =>
 ∃ (b42 : Bool),
 e40 = Ending.returned (Value.bool b42) ∧
 Keeps [n1, n2] w38 w41 ∧
 ((!b39 == b42) = true → R (Ending.returned (Value.bool false)) w41) ∧
 ((!b39 == b42) = false →
 J19 (IntKind.i64.wrap (x21 + 1), ()) w41 ∧ J20 (IntKind.i64.wrap (x21 + 1), ()) w41 < J20 (x21, ()) w22))) ∧
 (decide (x21 ≤ 3) = false →
 Calls Proofs.Try.prog 14 #[Value.slice va vn vc] w22 fun (e43 : Ending) (w44 : World) =>
 ∃ (b45 : Bool),
 e43 = Ending.returned (Value.bool b45) ∧
 Keeps [n1, n2] w22 w44 ∧
 ((!b45) = true →
 Calls Proofs.Try.prog 8 #[] w44 fun (e46 : Ending) (w47 : World) =>
 ∃ (b48 : Bool), e46 = Ending.returned (Value.bool b48) ∧ Keeps [n1, n2] w44 w47 ∧ R (Ending.returned (Value.bool b48)) w47) ∧
 ((!b45) = false →
 ∀ (w49 : World),
 Bel w44 w49 →
 Under [n1, n2] w49 →
 Calls Proofs.Try.prog 15
 #[Value.agg
 #[Value.int IntKind.i64 b_0, Value.int IntKind.i64 b_1, Value.int IntKind.i64 b_2, Value.int IntKind.i64 b_3, Value.int IntKind.i64 b_4,
 Value.int IntKind.i64 b_5, Value.int IntKind.i64 b_6, Value.int IntKind.i64 b_7, Value.int IntKind.i64 b_8],
 Value.slice va vn vc]
 w49 fun (e50 : Ending) (w51 : World) =>
 ∃ (b52 : Bool),
 e50 = Ending.returned (Value.bool b52) ∧
 Keeps [n1, n2] w49 w51 ∧
 Calls Proofs.Try.prog 16
 #[Value.agg
 #[Value.int IntKind.i64 b_0, Value.int IntKind.i64 b_1, Value.int IntKind.i64 b_2, Value.int IntKind.i64 b_3, Value.int IntKind.i64 b_4,
 Value.int IntKind.i64 b_5, Value.int IntKind.i64 b_6, Value.int IntKind.i64 b_7, Value.int IntKind.i64 b_8],
 Value.slice va vn vc]
 w51 fun (e53 : Ending) (w54 : World) =>
 ∃ (b55 : Bool),
 e53 = Ending.returned (Value.bool b55) ∧
 Keeps [n1, n2] w51 w54 ∧
 ((b52 == b55) = true →
 Calls Proofs.Try.prog 12
 #[Value.agg
 #[Value.int IntKind.i64 b_0, Value.int IntKind.i64 b_1, Value.int IntKind.i64 b_2, Value.int IntKind.i64 b_3, Value.int IntKind.i64 b_4,
 Value.int IntKind.i64 b_5, Value.int IntKind.i64 b_6, Value.int IntKind.i64 b_7, Value.int IntKind.i64 b_8, Value.int IntKind.i64 b_9,
 Value.int IntKind.i64 b_10, Value.slice b_11a b_11n b_11c, Value.slice b_12a b_12n b_12c, Value.slice b_13a b_13n b_13c,
 Value.slice b_14a b_14n b_14c, Value.slice b_15a b_15n b_15c],
 Value.int IntKind.i64 ids_0, Value.int IntKind.i64 ids_1, Value.slice va vn vc]
 w54 fun (e56 : Ending) (w57 : World) =>
 ∃ (b58 : Bool),
 e56 = Ending.returned (Value.bool b58) ∧
 Keeps [n1, n2] w54 w57 ∧
 Calls Proofs.Try.prog 13
 #[Value.agg
 #[Value.int IntKind.i64 b_0, Value.int IntKind.i64 b_1, Value.int IntKind.i64 b_2, Value.int IntKind.i64 b_3,
 Value.int IntKind.i64 b_4, Value.int IntKind.i64 b_5, Value.int IntKind.i64 b_6, Value.int IntKind.i64 b_7,
 Value.int IntKind.i64 b_8, Value.int IntKind.i64 b_9, Value.int IntKind.i64 b_10, Value.slice b_11a b_11n b_11c,
 Value.slice b_12a b_12n b_12c, Value.slice b_13a b_13n b_13c, Value.slice b_14a b_14n b_14c, Value.slice b_15a b_15n b_15c],
 Value.int IntKind.i64 ids_0, Value.int IntKind.i64 ids_1, Value.slice va vn vc]
 w57 fun (e59 : Ending) (w60 : World) =>
 ∃ (b61 : Bool),
 e59 = Ending.returned (Value.bool b61) ∧
 Keeps [n1, n2] w57 w60 ∧
 ((b58 == b61) = true →
 Calls Proofs.Try.prog 8 #[] w60 fun (e62 : Ending) (w63 : World) =>
 ∃ (b64 : Bool),
 e62 = Ending.returned (Value.bool b64) ∧ Keeps [n1, n2] w60 w63 ∧ R (Ending.returned (Value.bool b64)) w63) ∧
 ((b58 == b61) = false → R (Ending.returned (Value.bool false)) w60)) ∧
 ((b52 == b55) = false → R (Ending.returned (Value.bool false)) w54))))))
theorem f3_eq (b_0 : Int) (b_1 : Int) (b_2 : Int) (b_3 : Int) (b_4 : Int) (b_5 : Int) (b_6 : Int) (b_7 : Int) (b_8 : Int) (b_9 : Int) (b_10 : Int) (b_11a : Option Addr) (b_11n : Nat) (b_11c : Nat) (b_12a : Option Addr) (b_12n : Nat) (b_12c : Nat) (b_13a : Option Addr) (b_13n : Nat) (b_13c : Nat) (b_14a : Option Addr) (b_14n : Nat) (b_14c : Nat) (b_15a : Option Addr) (b_15n : Nat) (b_15c : Nat) (ids_0 : Int) (ids_1 : Int) (va : Option Addr) (vn : Nat) (vc : Nat) (w : World) (R : Ending → World → Prop) : (fnF Go.Proofs.Try.prog h3 Go.Proofs.Try.f3 [Value.agg
 #[Value.int IntKind.i64 b_0, Value.int IntKind.i64 b_1, Value.int IntKind.i64 b_2, Value.int IntKind.i64 b_3, Value.int IntKind.i64 b_4, Value.int IntKind.i64 b_5, Value.int IntKind.i64 b_6, Value.int IntKind.i64 b_7,
 Value.int IntKind.i64 b_8, Value.int IntKind.i64 b_9, Value.int IntKind.i64 b_10, Value.slice b_11a b_11n b_11c, Value.slice b_12a b_12n b_12c, Value.slice b_13a b_13n b_13c, Value.slice b_14a b_14n b_14c,
 Value.slice b_15a b_15n b_15c],
 Value.agg #[Value.int IntKind.i64 ids_0, Value.int IntKind.i64 ids_1], Value.slice va vn vc] w R).den = f3_vc b_0 b_1 b_2 b_3 b_4 b_5 b_6 b_7 b_8 b_9 b_10 b_11a b_11n b_11c b_12a b_12n b_12c b_13a b_13n b_13c b_14a b_14n b_14c b_15a b_15n b_15c ids_0 ids_1 va vn vc w R := by kernel_rfl
theorem f3_calls (b_0 : Int) (b_1 : Int) (b_2 : Int) (b_3 : Int) (b_4 : Int) (b_5 : Int) (b_6 : Int) (b_7 : Int) (b_8 : Int) (b_9 : Int) (b_10 : Int) (b_11a : Option Addr) (b_11n : Nat) (b_11c : Nat) (b_12a : Option Addr) (b_12n : Nat) (b_12c : Nat) (b_13a : Option Addr) (b_13n : Nat) (b_13c : Nat) (b_14a : Option Addr) (b_14n : Nat) (b_14c : Nat) (b_15a : Option Addr) (b_15n : Nat) (b_15c : Nat) (ids_0 : Int) (ids_1 : Int) (va : Option Addr) (vn : Nat) (vc : Nat) (w : World) (R : Ending → World → Prop) (h : f3_vc b_0 b_1 b_2 b_3 b_4 b_5 b_6 b_7 b_8 b_9 b_10 b_11a b_11n b_11c b_12a b_12n b_12c b_13a b_13n b_13c b_14a b_14n b_14c b_15a b_15n b_15c ids_0 ids_1 va vn vc w R) : Calls Go.Proofs.Try.prog 3 (List.toArray [Value.agg
 #[Value.int IntKind.i64 b_0, Value.int IntKind.i64 b_1, Value.int IntKind.i64 b_2, Value.int IntKind.i64 b_3, Value.int IntKind.i64 b_4, Value.int IntKind.i64 b_5, Value.int IntKind.i64 b_6, Value.int IntKind.i64 b_7,
 Value.int IntKind.i64 b_8, Value.int IntKind.i64 b_9, Value.int IntKind.i64 b_10, Value.slice b_11a b_11n b_11c, Value.slice b_12a b_12n b_12c, Value.slice b_13a b_13n b_13c, Value.slice b_14a b_14n b_14c,
 Value.slice b_15a b_15n b_15c],
 Value.agg #[Value.int IntKind.i64 ids_0, Value.int IntKind.i64 ids_1], Value.slice va vn vc]) w R :=
 fn_sound (H := h3) (fn := Go.Proofs.Try.f3) (by kernel_rfl) (by kernel_rfl) (by kernel_rfl) ((f3_eq b_0 b_1 b_2 b_3 b_4 b_5 b_6 b_7 b_8 b_9 b_10 b_11a b_11n b_11c b_12a b_12n b_12c b_13a b_13n b_13c b_14a b_14n b_14c b_15a b_15n b_15c ids_0 ids_1 va vn vc w R).mpr h)


/-! manciple/manciplelaw17.ViewEligible -/
def h4 : Hints := ⟨[2], [43, 53], [15, 18, 31, 36, 59, 11, 67, 73], [(12, [0, 1, 2, 3, 4, 5, 6, 7, 8, 10, 11, 12, 13, 14, 15, 16, 17, 18, 9, 19, 20]), (14, [0, 1, 3, 4, 2, 5, 6, 7, 8, 9, 10, 11, 12, 13, 14, 15, 16])], [], [(4, ⟨[(5, .int .i64)], []⟩), (10, ⟨[(7, .int .i64)], []⟩)], [], [], []⟩
def f4_vc (b_0 : Int) (b_1 : Int) (b_2 : Int) (b_3 : Int) (b_4 : Int) (b_5 : Int) (b_6 : Int) (b_7 : Int) (b_8 : Int) (b_9 : Int) (b_10 : Int) (b_11a : Option Addr) (b_11n : Nat) (b_11c : Nat) (b_12a : Option Addr) (b_12n : Nat) (b_12c : Nat) (b_13a : Option Addr) (b_13n : Nat) (b_13c : Nat) (b_14a : Option Addr) (b_14n : Nat) (b_14c : Nat) (b_15a : Option Addr) (b_15n : Nat) (b_15c : Nat) (agent : Int) (w : World) (R : Ending → World → Prop) : Prop :=
 ∀ (n1 : Nat),
 w.heap.size ≤ n1 →
 ∀ (w2 : World),
 Bel w w2 →
 Under [n1] w2 →
 Calls Proofs.Try.prog 6
 #[Value.agg
 #[Value.int IntKind.i64 b_0, Value.int IntKind.i64 b_1, Value.int IntKind.i64 b_2, Value.int IntKind.i64 b_3, Value.int IntKind.i64 b_4, Value.int IntKind.i64 b_5, Value.int IntKind.i64 b_6, Value.int IntKind.i64 b_7,
 Value.int IntKind.i64 b_8, Value.int IntKind.i64 b_9, Value.int IntKind.i64 b_10, Value.slice b_11a b_11n b_11c, Value.slice b_12a b_12n b_12c, Value.slice b_13a b_13n b_13c, Value.slice b_14a b_14n b_14c,
 Value.slice b_15a b_15n b_15c]]
 w2 fun (e3 : Ending) (w4 : World) =>
 ∃ (b5 : Bool),
 e3 = Ending.returned (Value.bool b5) ∧
 Keeps [n1] w2 w4 ∧
 ((!b5) = true → Calls Proofs.Try.prog 8 #[] w4 fun (e6 : Ending) (w7 : World) => ∃ (b8 : Bool), e6 = Ending.returned (Value.bool b8) ∧ Keeps [n1] w4 w7 ∧ R (Ending.returned (Value.bool b8)) w7) ∧
 ((!b5) = false →
 Calls Proofs.Try.prog 7
 #[Value.agg
 #[Value.int IntKind.i64 b_0, Value.int IntKind.i64 b_1, Value.int IntKind.i64 b_2, Value.int IntKind.i64 b_3, Value.int IntKind.i64 b_4, Value.int IntKind.i64 b_5, Value.int IntKind.i64 b_6,
 Value.int IntKind.i64 b_7, Value.int IntKind.i64 b_8, Value.int IntKind.i64 b_9, Value.int IntKind.i64 b_10, Value.slice b_11a b_11n b_11c, Value.slice b_12a b_12n b_12c, Value.slice b_13a b_13n b_13c,
 Value.slice b_14a b_14n b_14c, Value.slice b_15a b_15n b_15c]]
 w4 fun (e9 : Ending) (w10 : World) =>
 ∃ (x11 : Int),
 e9 = Ending.returned (Value.int IntKind.i64 x11) ∧
 Keeps [n1] w4 w10 ∧
 ((x11 != 0) = true → Calls Proofs.Try.prog 8 #[] w10 fun (e12 : Ending) (w13 : World) => ∃ (b14 : Bool), e12 = Ending.returned (Value.bool b14) ∧ Keeps [n1] w10 w13 ∧ R (Ending.returned (Value.bool b14)) w13) ∧
 ((x11 != 0) = false →
 ∃ (J15 : Int × Unit → World → Prop),
 ∃ (J16 : Int × Unit → World → Nat),
 J15 (0, ()) w10 ∧
 ∀ (x17 : Int) (w18 : World),
 J15 (x17, ()) w18 →
 (decide (x17 ≤ 3) = true →
 Calls Proofs.Try.prog 17
 #[Value.agg
 #[Value.int IntKind.i64 b_0, Value.int IntKind.i64 b_1, Value.int IntKind.i64 b_2, Value.int IntKind.i64 b_3, Value.int IntKind.i64 b_4, Value.int IntKind.i64 b_5,
 Value.int IntKind.i64 b_6, Value.int IntKind.i64 b_7, Value.int IntKind.i64 b_8, Value.int IntKind.i64 b_9, Value.int IntKind.i64 b_10, Value.slice b_11a b_11n b_11c,
 Value.slice b_12a b_12n b_12c, Value.slice b_13a b_13n b_13c, Value.slice b_14a b_14n b_14c, Value.slice b_15a b_15n b_15c],
 Value.int IntKind.i64 agent, Value.int IntKind.i64 x17]
 w18 fun (e19 : Ending) (w20 : World) =>
 ∃ (a21 : Option Addr),
 ∃ (n22 : Nat),
 ∃ (n23 : Nat),
 e19 = Ending.returned (Value.slice a21 n22 n23) ∧
 Keeps [n1] w18 w20 ∧
 Calls Proofs.Try.prog 19
 #[Value.agg
 #[Value.int IntKind.i64 b_0, Value.int IntKind.i64 b_1, Value.int IntKind.i64 b_2, Value.int IntKind.i64 b_3, Value.int IntKind.i64 b_4, Value.int IntKind.i64 b_5,
 Value.int IntKind.i64 b_6, Value.int IntKind.i64 b_7, Value.int IntKind.i64 b_8, Value.int IntKind.i64 b_9, Value.int IntKind.i64 b_10, Value.slice b_11a b_11n b_11c,
 Value.slice b_12a b_12n b_12c, Value.slice b_13a b_13n b_13c, Value.slice b_14a b_14n b_14c, Value.slice b_15a b_15n b_15c],
 Value.int IntKind.i64 agent, Value.int IntKind.i64 x17]
 w20 fun (e24 : Ending) (w25 : World) =>
 ∃ (a26 : Option Addr),
 ∃ (n27 : Nat),
 ∃ (n28 : Nat),
 e24 = Ending.returned (Value.slice a26 n27 n28) ∧
 Keeps [n1] w20 w25 ∧
 Calls Proofs.Try.prog 18 #[Value.slice a26 n27 n28, Value.slice a21 n22 n23] w25 fun (e29 : Ending) (w30 : World) =>
 ∃ (b31 : Bool),
 e29 = Ending.returned (Value.bool b31) ∧
 Keeps [n1] w25 w30 ∧
 ((!b31) = true → R (Ending.returned (Value.bool false)) w30) ∧
 ((!b31) = false →
 ∃ (J32 : Int × Unit → World → Prop),
 ∃ (J33 : Int × Unit → World → Nat),
 J32 (0, ()) w30 ∧
 ∀ (x34 : Int) (w35 : World),
 J32 (x34, ()) w35 →
 (decide (x34 < (↑b_11n : Int)) = true →
 ∃ (ad36 : Addr),
 Gives Proofs.Try.prog (Instr.indexAt 25 (Value.slice b_11a b_11n b_11c) (Value.int IntKind.i64 x34)) (Value.pointer (some ad36)) ∧
 ∃ (x37 : Int),
 Reads Proofs.Try.prog [] (Instr.loadAt 2 (Value.pointer (some ad36))) w35 (Value.int IntKind.i64 x37) ∧
 ∃ (ad38 : Addr),
 Gives Proofs.Try.prog (Instr.indexAt 25 (Value.slice b_11a b_11n b_11c) (Value.int IntKind.i64 x34)) (Value.pointer (some ad38)) ∧
 ∃ (x39 : Int),
 Reads Proofs.Try.prog [] (Instr.loadAt 2 (Value.pointer (some ad38))) w35 (Value.int IntKind.i64 x39) ∧
 ∀ (w40 : World),
 Bel w35 w40 →
 Under [n1] w40 →
 Calls Proofs.Try.prog 20
 #[Value.agg
 #[Value.int IntKind.i64 b_0, Value.int IntKind.i64 b_1, Value.int IntKind.i64 b_2, Value.int IntKind.i64 b_3,
 Value.int IntKind.i64 b_4, Value.int IntKind.i64 b_5, Value.int IntKind.i64 b_6, Value.int IntKind.i64 b_7,
 Value.int IntKind.i64 b_8, Value.int IntKind.i64 b_9, Value.int IntKind.i64 b_10, Value.slice b_11a b_11n b_11c,
 Value.slice b_12a b_12n b_12c, Value.slice b_13a b_13n b_13c, Value.slice b_14a b_14n b_14c,
 Value.slice b_15a b_15n b_15c],
 Value.int IntKind.i64 x37, Value.int IntKind.i64 agent, Value.int IntKind.i64 x17]
 w40 fun (e41 : Ending) (w42 : World) =>
 ∃ (b43 : Bool),
 e41 = Ending.returned (Value.bool b43) ∧
 Keeps [n1] w40 w42 ∧
 Reads Proofs.Try.prog [] (Instr.loadAt 2 (Value.pointer (some ad38))) w42 (Value.int IntKind.i64 x39) ∧
 Calls Proofs.Try.prog 21
 #[Value.agg
 #[Value.int IntKind.i64 b_0, Value.int IntKind.i64 b_1, Value.int IntKind.i64 b_2,
 Value.int IntKind.i64 b_3, Value.int IntKind.i64 b_4, Value.int IntKind.i64 b_5,
 Value.int IntKind.i64 b_6, Value.int IntKind.i64 b_7, Value.int IntKind.i64 b_8,
 Value.int IntKind.i64 b_9, Value.int IntKind.i64 b_10, Value.slice b_11a b_11n b_11c,
 Value.slice b_12a b_12n b_12c, Value.slice b_13a b_13n b_13c, Value.slice b_14a b_14n b_14c,
 Value.slice b_15a b_15n b_15c],
 Value.int IntKind.i64 x39, Value.int IntKind.i64 agent, Value.int IntKind.i64 x17]
 w42 fun (e44 : Ending) (w45 : World) =>
 ∃ (b46 : Bool),
 e44 = Ending.returned (Value.bool b46) ∧
 Keeps [n1] w42 w45 ∧
 ((!b43 == b46) = true → R (Ending.returned (Value.bool false)) w45) ∧
 ((!b43 == b46) = false →
 J32 (IntKind.i64.wrap (x34 + 1), ()) w45 ∧
 J33 (IntKind.i64.wrap (x34 + 1), ()) w45 < J33 (x34, ()) w35)) ∧
 (decide (x34 < (↑b_11n : Int)) = false →
 J15 (IntKind.i64.wrap (x17 + 1), ()) w35 ∧ J16 (IntKind.i64.wrap (x17 + 1), ()) w35 < J16 (x17, ()) w18))) ∧
 (decide (x17 ≤ 3) = false →
 ∀ (w47 : World),
 Bel w18 w47 →
 Under [n1] w47 →
 Calls Proofs.Try.prog 22
 #[Value.agg
 #[Value.int IntKind.i64 b_0, Value.int IntKind.i64 b_1, Value.int IntKind.i64 b_2, Value.int IntKind.i64 b_3, Value.int IntKind.i64 b_4, Value.int IntKind.i64 b_5,
 Value.int IntKind.i64 b_6, Value.int IntKind.i64 b_7, Value.int IntKind.i64 b_8, Value.int IntKind.i64 b_9, Value.int IntKind.i64 b_10, Value.slice b_11a b_11n b_11c,
 Value.slice b_12a b_12n b_12c, Value.slice b_13a b_13n b_13c, Value.slice b_14a b_14n b_14c, Value.slice b_15a b_15n b_15c],
 Value.int IntKind.i64 agent]
 w47 fun (e48 : Ending) (w49 : World) =>
 ∃ (b50 : Bool),
 e48 = Ending.returned (Value.bool b50) ∧
 Keeps [n1] w47 w49 ∧
 Calls Proofs.Try.prog 23
 #[Value.agg
 #[Value.int IntKind.i64 b_0, Value.int IntKind.i64 b_1, Value.int IntKind.i64 b_2, Value.int IntKind.i64 b_3, Value.int IntKind.i64 b_4, Value.int IntKind.i64 b_5,
 Value.int IntKind.i64 b_6, Value.int IntKind.i64 b_7, Value.int IntKind.i64 b_8, Value.int IntKind.i64 b_9, Value.int IntKind.i64 b_10, Value.slice b_11a b_11n b_11c,
 Value.slice b_12a b_12n b_12c, Value.slice b_13a b_13n b_13c, Value.slice b_14a b_14n b_14c, Value.slice b_15a b_15n b_15c],
 Value.int IntKind.i64 agent]
 w49 fun (e51 : Ending) (w52 : World) =>
 ∃ (b53 : Bool),
 e51 = Ending.returned (Value.bool b53) ∧
 Keeps [n1] w49 w52 ∧
 ((b50 == b53) = true →
 Calls Proofs.Try.prog 20
 #[Value.agg
 #[Value.int IntKind.i64 b_0, Value.int IntKind.i64 b_1, Value.int IntKind.i64 b_2, Value.int IntKind.i64 b_3, Value.int IntKind.i64 b_4,
 Value.int IntKind.i64 b_5, Value.int IntKind.i64 b_6, Value.int IntKind.i64 b_7, Value.int IntKind.i64 b_8, Value.int IntKind.i64 b_9,
 Value.int IntKind.i64 b_10, Value.slice b_11a b_11n b_11c, Value.slice b_12a b_12n b_12c, Value.slice b_13a b_13n b_13c, Value.slice b_14a b_14n b_14c,
 Value.slice b_15a b_15n b_15c],
 Value.int IntKind.i64 0, Value.int IntKind.i64 agent, Value.int IntKind.i64 1]
 w52 fun (e54 : Ending) (w55 : World) =>
 ∃ (b56 : Bool),
 e54 = Ending.returned (Value.bool b56) ∧
 Keeps [n1] w52 w55 ∧
 ((!b56) = true →
 Calls Proofs.Try.prog 8 #[] w55 fun (e57 : Ending) (w58 : World) =>
 ∃ (b59 : Bool), e57 = Ending.returned (Value.bool b59) ∧ Keeps [n1] w55 w58 ∧ R (Ending.returned (Value.bool b59)) w58) ∧
 ((!b56) = false → R (Ending.returned (Value.bool false)) w55)) ∧
 ((b50 == b53) = false → R (Ending.returned (Value.bool false)) w52))))
theorem f4_eq (b_0 : Int) (b_1 : Int) (b_2 : Int) (b_3 : Int) (b_4 : Int) (b_5 : Int) (b_6 : Int) (b_7 : Int) (b_8 : Int) (b_9 : Int) (b_10 : Int) (b_11a : Option Addr) (b_11n : Nat) (b_11c : Nat) (b_12a : Option Addr) (b_12n : Nat) (b_12c : Nat) (b_13a : Option Addr) (b_13n : Nat) (b_13c : Nat) (b_14a : Option Addr) (b_14n : Nat) (b_14c : Nat) (b_15a : Option Addr) (b_15n : Nat) (b_15c : Nat) (agent : Int) (w : World) (R : Ending → World → Prop) : (fnF Go.Proofs.Try.prog h4 Go.Proofs.Try.f4 [Value.agg
 #[Value.int IntKind.i64 b_0, Value.int IntKind.i64 b_1, Value.int IntKind.i64 b_2, Value.int IntKind.i64 b_3, Value.int IntKind.i64 b_4, Value.int IntKind.i64 b_5, Value.int IntKind.i64 b_6, Value.int IntKind.i64 b_7,
 Value.int IntKind.i64 b_8, Value.int IntKind.i64 b_9, Value.int IntKind.i64 b_10, Value.slice b_11a b_11n b_11c, Value.slice b_12a b_12n b_12c, Value.slice b_13a b_13n b_13c, Value.slice b_14a b_14n b_14c,
 Value.slice b_15a b_15n b_15c],
 Value.int IntKind.i64 agent] w R).den = f4_vc b_0 b_1 b_2 b_3 b_4 b_5 b_6 b_7 b_8 b_9 b_10 b_11a b_11n b_11c b_12a b_12n b_12c b_13a b_13n b_13c b_14a b_14n b_14c b_15a b_15n b_15c agent w R := by kernel_rfl
theorem f4_calls (b_0 : Int) (b_1 : Int) (b_2 : Int) (b_3 : Int) (b_4 : Int) (b_5 : Int) (b_6 : Int) (b_7 : Int) (b_8 : Int) (b_9 : Int) (b_10 : Int) (b_11a : Option Addr) (b_11n : Nat) (b_11c : Nat) (b_12a : Option Addr) (b_12n : Nat) (b_12c : Nat) (b_13a : Option Addr) (b_13n : Nat) (b_13c : Nat) (b_14a : Option Addr) (b_14n : Nat) (b_14c : Nat) (b_15a : Option Addr) (b_15n : Nat) (b_15c : Nat) (agent : Int) (w : World) (R : Ending → World → Prop) (h : f4_vc b_0 b_1 b_2 b_3 b_4 b_5 b_6 b_7 b_8 b_9 b_10 b_11a b_11n b_11c b_12a b_12n b_12c b_13a b_13n b_13c b_14a b_14n b_14c b_15a b_15n b_15c agent w R) : Calls Go.Proofs.Try.prog 4 (List.toArray [Value.agg
 #[Value.int IntKind.i64 b_0, Value.int IntKind.i64 b_1, Value.int IntKind.i64 b_2, Value.int IntKind.i64 b_3, Value.int IntKind.i64 b_4, Value.int IntKind.i64 b_5, Value.int IntKind.i64 b_6, Value.int IntKind.i64 b_7,
 Value.int IntKind.i64 b_8, Value.int IntKind.i64 b_9, Value.int IntKind.i64 b_10, Value.slice b_11a b_11n b_11c, Value.slice b_12a b_12n b_12c, Value.slice b_13a b_13n b_13c, Value.slice b_14a b_14n b_14c,
 Value.slice b_15a b_15n b_15c],
 Value.int IntKind.i64 agent]) w R :=
 fn_sound (H := h4) (fn := Go.Proofs.Try.f4) (by kernel_rfl) (by kernel_rfl) (by kernel_rfl) ((f4_eq b_0 b_1 b_2 b_3 b_4 b_5 b_6 b_7 b_8 b_9 b_10 b_11a b_11n b_11c b_12a b_12n b_12c b_13a b_13n b_13c b_14a b_14n b_14c b_15a b_15n b_15c agent w R).mpr h)

end Vcw

/- The law of view.V, Big and Blocked, walked. -/
set_option maxRecDepth 20000
set_option maxHeartbeats 1000000
namespace Go.Vc.W
open Go Go.Vc Go.Vc.V Go.RowKit Go.Proofs Vcw

variable {w W W' : World} {M : Nat → Prop} {gs : List Nat}

theorem bne_self {b : Bool} : (!b == b) = false := by cases b <;> rfl
theorem step4 {x : Int} (h0 : 0 ≤ x) (h : x ≤ 3) : IntKind.i64.wrap (x + 1) = x + 1 := wrap_i64 (by omega) (by omega)
theorem law3 {b : BkA} {d : BkD} (i0 i1 : Int) {v : List PartT} {a : Option Addr} {n c : Nat} (w : World) (hb : Bk w b d) (hv : SlE w 3 partE v a n c) : Ret Try.prog 3 #[b.v, .agg #[.int .i64 i0, .int .i64 i1], .slice a n c] w (.bool true) := by
  intro R h
  refine f3_calls _ _ _ _ _ _ _ _ _ _ _ _ _ _ _ _ _ _ _ _ _ _ _ _ _ _ i0 i1 a n c w R ?_
  unfold f3_vc
  intro n1 hn1 n2 hn2 w3 hb3 hun3
  have hA : At w [n1, n2] w3 := ⟨((At.refl w).call hb3).chg, hun3⟩
  have fin : ∀ {W}, At w [n1, n2] W → Calls Try.prog 8 #[] W fun e w' => ∃ b : Bool, e = .returned (.bool b) ∧ Keeps [n1, n2] W w' ∧ R (.returned (.bool b)) w' := fun hA => at_callb hA (c8 _) fun w8 hA hk _ => ⟨_, rfl, hk, leaf h hA rfl⟩
  refine at_callq hA (c6 w3 (hb.call hA.below)) fun _ w5 hA hk _ ⟨few, e⟩ => ?_
  subst e
  refine ⟨_, rfl, hk, brNB (fun _ => fin hA) (fun _ => ?_)⟩
  refine at_callq hA (c7 w5 (hb.call hA.below)) fun _ w11 hA hk _ ⟨rule, e, hmin⟩ => ?_
  subst e
  refine ⟨_, rfl, hk, brN (fun _ => fin hA) (fun hz => brD (fun _ => fin hA) (fun _ => ?_))⟩
  have hmin := (hmin hz).1
  refine ⟨fun s W' => At w [n1, n2] W' ∧ 0 ≤ s.1, fun s _ => (4 - s.1).toNat, ⟨hA, by decide⟩, ?_⟩
  rintro x w22 ⟨hA, hx0⟩
  simp only at hx0
  refine brD (fun hx => ?_) (fun hx => ?_)
  · refine at_calll hA (c9 i0 i1 x w22 (hb.call hA.below)) (fun _ _ => rfl) fun a9 c9 w24 hA hk _ ho9 s9 => ⟨_, _, _, rfl, hk, ?_⟩
    intro w28 hb28 hun28
    have hA : At w [n1, n2] w28 := ⟨(hA.call hb28).chg, hun28⟩
    refine at_calll hA (c11 i0 i1 x w28 (hb.call hA.below)) (fun _ _ => rfl) fun a11 c11 w30 hA hk hb30 ho11 s11 => ⟨_, _, _, rfl, hk, ?_⟩
    have s9 := (s9.call hb28).call hb30
    refine at_callb hA (c10 w30 s11 s9) fun w35 hA hk hb35 => ⟨_, rfl, hk, brB (fun hf => by simp at hf) (fun _ => ?_)⟩
    have s9 := s9.call hb35
    refine at_callb hA (c12 i0 i1 w35 (hb.call hA.below) s9) fun w38 hA hk hb38 => ⟨_, rfl, hk, ?_⟩
    refine at_callb hA (c13 i0 i1 w38 (hb.call hA.below) (s9.call hb38)) fun w41 hA hk hb41 => ⟨_, rfl, hk, brB (fun hf => ?_) (fun _ => ?_)⟩
    · rw [blocked_eq, bne_self] at hf
      cases hf
    · rw [step4 hx0 hx]
      exact ⟨⟨hA, by simp only; omega⟩, by simp only; omega⟩
  · refine at_callb hA (c14 w22 (hv.call hA.below)) fun w44 hA hk _ => ⟨_, rfl, hk, brNB (fun _ => fin hA) (fun _ => ?_)⟩
    intro w49 hb49 hun49
    have hA : At w [n1, n2] w49 := ⟨(hA.call hb49).chg, hun49⟩
    refine at_callb hA (c15 b w49 (hv.call hA.below)) fun w51 hA hk _ => ⟨_, rfl, hk, ?_⟩
    refine at_callb hA (c16 b w51 (hv.call hA.below)) fun w54 hA hk _ => ⟨_, rfl, hk, brB (fun _ => ?_) (fun hf => ?_)⟩
    · refine at_callb hA (c12 i0 i1 w54 (hb.call hA.below) (hv.call hA.below)) fun w57 hA hk _ => ⟨_, rfl, hk, ?_⟩
      refine at_callb hA (c13 i0 i1 w57 (hb.call hA.below) (hv.call hA.below)) fun w60 hA hk _ => ⟨_, rfl, hk, brB (fun _ => fin hA) (fun hf => ?_)⟩
      rw [blocked_eq, beq_self_eq_true] at hf
      cases hf
    · rw [big_eq v hmin, beq_self_eq_true] at hf
      cases hf
end Go.Vc.W

/- The reference's Eligible, Those, Quiet and SameIDs; the law of Eligible, Those and Quiet, walked. -/
set_option maxRecDepth 20000
set_option maxHeartbeats 1000000
namespace Go.Vc.W
open Go Go.Vc Go.Vc.V Go.RowKit Go.Proofs Vcw

variable {w W W' : World} {M : Nat → Prop} {gs : List Nat}

/-- The reference's Eligible. -/
def eligR (b : BkA) (d : BkD) (frame agent pass : Int) : Bool := decide (haveL d frame agent pass ≠ []) && (openAt d (ixOf (·.1) frame d.frs 0) && (bigR b (haveL d frame agent pass) && !blockedL d frame agent (haveL d frame agent pass)))
theorem have_ix {d : BkD} {frame agent pass : Int} (h : haveL d frame agent pass ≠ []) : ¬ ixOf (·.1) frame d.frs 0 < 0 := fun hx => by
  rw [show haveL d frame agent pass = [] by unfold haveL; rw [if_pos (.inl hx)]] at h
  exact h rfl
theorem elig_eq {b : BkA} {d : BkD} (frame agent pass : Int) (hm : minQ b) : eligR b d frame agent pass = eligS b d frame agent pass := by
  unfold eligR eligS
  rw [← big_eq _ hm, blocked_eq]
  by_cases hx : haveL d frame agent pass = []
  · rw [hx]
    simp [bigS]
  · rw [decide_eq_true hx, Bool.true_and]
    cases openAt d (ixOf (fun x => x.1) frame d.frs 0) <;> cases bigS b (haveL d frame agent pass) <;> simp
theorem c21 {b : BkA} {d : BkD} (frame agent pass : Int) (w : World) (hb : Bk w b d) : Ret Try.prog 21 #[b.v, .int .i64 frame, .int .i64 agent, .int .i64 pass] w (.bool (eligR b d frame agent pass)) := by
  intro R h
  refine f21_calls _ _ _ _ _ _ _ _ _ _ _ _ _ _ _ _ _ _ _ _ _ _ _ _ _ _ frame agent pass w R ?_
  unfold f21_vc
  unfold eligR at h
  intro n1 hn1 w2 hb2 hun2
  have hA : At w [n1] w2 := ⟨((At.refl w).call hb2).chg, hun2⟩
  refine at_calll hA (c9 frame agent pass w2 (hb.call hA.below)) (fun _ _ => rfl) fun a c w4 hA hk _ ho hs => ⟨_, _, _, rfl, hk, ?_⟩
  refine at_callb hA (c37 frame w4 (hb.call hA.below)) fun w9 hA hk hb9 => ⟨_, rfl, hk, brD (fun hpos => ?_) (fun hz => leaf h hA ?_)⟩
  · have hne : haveL d frame agent pass ≠ [] := fun e => by rw [e] at hpos; simp at hpos
    rw [decide_eq_true hne, Bool.true_and] at h
    have hs := hs.call hb9
    have hix := have_ix hne
    rcases ixOf_range (k := fun x : FrT => x.1) (id := frame) d.frs 0 with hneg | ⟨j, hj, _, hjl⟩
    · exact absurd hneg hix
    obtain ⟨f, hf⟩ : ∃ x, d.frs[j]? = some x := ⟨_, List.getElem?_eq_getElem (by omega)⟩
    obtain ⟨ad, g1, el, _⟩ := elt_at (P := Try.prog) (k := .i64) (t := 25) (hb.call hA.below).fr hf (e := 48) (by kernel_rfl) (by kernel_rfl)
    have eo : openAt d (ixOf (fun x => x.1) frame d.frs 0) = (f.2.2.2.1 && !f.2.2.2.2.1) := by
      unfold openAt
      rw [hj, Int.toNat_natCast, hf]
      rfl
    rw [eo] at h
    rw [hj]
    refine ⟨ad, g1, _, (el.sub (o := 3) (by decide)).one (by kernel_rfl) (by simp), brB (fun hup => ?_) (fun hup => leaf h hA (by rw [hup]; rfl))⟩
    refine ⟨ad, g1, _, (el.sub (o := 4) (by decide)).one (by kernel_rfl) (by simp), brNB (fun hq => ?_) (fun hq => leaf h hA (by rw [hup, hq]; rfl))⟩
    rw [hup, hq] at h
    simp only [Bool.not_false, Bool.and_self, Bool.true_and] at h
    refine at_callb hA (c16 b w9 hs) fun w16 hA hk hb16 => ⟨_, rfl, hk, brB (fun hbig => ?_) (fun hbig => leaf h hA (by rw [hbig]; rfl))⟩
    rw [hbig, Bool.true_and] at h
    exact at_callb hA (c13 frame agent w16 (hb.call hA.below) (hs.call hb16)) fun w19 hA hk _ => ⟨_, rfl, hk, leaf h hA rfl⟩
  · have he : haveL d frame agent pass = [] := List.length_eq_zero_iff.1 (by omega)
    rw [he]
    rfl
def thoseR (b : BkA) (d : BkD) (agent pass : Int) (l : List FrT) : List Int := (l.filter fun f => eligR b d f.1 agent pass).map (·.1)
theorem those_eq {b : BkA} {d : BkD} (agent pass : Int) (l : List FrT) (hm : minQ b) : thoseR b d agent pass l = thoseL b d agent pass l := by
  unfold thoseR thoseL
  simp only [elig_eq _ _ _ hm]
theorem c17 {b : BkA} {d : BkD} (agent pass : Int) (w : World) (hb : Bk w b d) (hl : d.frs.length ≤ 1048576) : RetL Try.prog 17 #[b.v, .int .i64 agent, .int .i64 pass] w 2 1 one (thoseR b d agent pass d.frs) := by
  intro R h
  refine f17_calls _ _ _ _ _ _ _ _ _ _ _ _ _ _ _ _ _ _ _ _ _ _ _ _ _ _ agent pass w R ?_
  unfold f17_vc
  have hn := hb.fr.len_le
  have hn0 := hb.fr.1
  intro n1 hn1
  refine ⟨fun v W => At w [n1] W ∧ ∃ i : Nat, v.2.1 = i ∧ i ≤ d.frs.length ∧ OwnL w [n1] W 2 1 one (.slice v.1.1 v.1.2.1 v.1.2.2) (thoseR b d agent pass (d.frs.take i)), fun v _ => (b.f.2.1 - v.2.1).toNat, fun w4 hb4 hu => ⟨⟨((At.refl w).call hb4).chg, hu⟩, 0, rfl, Nat.zero_le _, OwnL.nil⟩, ?_⟩
  rintro a5 n6 n7 x8 w9 ⟨hA, i, hi, hil, ho⟩
  simp only at hi ho
  subst hi
  refine brD (fun hlt => ?_) (fun hge => leafl h hA ho ?_)
  · obtain ⟨f, hf⟩ : ∃ x, d.frs[i]? = some x := ⟨_, List.getElem?_eq_getElem (by omega)⟩
    have fr : ∀ {W'}, At w [n1] W' → ∃ ad, Gives Try.prog (Instr.indexAt 25 (.slice b.f.1 b.f.2.1 b.f.2.2) (.int .i64 (i : Int))) (.pointer (some ad)) ∧ Elt W' ad (frE f) := fun hA => by
      obtain ⟨ad, g1, el, _⟩ := elt_at (P := Try.prog) (k := .i64) (t := 25) (hb.call hA.below).fr hf (e := 48) (by kernel_rfl) (by kernel_rfl)
      exact ⟨ad, g1, el⟩
    obtain ⟨ad, g1, el⟩ := fr hA
    have htk : d.frs.take (i + 1) = d.frs.take i ++ [f] := by rw [List.take_add_one, hf]; rfl
    have hap : thoseR b d agent pass (d.frs.take (i + 1)) = thoseR b d agent pass (d.frs.take i) ++ (if eligR b d f.1 agent pass = true then [f.1] else []) := by
      unfold thoseR
      rw [htk, List.filter_append, List.map_append]
      congr 1
      by_cases hq : eligR b d f.1 agent pass = true
      · simp [hq]
      · simp [hq]
    have hol : (thoseR b d agent pass (d.frs.take i)).length ≤ i := by
      unfold thoseR
      rw [List.length_map]
      exact Nat.le_trans (List.length_filter_le ..) (by simp; omega)
    refine ⟨ad, g1, _, el.one (by kernel_rfl) (by simp), fun w12 hb12 hu => ?_⟩
    have hA : At w [n1] w12 := ⟨(hA.call hb12).chg, hu⟩
    refine at_callb hA (c21 f.1 agent pass w12 (hb.call hA.below)) fun w14 hA hk hb14 => ⟨_, rfl, hk, ?_⟩
    have ho := (ho.call hb12).call hb14
    rw [succ_i i (by omega)]
    refine brB (fun hq => ?_) (fun hq => ?_)
    · obtain ⟨ad2, g2, el2⟩ := fr hA
      refine ⟨ad2, g2, _, el2.one (by kernel_rfl) (by simp), ?_⟩
      refine opw_push (e' := 2) (bytes := 8) hA ho f.1 (by kernel_rfl) (by kernel_rfl) rfl (fun _ _ => rfl) (fun u hu => by simp at hu; subst hu; rfl) (by omega) (by decide) fun a2 c2 w29 hA ho _ _ => ?_
      refine ⟨⟨hA, i + 1, rfl, by omega, ?_⟩, by simp only; omega⟩
      simp only
      rw [hap, if_pos hq]
      exact ho
    · refine ⟨⟨hA, i + 1, rfl, by omega, ?_⟩, by simp only; omega⟩
      simp only
      rw [hap, if_neg (by rw [hq]; decide), List.append_nil]
      exact ho
  · rw [show i = d.frs.length by omega, List.take_length]
theorem c23 {b : BkA} {d : BkD} (agent : Int) (w : World) (hb : Bk w b d) (hl : d.frs.length ≤ 1048576) : Ret Try.prog 23 #[b.v, .int .i64 agent] w (.bool (decide (thoseR b d agent 1 d.frs = [] ∧ thoseR b d agent 2 d.frs = []))) := by
  intro R h
  refine f23_calls _ _ _ _ _ _ _ _ _ _ _ _ _ _ _ _ _ _ _ _ _ _ _ _ _ _ agent w R ?_
  unfold f23_vc
  intro n1 hn1 w2 hb2 hun2
  have hA : At w [n1] w2 := ⟨((At.refl w).call hb2).chg, hun2⟩
  refine at_calll hA (c17 agent 1 w2 (hb.call hA.below) hl) (fun _ _ => rfl) fun a c w4 hA hk _ ho _ => ⟨_, _, _, rfl, hk, brE (fun hx => ?_) (fun hx => leaf h hA ?_)⟩
  · have e1 : thoseR b d agent 1 d.frs = [] := List.length_eq_zero_iff.1 (by omega)
    refine at_calll hA (c17 agent 2 w4 (hb.call hA.below) hl) (fun _ _ => rfl) fun a c w9 hA hk _ ho _ => ⟨_, _, _, rfl, hk, leaf h hA ?_⟩
    refine congrArg (fun x => Ending.returned (Value.bool x)) ?_
    rw [Bool.eq_iff_iff, decide_eq_true_iff, beq_iff_eq]
    exact ⟨fun hh => ⟨e1, List.length_eq_zero_iff.1 (by omega)⟩, fun hh => by rw [hh.2]; rfl⟩
  · rw [decide_eq_false fun hh => hx (by rw [hh.1]; rfl)]
theorem c18 {l1 l2 : List Int} {a a2 : Option Addr} {n c n2 c2 : Nat} (w : World) (h1 : SlE w 1 one l1 a n c) (h2 : SlE w 1 one l2 a2 n2 c2) : Ret Try.prog 18 #[.slice a n c, .slice a2 n2 c2] w (.bool (decide (l1 = l2))) := by
  intro R h
  refine f18_calls a n c a2 n2 c2 w R ?_
  unfold f18_vc
  have hn := h1.len_le
  have e1 := h1.1
  have e2 := h2.1
  refine brN (fun hne => leaf h (At.refl w) ?_) (fun heq => ?_)
  · rw [decide_eq_false fun e => hne (by rw [e1, e2, e])]
  · have hll : l1.length = l2.length := by omega
    refine ⟨fun s W' => At w [] W' ∧ ∃ i : Nat, s.1 = i ∧ i ≤ l1.length ∧ l1.take i = l2.take i, fun s _ => (n - s.1).toNat, ⟨At.refl w, 0, rfl, Nat.zero_le _, rfl⟩, ?_⟩
    rintro x3 w4 ⟨hA, i, hi, hil, ht⟩
    simp only at hi
    subst hi
    refine brD (fun hlt => ?_) (fun hge => leaf h hA ?_)
    · obtain ⟨p, hp⟩ : ∃ x, l1[i]? = some x := ⟨_, List.getElem?_eq_getElem (by omega)⟩
      obtain ⟨q, hq⟩ : ∃ x, l2[i]? = some x := ⟨_, List.getElem?_eq_getElem (by omega)⟩
      obtain ⟨ad, g1, el, _⟩ := elt_at (P := Try.prog) (k := .i64) (t := 43) (h1.call hA.below) hp (e := 2) (by kernel_rfl) (by kernel_rfl)
      obtain ⟨ad2, g2, el2, _⟩ := elt_at (P := Try.prog) (k := .i64) (t := 43) (h2.call hA.below) hq (e := 2) (by kernel_rfl) (by kernel_rfl)
      refine ⟨ad, g1, _, el.one (by kernel_rfl) (by simp), ad2, g2, _, el2.one (by kernel_rfl) (by simp), brN (fun hne w9 hb9 => leaf h (hA.call hb9) ?_) (fun heq w9 hb9 => ?_)⟩
      · rw [decide_eq_false fun e => hne (by rw [e, hq] at hp; cases hp; rfl)]
      · rw [succ_i i (by omega)]
        refine ⟨⟨hA.call hb9, i + 1, rfl, by omega, ?_⟩, by simp only; omega⟩
        rw [List.take_add_one, List.take_add_one, hp, hq, heq, ht]
    · rw [show i = l1.length by omega, List.take_length, hll, List.take_length] at ht
      rw [decide_eq_true ht]
theorem ix_none {α : Type} {k : α → Int} {id : Int} : ∀ (l : List α) (i : Nat), (∀ x ∈ l, k x ≠ id) → ixOf k id l i = -1
  | [], i, _ => rfl
  | x :: r, i, h => by
    rw [ixOf, if_neg (h x (List.mem_cons_self ..))]
    exact ix_none r (i + 1) fun y hy => h y (List.mem_cons_of_mem _ hy)
theorem elig_none {b : BkA} {d : BkD} (agent pass : Int) (h : ∀ f ∈ d.frs, 1 ≤ f.1) : eligS b d 0 agent pass = false := by
  have e : haveL d 0 agent pass = [] := by
    unfold haveL
    rw [if_pos (.inl (by rw [ix_none d.frs 0 fun x hx => by have := h x hx; omega]; decide))]
  unfold eligS
  rw [e]
  rfl
theorem law4 {b : BkA} {d : BkD} (agent : Int) (w : World) (hb : Bk w b d) : Ret Try.prog 4 #[b.v, .int .i64 agent] w (.bool true) := by
  intro R h
  refine f4_calls _ _ _ _ _ _ _ _ _ _ _ _ _ _ _ _ _ _ _ _ _ _ _ _ _ _ agent w R ?_
  unfold f4_vc
  intro n1 hn1 w2 hb2 hun2
  have hA : At w [n1] w2 := ⟨((At.refl w).call hb2).chg, hun2⟩
  have fin : ∀ {W}, At w [n1] W → Calls Try.prog 8 #[] W fun e w' => ∃ b : Bool, e = .returned (.bool b) ∧ Keeps [n1] W w' ∧ R (.returned (.bool b)) w' := fun hA => at_callb hA (c8 _) fun w8 hA hk _ => ⟨_, rfl, hk, leaf h hA rfl⟩
  refine at_callq hA (c6 w2 (hb.call hA.below)) fun _ w5 hA hk _ ⟨few, e⟩ => ?_
  subst e
  refine ⟨_, rfl, hk, brNB (fun _ => fin hA) (fun _ => ?_)⟩
  refine at_callq hA (c7 w5 (hb.call hA.below)) fun _ w11 hA hk _ ⟨rule, e, hmin⟩ => ?_
  subst e
  refine ⟨_, rfl, hk, brN (fun _ => fin hA) (fun hz => ?_)⟩
  obtain ⟨hmin, hcap, hids⟩ := hmin hz
  have hl : d.frs.length ≤ 1048576 := by omega
  have hn := hb.fr.len_le
  have hn0 := hb.fr.1
  refine ⟨fun s W' => At w [n1] W' ∧ 0 ≤ s.1, fun s _ => (4 - s.1).toNat, ⟨hA, by decide⟩, ?_⟩
  rintro x w18 ⟨hA, hx0⟩
  simp only at hx0
  refine brD (fun hx => ?_) (fun hx => ?_)
  · refine at_calll hA (c17 agent x w18 (hb.call hA.below) hl) (fun _ _ => rfl) fun a9 c9 w20 hA hk _ ho9 s9 => ⟨_, _, _, rfl, hk, ?_⟩
    refine at_calll hA (c19 agent x w20 (hb.call hA.below) hl) (fun _ _ => rfl) fun a11 c11 w25 hA hk hb25 ho11 s11 => ⟨_, _, _, rfl, hk, ?_⟩
    refine at_callb hA (c18 w25 s11 (s9.call hb25)) fun w30 hA hk _ => ⟨_, rfl, hk, brNB (fun hf => ?_) (fun _ => ?_)⟩
    · exact absurd (those_eq agent x d.frs hmin).symm (of_decide_eq_false hf)
    refine ⟨fun s W' => At w [n1] W' ∧ ∃ i : Nat, s.1 = i ∧ i ≤ d.frs.length, fun s _ => (b.f.2.1 - s.1).toNat, ⟨hA, 0, rfl, Nat.zero_le _⟩, ?_⟩
    rintro x34 w35 ⟨hA, i, hi, hil⟩
    simp only at hi
    subst hi
    refine brD (fun hlt => ?_) (fun hge => ?_)
    · obtain ⟨f, hf⟩ : ∃ x, d.frs[i]? = some x := ⟨_, List.getElem?_eq_getElem (by omega)⟩
      obtain ⟨ad, g1, el, _⟩ := elt_at (P := Try.prog) (k := .i64) (t := 25) (hb.call hA.below).fr hf (e := 48) (by kernel_rfl) (by kernel_rfl)
      refine ⟨ad, g1, _, el.one (by kernel_rfl) (by simp), ad, g1, _, el.one (by kernel_rfl) (by simp), fun w40 hb40 hu => ?_⟩
      have hA : At w [n1] w40 := ⟨(hA.call hb40).chg, hu⟩
      refine at_callb hA (c20 f.1 agent x w40 (hb.call hA.below)) fun w42 hA hk hb42 => ⟨_, rfl, hk, (el.below (hb40.trans hb42)).one (by kernel_rfl) (by simp), ?_⟩
      refine at_callb hA (c21 f.1 agent x w42 (hb.call hA.below)) fun w45 hA hk _ => ⟨_, rfl, hk, brB (fun hf => ?_) (fun _ => ?_)⟩
      · rw [elig_eq _ _ _ hmin, bne_self] at hf
        cases hf
      · rw [succ_i i (by omega)]
        exact ⟨⟨hA, i + 1, rfl, by omega⟩, by simp only; omega⟩
    · rw [step4 hx0 hx]
      exact ⟨⟨hA, by simp only; omega⟩, by simp only; omega⟩
  · intro w47 hb47 hu
    have hA : At w [n1] w47 := ⟨(hA.call hb47).chg, hu⟩
    refine at_callb hA (c22 agent w47 (hb.call hA.below) hl) fun w49 hA hk _ => ⟨_, rfl, hk, ?_⟩
    refine at_callb hA (c23 agent w49 (hb.call hA.below) hl) fun w52 hA hk _ => ⟨_, rfl, hk, brB (fun _ => ?_) (fun hf => ?_)⟩
    · refine at_callb hA (c20 0 agent 1 w52 (hb.call hA.below)) fun w55 hA hk _ => ⟨_, rfl, hk, brNB (fun _ => fin hA) (fun hf => ?_)⟩
      rw [elig_none agent 1 hids] at hf
      cases hf
    · rw [those_eq _ _ _ hmin, those_eq _ _ _ hmin, beq_self_eq_true] at hf
      cases hf
end Go.Vc.W

/- ViewGrows, plainly: what a framework may have in each pass. -/
set_option maxRecDepth 20000
set_option maxHeartbeats 1000000
namespace Go.Vc.W
open Go Go.Vc Go.Vc.V Go.RowKit Go.Proofs Vcw

/-- What a right book's rules give here. -/
structure Fit (d : BkD) : Prop where
  fr : d.frs.Pairwise fun x y => x.1 < y.1
  ag : ∀ a ∈ d.ags, vecB a.2.2 = true

theorem free_vec {d : BkD} (h : Fit d) (i : Int) : vecB (freeAt d i) = true := by
  unfold freeAt
  cases e : d.ags[i.toNat]? with
  | none => rfl
  | some a => exact h.ag a (List.mem_of_getElem? e)
theorem only_vec {l : List PartT} (r q : Int) (h : vecB l = true) : vecB (only2 l r q) = true := by
  unfold only2
  rw [if_pos h]
  have h := vecB_iff.1 h
  exact vecB_iff.2 ⟨fun p hp => h.1 p (List.mem_filter.1 hp).1, h.2.filter _⟩
theorem amt_filter {l : List PartT} (s : Sl) (P : PartT → Bool) (hP : ∀ p, slotOf p = s → P p = P (s.1, s.2, 0)) : amt s (l.filter P) = if P (s.1, s.2, 0) = true then amt s l else 0 := by
  induction l with
  | nil => simp [amt]
  | cons p r ih =>
    rw [List.filter_cons]
    by_cases hs : slotOf p = s
    · have hp := hP p hs
      by_cases hq : P (s.1, s.2, 0) = true
      · rw [hp, if_pos hq, if_pos hq, amt, amt, if_pos hs, if_pos hs]
      · rw [if_neg (by rw [hp]; exact hq), ih, if_neg hq, if_neg hq]
    · by_cases hp : P p = true
      · rw [if_pos hp, amt, if_neg hs, ih]
        split
        · rw [amt, if_neg hs]
        · rfl
      · rw [if_neg hp, ih, amt, if_neg hs]
theorem only_amt {l : List PartT} (r q : Int) (h : vecB l = true) (s : Sl) : amt s (only2 l r q) = if s.2 = r ∨ s.2 = q then amt s l else 0 := by
  unfold only2
  rw [if_pos h, amt_filter s _ (fun p hp => by subst hp; rfl)]
  simp only [decide_eq_true_eq]
theorem have_vec {d : BkD} (h : Fit d) (frame agent pass : Int) : vecB (haveL d frame agent pass) = true := by
  unfold haveL
  split
  · rfl
  · split <;> exact only_vec _ _ (free_vec h _)
theorem have_amt {d : BkD} (h : Fit d) (frame agent : Int) (s : Sl) : amt s (haveL d frame agent 1) ≤ amt s (haveL d frame agent 2) := by
  unfold haveL
  by_cases hh : ixOf (·.1) frame d.frs 0 < 0 ∨ ixOf (·.1) agent d.ags 0 < 0
  · rw [if_pos (by rcases hh with hh | hh <;> simp [hh]), if_pos (by rcases hh with hh | hh <;> simp [hh])]
    exact Int.le_refl _
  · have hv := free_vec h (ixOf (·.1) agent d.ags 0)
    have hn := (amt_nonneg (s := s) (vecB_iff.1 hv).1).1
    have h1 : ¬ (ixOf (·.1) frame d.frs 0 < 0 ∨ ixOf (·.1) agent d.ags 0 < 0 ∨ (1 : Int) < 1 ∨ (1 : Int) > 2) := fun hx => by
      rcases hx with hx | hx | hx | hx
      · exact hh (.inl hx)
      · exact hh (.inr hx)
      · omega
      · omega
    have h2 : ¬ (ixOf (·.1) frame d.frs 0 < 0 ∨ ixOf (·.1) agent d.ags 0 < 0 ∨ (2 : Int) < 1 ∨ (2 : Int) > 2) := fun hx => by
      rcases hx with hx | hx | hx | hx
      · exact hh (.inl hx)
      · exact hh (.inr hx)
      · omega
      · omega
    rw [if_neg h1, if_neg h2, if_pos rfl, if_neg (by decide), only_amt _ _ hv, only_amt _ _ hv]
    generalize roleAt d (ixOf (·.1) frame d.frs 0) = r
    generalize amt s (freeAt d (ixOf (·.1) agent d.ags 0)) = x at *
    split <;> split <;> first | omega | simp_all
theorem have_holds {d : BkD} (h : Fit d) (frame agent : Int) : holdsB (haveL d frame agent 2) (haveL d frame agent 1) = true :=
  holds_iff.2 ⟨have_vec h .., have_vec h .., have_amt h frame agent⟩
theorem blocked_grows {d : BkD} (h : Fit d) (frame agent : Int) (hb : blockedS d frame agent (haveL d frame agent 2) = true) : blockedS d frame agent (haveL d frame agent 1) = true := by
  unfold blockedS at *
  rw [List.any_eq_true] at *
  obtain ⟨f, hf, hx⟩ := hb
  rw [Bool.and_eq_true] at hx
  have h2 : holdsB f.2.2.2 (haveL d frame agent 2) = true := hx.2
  have h3 : holdsB f.2.2.2 (haveL d frame agent 1) = true := holds_trans h2 (have_holds h frame agent)
  exact ⟨f, hf, by rw [hx.1]; exact h3⟩
/-- Frames that stand in order are found where they are. -/
theorem ix_pair : ∀ (l : List FrT) (i k : Nat) {f : FrT}, l.Pairwise (fun x y => x.1 < y.1) → l[k]? = some f → ixOf (·.1) f.1 l i = ((i + k : Nat) : Int)
  | [], _, _, _, _, hk => by simp at hk
  | x :: r, i, 0, f, _, hk => by
    simp only [List.getElem?_cons_zero, Option.some.injEq] at hk
    subst hk
    rw [ixOf, if_pos rfl]
    rfl
  | x :: r, i, k + 1, f, hp, hk => by
    rw [List.getElem?_cons_succ] at hk
    have hp := List.pairwise_cons.1 hp
    have hlt := hp.1 f (List.mem_of_getElem? hk)
    rw [ixOf, if_neg (by omega), ix_pair r (i + 1) k hp.2 hk]
    congr 1
    omega
theorem role_at {d : BkD} {k : Nat} {f : FrT} (hk : d.frs[k]? = some f) : roleAt d k = f.2.1 := by
  unfold roleAt
  rw [Int.toNat_natCast, hk]
  rfl
/-- Of two roles nothing is anybody's of both. -/
theorem least_none {d : BkD} (h : Fit d) {k i : Nat} {f g : FrT} (agent frame : Int) (hk : d.frs[k]? = some f) (hi : ixOf (·.1) frame d.frs 0 = i) (hg : d.frs[i]? = some g) (hne : f.2.1 ≠ g.2.1) : leastL (haveL d frame agent 1) (haveL d f.1 agent 1) = [] := by
  have h1 := have_vec h frame agent 1
  have h2 := have_vec h f.1 agent 1
  have hl := leastL_vec h1 h2
  refine vec_ext hl.1 rfl fun s => ?_
  rw [hl.2 s]
  have e : amt s ([] : List PartT) = 0 := rfl
  rw [e]
  unfold haveL
  rw [ix_pair _ 0 k h.fr hk, hi]
  by_cases hh : ixOf (·.1) agent d.ags 0 < 0
  · rw [if_pos (.inr (.inl hh)), if_pos (.inr (.inl hh))]
    rfl
  have hv := free_vec h (ixOf (·.1) agent d.ags 0)
  have hn := (amt_nonneg (s := s) (vecB_iff.1 hv).1).1
  have h1 : ∀ x : Nat, ¬ ((x : Int) < 0 ∨ ixOf (·.1) agent d.ags 0 < 0 ∨ (1 : Int) < 1 ∨ (1 : Int) > 2) := fun x hx => by
    rcases hx with hx | hx | hx | hx
    · omega
    · exact hh hx
    · omega
    · omega
  rw [if_neg (h1 i), if_neg (h1 (0 + k)), if_pos rfl, if_pos rfl, only_amt _ _ hv, only_amt _ _ hv, role_at hg, Nat.zero_add, role_at hk]
  unfold mn
  generalize amt s (freeAt d (ixOf (·.1) agent d.ags 0)) = x at *
  split <;> split <;> split <;> omega
theorem elig_have {b : BkA} {d : BkD} {frame agent pass : Int} (h : eligS b d frame agent pass = true) : haveL d frame agent pass ≠ [] := fun e => by
  unfold eligS bigS at h
  rw [e] at h
  simp at h
theorem have_ags {d : BkD} {frame agent pass : Int} (h : haveL d frame agent pass ≠ []) : ¬ ixOf (·.1) agent d.ags 0 < 0 := fun hx => by
  apply h
  unfold haveL
  rw [if_pos (.inr (.inl hx))]
/-- Who is eligible is one of those. -/
theorem elig_those {b : BkA} {d : BkD} {frame agent pass : Int} (h : eligS b d frame agent pass = true) : thoseL b d agent pass d.frs ≠ [] := by
  have hix := have_ix (elig_have h)
  rcases ixOf_range (k := fun x : FrT => x.1) (id := frame) d.frs 0 with hneg | ⟨j, hj, _, hjl⟩
  · exact absurd hneg hix
  obtain ⟨f, hf⟩ : ∃ x, d.frs[j]? = some x := ⟨_, List.getElem?_eq_getElem (by omega)⟩
  have hid : f.1 = frame := by
    have aux : ∀ (l : List FrT) (i j : Nat) (f : FrT), ixOf (·.1) frame l i = j → i ≤ j → l[j - i]? = some f → f.1 = frame := by
      intro l
      induction l with
      | nil => intro i j f _ _ hf; simp at hf
      | cons x r ih =>
        intro i j f he hij hf
        rw [ixOf] at he
        by_cases hx : x.1 = frame
        · rw [if_pos hx] at he
          have : j = i := by omega
          subst this
          rw [Nat.sub_self] at hf
          simp at hf
          rw [← hf]
          exact hx
        · rw [if_neg hx] at he
          have hij' : i + 1 ≤ j := by
            rcases ixOf_range (k := fun x : FrT => x.1) (id := frame) r (i + 1) with hneg | ⟨j', hj', h1, _⟩
            · rw [he] at hneg; omega
            · rw [he] at hj'; omega
          refine ih (i + 1) j f he hij' ?_
          rw [show j - i = (j - (i + 1)) + 1 by omega, List.getElem?_cons_succ] at hf
          exact hf
    exact aux _ 0 j f (by rw [hj]) (Nat.zero_le _) (by rw [Nat.sub_zero]; exact hf)
  have hm : f ∈ d.frs.filter fun f => eligS b d f.1 agent pass := List.mem_filter.2 ⟨List.mem_of_getElem? hf, by rw [hid]; exact h⟩
  unfold thoseL
  intro e
  rw [List.map_eq_nil_iff] at e
  rw [e] at hm
  cases hm
end Go.Vc.W

