/- Own texts of this claim, laid together: FV3, Wd, WArg, We, Wf, FV5, VcPart, Wg, Wh, Wi, Wj, Wk, Wl. -/
import Derived.Test.YtcmojiajjlamiaaMga41eeb8f
import Derived.Test.YtcmojiajjlamiaaProg

/- The formulas of functions, printed by a program (VcTool.lean): each is what the generator's formula comes to, by the kernel's reckoning; whoever proves one has the function's contract. -/
set_option maxRecDepth 100000
set_option maxHeartbeats 1000000
set_option linter.unusedVariables false
namespace Vcw
open Go Go.Vc Go.RowKit
/-! manciple/mancipleref16.Rule -/
def h7 : Hints := ⟨[1], [52], [34, 47, 54, 59, 62, 65, 68, 71, 9, 14, 22, 27, 39], [(3, [0, 2, 1, 3, 4, 5, 6, 7, 8, 9])], [], [(5, ⟨[(4, .int .i64)], []⟩)], [(5, ⟨[(4, .int .i64)], []⟩)], [], []⟩
def f7_vc (b_0 : Int) (b_1 : Int) (b_2 : Int) (b_3 : Int) (b_4 : Int) (b_5 : Int) (b_6 : Int) (b_7 : Int) (b_8 : Int) (b_9 : Int) (b_10 : Int) (b_11a : Option Addr) (b_11n : Nat) (b_11c : Nat) (b_12a : Option Addr) (b_12n : Nat) (b_12c : Nat) (b_13a : Option Addr) (b_13n : Nat) (b_13c : Nat) (b_14a : Option Addr) (b_14n : Nat) (b_14c : Nat) (b_15a : Option Addr) (b_15n : Nat) (b_15c : Nat) (w : World) (R : Ending → World → Prop) : Prop :=
 ∀ (n1 : Nat),
 w.heap.size ≤ n1 →
 ∀ (w2 : World),
 Bel w w2 →
 Under [n1] w2 →
 Calls Proofs.Try.prog 29
 #[Value.agg
 #[Value.int IntKind.i64 b_0, Value.int IntKind.i64 b_1, Value.int IntKind.i64 b_2, Value.int IntKind.i64 b_3, Value.int IntKind.i64 b_4, Value.int IntKind.i64 b_5, Value.int IntKind.i64 b_6, Value.int IntKind.i64 b_7,
 Value.int IntKind.i64 b_8]]
 w2 fun (e3 : Ending) (w4 : World) =>
 ∃ (b5 : Bool),
 e3 = Ending.returned (Value.bool b5) ∧
 Keeps [n1] w2 w4 ∧
 ((!b5) = true → R (Ending.returned (Value.int IntKind.i64 1)) w4) ∧
 ((!b5) = false →
 (decide (b_9 < 0) = true → R (Ending.returned (Value.int IntKind.i64 1)) w4) ∧
 (decide (b_9 < 0) = false →
 (decide (b_9 > b_0) = true → R (Ending.returned (Value.int IntKind.i64 1)) w4) ∧
 (decide (b_9 > b_0) = false →
 (decide (b_10 < 0) = true → R (Ending.returned (Value.int IntKind.i64 1)) w4) ∧
 (decide (b_10 < 0) = false →
 (decide (b_10 > b_2) = true → R (Ending.returned (Value.int IntKind.i64 1)) w4) ∧
 (decide (b_10 > b_2) = false →
 ∀ (w6 : World),
 Bel w4 w6 →
 Under [n1] w6 →
 Calls Proofs.Try.prog 30
 #[Value.agg
 #[Value.int IntKind.i64 b_0, Value.int IntKind.i64 b_1, Value.int IntKind.i64 b_2, Value.int IntKind.i64 b_3, Value.int IntKind.i64 b_4, Value.int IntKind.i64 b_5, Value.int IntKind.i64 b_6,
 Value.int IntKind.i64 b_7, Value.int IntKind.i64 b_8, Value.int IntKind.i64 b_9, Value.int IntKind.i64 b_10, Value.slice b_11a b_11n b_11c, Value.slice b_12a b_12n b_12c,
 Value.slice b_13a b_13n b_13c, Value.slice b_14a b_14n b_14c, Value.slice b_15a b_15n b_15c]]
 w6 fun (e7 : Ending) (w8 : World) =>
 ∃ (b9 : Bool),
 e7 = Ending.returned (Value.bool b9) ∧
 Keeps [n1] w6 w8 ∧
 Calls Proofs.Try.prog 31
 #[Value.agg
 #[Value.int IntKind.i64 b_0, Value.int IntKind.i64 b_1, Value.int IntKind.i64 b_2, Value.int IntKind.i64 b_3, Value.int IntKind.i64 b_4, Value.int IntKind.i64 b_5,
 Value.int IntKind.i64 b_6, Value.int IntKind.i64 b_7, Value.int IntKind.i64 b_8, Value.int IntKind.i64 b_9, Value.int IntKind.i64 b_10, Value.slice b_11a b_11n b_11c,
 Value.slice b_12a b_12n b_12c, Value.slice b_13a b_13n b_13c, Value.slice b_14a b_14n b_14c, Value.slice b_15a b_15n b_15c]]
 w8 fun (e10 : Ending) (w11 : World) =>
 ∃ (b12 : Bool),
 e10 = Ending.returned (Value.bool b12) ∧
 Keeps [n1] w8 w11 ∧
 (b12 = true →
 Calls Proofs.Try.prog 30
 #[Value.agg
 #[Value.int IntKind.i64 b_0, Value.int IntKind.i64 b_1, Value.int IntKind.i64 b_2, Value.int IntKind.i64 b_3, Value.int IntKind.i64 b_4, Value.int IntKind.i64 b_5,
 Value.int IntKind.i64 b_6, Value.int IntKind.i64 b_7, Value.int IntKind.i64 b_8, Value.int IntKind.i64 b_9, Value.int IntKind.i64 b_10, Value.slice b_11a b_11n b_11c,
 Value.slice b_12a b_12n b_12c, Value.slice b_13a b_13n b_13c, Value.slice b_14a b_14n b_14c, Value.slice b_15a b_15n b_15c]]
 w11 fun (e13 : Ending) (w14 : World) =>
 ∃ (b15 : Bool),
 e13 = Ending.returned (Value.bool b15) ∧
 Keeps [n1] w11 w14 ∧
 OpW Proofs.Try.prog (valueS (Instr.buildSlice 64 2 #[(0, Value.bool b9), (1, Value.bool b15)])) w14 fun (v16 : Value) (w17 : World) =>
 ∃ (a18 : Option Addr),
 ∃ (n19 : Nat),
 ∃ (n20 : Nat),
 v16 = Value.slice a18 n19 n20 ∧
 Keeps [n1] w14 w17 ∧
 ∃ (J21 : Int × Unit → World → Prop),
 J21 (0, ()) w17 ∧
 ∀ (x22 : Int) (w23 : World),
 J21 (x22, ()) w23 →
 ∃ (J24 : Int × Unit → World → Prop),
 ∃ (J25 : Int × Unit → World → Nat),
 J24 (x22, ()) w23 ∧
 ∀ (x26 : Int) (w27 : World),
 J24 (x26, ()) w27 →
 (decide (x26 < (↑n19 : Int)) = true →
 ∃ (ad28 : Addr),
 Gives Proofs.Try.prog (Instr.indexAt 64 (Value.slice a18 n19 n20) (Value.int IntKind.i64 x26)) (Value.pointer (some ad28)) ∧
 ∃ (b29 : Bool),
 Reads Proofs.Try.prog [] (Instr.loadAt 4 (Value.pointer (some ad28))) w27 (Value.bool b29) ∧
 ((!b29) = true → R (Ending.returned (Value.int IntKind.i64 (IntKind.i64.wrap (x26 + 2)))) w27) ∧
 ((!b29) = false →
 J24 (IntKind.i64.wrap (x26 + 1), ()) w27 ∧ J25 (IntKind.i64.wrap (x26 + 1), ()) w27 < J25 (x26, ()) w27)) ∧
 (decide (x26 < (↑n19 : Int)) = false →
 Calls Proofs.Try.prog 32
 #[Value.agg
 #[Value.int IntKind.i64 b_0, Value.int IntKind.i64 b_1, Value.int IntKind.i64 b_2, Value.int IntKind.i64 b_3,
 Value.int IntKind.i64 b_4, Value.int IntKind.i64 b_5, Value.int IntKind.i64 b_6, Value.int IntKind.i64 b_7,
 Value.int IntKind.i64 b_8, Value.int IntKind.i64 b_9, Value.int IntKind.i64 b_10, Value.slice b_11a b_11n b_11c,
 Value.slice b_12a b_12n b_12c, Value.slice b_13a b_13n b_13c, Value.slice b_14a b_14n b_14c, Value.slice b_15a b_15n b_15c]]
 w27 fun (e30 : Ending) (w31 : World) =>
 ∃ (b32 : Bool),
 e30 = Ending.returned (Value.bool b32) ∧
 Keeps [n1] w27 w31 ∧
 ((!b32) = true → R (Ending.returned (Value.int IntKind.i64 4)) w31) ∧
 ((!b32) = false →
 Calls Proofs.Try.prog 33
 #[Value.agg
 #[Value.int IntKind.i64 b_0, Value.int IntKind.i64 b_1, Value.int IntKind.i64 b_2, Value.int IntKind.i64 b_3,
 Value.int IntKind.i64 b_4, Value.int IntKind.i64 b_5, Value.int IntKind.i64 b_6, Value.int IntKind.i64 b_7,
 Value.int IntKind.i64 b_8, Value.int IntKind.i64 b_9, Value.int IntKind.i64 b_10, Value.slice b_11a b_11n b_11c,
 Value.slice b_12a b_12n b_12c, Value.slice b_13a b_13n b_13c, Value.slice b_14a b_14n b_14c,
 Value.slice b_15a b_15n b_15c]]
 w31 fun (e33 : Ending) (w34 : World) =>
 ∃ (b35 : Bool),
 e33 = Ending.returned (Value.bool b35) ∧
 Keeps [n1] w31 w34 ∧
 ((!b35) = true → R (Ending.returned (Value.int IntKind.i64 5)) w34) ∧
 ((!b35) = false →
 Calls Proofs.Try.prog 34
 #[Value.agg
 #[Value.int IntKind.i64 b_0, Value.int IntKind.i64 b_1, Value.int IntKind.i64 b_2,
 Value.int IntKind.i64 b_3, Value.int IntKind.i64 b_4, Value.int IntKind.i64 b_5,
 Value.int IntKind.i64 b_6, Value.int IntKind.i64 b_7, Value.int IntKind.i64 b_8,
 Value.int IntKind.i64 b_9, Value.int IntKind.i64 b_10, Value.slice b_11a b_11n b_11c,
 Value.slice b_12a b_12n b_12c, Value.slice b_13a b_13n b_13c, Value.slice b_14a b_14n b_14c,
 Value.slice b_15a b_15n b_15c]]
 w34 fun (e36 : Ending) (w37 : World) =>
 ∃ (b38 : Bool),
 e36 = Ending.returned (Value.bool b38) ∧
 Keeps [n1] w34 w37 ∧
 ((!b38) = true → R (Ending.returned (Value.int IntKind.i64 6)) w37) ∧
 ((!b38) = false →
 Calls Proofs.Try.prog 35
 #[Value.agg
 #[Value.int IntKind.i64 b_0, Value.int IntKind.i64 b_1, Value.int IntKind.i64 b_2,
 Value.int IntKind.i64 b_3, Value.int IntKind.i64 b_4, Value.int IntKind.i64 b_5,
 Value.int IntKind.i64 b_6, Value.int IntKind.i64 b_7, Value.int IntKind.i64 b_8,
 Value.int IntKind.i64 b_9, Value.int IntKind.i64 b_10, Value.slice b_11a b_11n b_11c,
 Value.slice b_12a b_12n b_12c, Value.slice b_13a b_13n b_13c,
 Value.slice b_14a b_14n b_14c, Value.slice b_15a b_15n b_15c]]
 w37 fun (e39 : Ending) (w40 : World) =>
 ∃ (b41 : Bool),
 e39 = Ending.returned (Value.bool b41) ∧
 Keeps [n1] w37 w40 ∧
 ((!b41) = true → R (Ending.returned (Value.int IntKind.i64 7)) w40) ∧
 ((!b41) = false →
 Calls Proofs.Try.prog 36
 #[Value.agg
 #[Value.int IntKind.i64 b_0, Value.int IntKind.i64 b_1,
 Value.int IntKind.i64 b_2, Value.int IntKind.i64 b_3,
 Value.int IntKind.i64 b_4, Value.int IntKind.i64 b_5,
 Value.int IntKind.i64 b_6, Value.int IntKind.i64 b_7,
 Value.int IntKind.i64 b_8, Value.int IntKind.i64 b_9,
 Value.int IntKind.i64 b_10, Value.slice b_11a b_11n b_11c,
 Value.slice b_12a b_12n b_12c, Value.slice b_13a b_13n b_13c,
 Value.slice b_14a b_14n b_14c, Value.slice b_15a b_15n b_15c]]
 w40 fun (e42 : Ending) (w43 : World) =>
 ∃ (b44 : Bool),
 e42 = Ending.returned (Value.bool b44) ∧
 Keeps [n1] w40 w43 ∧
 ((!b44) = true → R (Ending.returned (Value.int IntKind.i64 8)) w43) ∧
 ((!b44) = false → R (Ending.returned (Value.int IntKind.i64 0)) w43))))))) ∧
 (b12 = false →
 OpW Proofs.Try.prog (valueS (Instr.buildSlice 64 2 #[(0, Value.bool b9), (1, Value.bool false)])) w11 fun (v45 : Value) (w46 : World) =>
 ∃ (a47 : Option Addr),
 ∃ (n48 : Nat),
 ∃ (n49 : Nat),
 v45 = Value.slice a47 n48 n49 ∧
 Keeps [n1] w11 w46 ∧
 ∃ (J50 : Int × Unit → World → Prop),
 J50 (0, ()) w46 ∧
 ∀ (x51 : Int) (w52 : World),
 J50 (x51, ()) w52 →
 ∃ (J53 : Int × Unit → World → Prop),
 ∃ (J54 : Int × Unit → World → Nat),
 J53 (x51, ()) w52 ∧
 ∀ (x55 : Int) (w56 : World),
 J53 (x55, ()) w56 →
 (decide (x55 < (↑n48 : Int)) = true →
 ∃ (ad57 : Addr),
 Gives Proofs.Try.prog (Instr.indexAt 64 (Value.slice a47 n48 n49) (Value.int IntKind.i64 x55)) (Value.pointer (some ad57)) ∧
 ∃ (b58 : Bool),
 Reads Proofs.Try.prog [] (Instr.loadAt 4 (Value.pointer (some ad57))) w56 (Value.bool b58) ∧
 ((!b58) = true → R (Ending.returned (Value.int IntKind.i64 (IntKind.i64.wrap (x55 + 2)))) w56) ∧
 ((!b58) = false → J53 (IntKind.i64.wrap (x55 + 1), ()) w56 ∧ J54 (IntKind.i64.wrap (x55 + 1), ()) w56 < J54 (x55, ()) w56)) ∧
 (decide (x55 < (↑n48 : Int)) = false →
 Calls Proofs.Try.prog 32
 #[Value.agg
 #[Value.int IntKind.i64 b_0, Value.int IntKind.i64 b_1, Value.int IntKind.i64 b_2, Value.int IntKind.i64 b_3, Value.int IntKind.i64 b_4,
 Value.int IntKind.i64 b_5, Value.int IntKind.i64 b_6, Value.int IntKind.i64 b_7, Value.int IntKind.i64 b_8, Value.int IntKind.i64 b_9,
 Value.int IntKind.i64 b_10, Value.slice b_11a b_11n b_11c, Value.slice b_12a b_12n b_12c, Value.slice b_13a b_13n b_13c,
 Value.slice b_14a b_14n b_14c, Value.slice b_15a b_15n b_15c]]
 w56 fun (e59 : Ending) (w60 : World) =>
 ∃ (b61 : Bool),
 e59 = Ending.returned (Value.bool b61) ∧
 Keeps [n1] w56 w60 ∧
 ((!b61) = true → R (Ending.returned (Value.int IntKind.i64 4)) w60) ∧
 ((!b61) = false →
 Calls Proofs.Try.prog 33
 #[Value.agg
 #[Value.int IntKind.i64 b_0, Value.int IntKind.i64 b_1, Value.int IntKind.i64 b_2, Value.int IntKind.i64 b_3,
 Value.int IntKind.i64 b_4, Value.int IntKind.i64 b_5, Value.int IntKind.i64 b_6, Value.int IntKind.i64 b_7,
 Value.int IntKind.i64 b_8, Value.int IntKind.i64 b_9, Value.int IntKind.i64 b_10, Value.slice b_11a b_11n b_11c,
 Value.slice b_12a b_12n b_12c, Value.slice b_13a b_13n b_13c, Value.slice b_14a b_14n b_14c,
 Value.slice b_15a b_15n b_15c]]
 w60 fun (e62 : Ending) (w63 : World) =>
 ∃ (b64 : Bool),
 e62 = Ending.returned (Value.bool b64) ∧
 Keeps [n1] w60 w63 ∧
 ((!b64) = true → R (Ending.returned (Value.int IntKind.i64 5)) w63) ∧
 ((!b64) = false →
 Calls Proofs.Try.prog 34
 #[Value.agg
 #[Value.int IntKind.i64 b_0, Value.int IntKind.i64 b_1, Value.int IntKind.i64 b_2, Value.int IntKind.i64 b_3,
 Value.int IntKind.i64 b_4, Value.int IntKind.i64 b_5, Value.int IntKind.i64 b_6, Value.int IntKind.i64 b_7,
 Value.int IntKind.i64 b_8, Value.int IntKind.i64 b_9, Value.int IntKind.i64 b_10,
 Value.slice b_11a b_11n b_11c, Value.slice b_12a b_12n b_12c, Value.slice b_13a b_13n b_13c,
 Value.slice b_14a b_14n b_14c, Value.slice b_15a b_15n b_15c]]
 w63 fun (e65 : Ending) (w66 : World) =>
 ∃ (b67 : Bool),
 e65 = Ending.returned (Value.bool b67) ∧
 Keeps [n1] w63 w66 ∧
 ((!b67) = true → R (Ending.returned (Value.int IntKind.i64 6)) w66) ∧
 ((!b67) = false →
 Calls Proofs.Try.prog 35
 #[Value.agg
 #[Value.int IntKind.i64 b_0, Value.int IntKind.i64 b_1, Value.int IntKind.i64 b_2,
 Value.int IntKind.i64 b_3, Value.int IntKind.i64 b_4, Value.int IntKind.i64 b_5,
 Value.int IntKind.i64 b_6, Value.int IntKind.i64 b_7, Value.int IntKind.i64 b_8,
 Value.int IntKind.i64 b_9, Value.int IntKind.i64 b_10, Value.slice b_11a b_11n b_11c,
 Value.slice b_12a b_12n b_12c, Value.slice b_13a b_13n b_13c, Value.slice b_14a b_14n b_14c,
 Value.slice b_15a b_15n b_15c]]
 w66 fun (e68 : Ending) (w69 : World) =>
 ∃ (b70 : Bool),
 e68 = Ending.returned (Value.bool b70) ∧
 Keeps [n1] w66 w69 ∧
 ((!b70) = true → R (Ending.returned (Value.int IntKind.i64 7)) w69) ∧
 ((!b70) = false →
 Calls Proofs.Try.prog 36
 #[Value.agg
 #[Value.int IntKind.i64 b_0, Value.int IntKind.i64 b_1, Value.int IntKind.i64 b_2,
 Value.int IntKind.i64 b_3, Value.int IntKind.i64 b_4, Value.int IntKind.i64 b_5,
 Value.int IntKind.i64 b_6, Value.int IntKind.i64 b_7, Value.int IntKind.i64 b_8,
 Value.int IntKind.i64 b_9, Value.int IntKind.i64 b_10, Value.slice b_11a b_11n b_11c,
 Value.slice b_12a b_12n b_12c, Value.slice b_13a b_13n b_13c,
 Value.slice b_14a b_14n b_14c, Value.slice b_15a b_15n b_15c]]
 w69 fun (e71 : Ending) (w72 : World) =>
 ∃ (b73 : Bool),
 e71 = Ending.returned (Value.bool b73) ∧
 Keeps [n1] w69 w72 ∧
 ((!b73) = true → R (Ending.returned (Value.int IntKind.i64 8)) w72) ∧
 ((!b73) = false → R (Ending.returned (Value.int IntKind.i64 0)) w72))))))))))))
theorem f7_eq (b_0 : Int) (b_1 : Int) (b_2 : Int) (b_3 : Int) (b_4 : Int) (b_5 : Int) (b_6 : Int) (b_7 : Int) (b_8 : Int) (b_9 : Int) (b_10 : Int) (b_11a : Option Addr) (b_11n : Nat) (b_11c : Nat) (b_12a : Option Addr) (b_12n : Nat) (b_12c : Nat) (b_13a : Option Addr) (b_13n : Nat) (b_13c : Nat) (b_14a : Option Addr) (b_14n : Nat) (b_14c : Nat) (b_15a : Option Addr) (b_15n : Nat) (b_15c : Nat) (w : World) (R : Ending → World → Prop) : (fnF Go.Proofs.Try.prog h7 Go.Proofs.Try.f7 [Value.agg
 #[Value.int IntKind.i64 b_0, Value.int IntKind.i64 b_1, Value.int IntKind.i64 b_2, Value.int IntKind.i64 b_3, Value.int IntKind.i64 b_4, Value.int IntKind.i64 b_5, Value.int IntKind.i64 b_6, Value.int IntKind.i64 b_7,
 Value.int IntKind.i64 b_8, Value.int IntKind.i64 b_9, Value.int IntKind.i64 b_10, Value.slice b_11a b_11n b_11c, Value.slice b_12a b_12n b_12c, Value.slice b_13a b_13n b_13c, Value.slice b_14a b_14n b_14c,
 Value.slice b_15a b_15n b_15c]] w R).den = f7_vc b_0 b_1 b_2 b_3 b_4 b_5 b_6 b_7 b_8 b_9 b_10 b_11a b_11n b_11c b_12a b_12n b_12c b_13a b_13n b_13c b_14a b_14n b_14c b_15a b_15n b_15c w R := by kernel_rfl
theorem f7_calls (b_0 : Int) (b_1 : Int) (b_2 : Int) (b_3 : Int) (b_4 : Int) (b_5 : Int) (b_6 : Int) (b_7 : Int) (b_8 : Int) (b_9 : Int) (b_10 : Int) (b_11a : Option Addr) (b_11n : Nat) (b_11c : Nat) (b_12a : Option Addr) (b_12n : Nat) (b_12c : Nat) (b_13a : Option Addr) (b_13n : Nat) (b_13c : Nat) (b_14a : Option Addr) (b_14n : Nat) (b_14c : Nat) (b_15a : Option Addr) (b_15n : Nat) (b_15c : Nat) (w : World) (R : Ending → World → Prop) (h : f7_vc b_0 b_1 b_2 b_3 b_4 b_5 b_6 b_7 b_8 b_9 b_10 b_11a b_11n b_11c b_12a b_12n b_12c b_13a b_13n b_13c b_14a b_14n b_14c b_15a b_15n b_15c w R) : Calls Go.Proofs.Try.prog 7 (List.toArray [Value.agg
 #[Value.int IntKind.i64 b_0, Value.int IntKind.i64 b_1, Value.int IntKind.i64 b_2, Value.int IntKind.i64 b_3, Value.int IntKind.i64 b_4, Value.int IntKind.i64 b_5, Value.int IntKind.i64 b_6, Value.int IntKind.i64 b_7,
 Value.int IntKind.i64 b_8, Value.int IntKind.i64 b_9, Value.int IntKind.i64 b_10, Value.slice b_11a b_11n b_11c, Value.slice b_12a b_12n b_12c, Value.slice b_13a b_13n b_13c, Value.slice b_14a b_14n b_14c,
 Value.slice b_15a b_15n b_15c]]) w R :=
 fn_sound (H := h7) (fn := Go.Proofs.Try.f7) (by kernel_rfl) (by kernel_rfl) (by kernel_rfl) ((f7_eq b_0 b_1 b_2 b_3 b_4 b_5 b_6 b_7 b_8 b_9 b_10 b_11a b_11n b_11c b_12a b_12n b_12c b_13a b_13n b_13c b_14a b_14n b_14c b_15a b_15n b_15c w R).mpr h)


/-! manciple/mancipleref16.agents -/
def h31 : Hints := ⟨[1, 4], [15, 31], [9, 54, 21, 24, 37, 43, 49], [(5, [0, 1, 2, 3, 4, 5, 6, 7, 8, 9, 10, 11, 12, 13, 14, 15, 16, 17, 18, 19, 20, 21, 22, 23, 24, 25, 26, 27, 28, 29, 30, 31, 32, 33, 34, 35, 36, 37])], [], [(2, ⟨[(3, .int .i64)], []⟩)], [(3, ⟨[], []⟩), (6, ⟨[(54, .bool)], []⟩)], [], []⟩
def f31_vc (b_0 : Int) (b_1 : Int) (b_2 : Int) (b_3 : Int) (b_4 : Int) (b_5 : Int) (b_6 : Int) (b_7 : Int) (b_8 : Int) (b_9 : Int) (b_10 : Int) (b_11a : Option Addr) (b_11n : Nat) (b_11c : Nat) (b_12a : Option Addr) (b_12n : Nat) (b_12c : Nat) (b_13a : Option Addr) (b_13n : Nat) (b_13c : Nat) (b_14a : Option Addr) (b_14n : Nat) (b_14c : Nat) (b_15a : Option Addr) (b_15n : Nat) (b_15c : Nat) (w : World) (R : Ending → World → Prop) : Prop :=
 ∀ (n1 : Nat),
 w.heap.size ≤ n1 →
 ∃ (J2 : Int × Unit → World → Prop),
 ∃ (J3 : Int × Unit → World → Nat),
 (∀ (w4 : World), Bel w w4 → Under [n1] w4 → J2 (0, ()) w4) ∧
 ∀ (x5 : Int) (w6 : World),
 J2 (x5, ()) w6 →
 (decide (x5 < (↑b_12n : Int)) = true →
 ∃ (J7 : Unit → World → Prop),
 (∃ (ad8 : Addr),
 Gives Proofs.Try.prog (Instr.indexAt 26 (Value.slice b_12a b_12n b_12c) (Value.int IntKind.i64 x5)) (Value.pointer (some ad8)) ∧
 ∃ (x9 : Int),
 ∃ (a10 : Option Addr),
 ∃ (n11 : Nat),
 ∃ (n12 : Nat),
 ∃ (a13 : Option Addr),
 ∃ (n14 : Nat),
 ∃ (n15 : Nat),
 Reads Proofs.Try.prog [] (Instr.loadAt 56 (Value.pointer (some ad8))) w6 (Value.agg #[Value.int IntKind.i64 x9, Value.slice a10 n11 n12, Value.slice a13 n14 n15]) ∧
 ∀ (n16 : Nat),
 w6.heap.size ≤ n16 →
 ∃ (J17 : Bool × Unit → World → Prop),
 (∀ (w18 : World),
 Evo [n16] w6 w18 →
 Under [n1, n16] w18 →
 Calls Proofs.Try.prog 67 #[Value.int IntKind.i64 x9] w18 fun (e19 : Ending) (w20 : World) =>
 ∃ (b21 : Bool),
 e19 = Ending.returned (Value.bool b21) ∧
 Keeps [n1, n16] w18 w20 ∧
 ((!b21) = true → J17 (true, ()) w20) ∧
 ((!b21) = false →
 (decide (x5 > 0) = true →
 ∃ (ad22 : Addr),
 Gives Proofs.Try.prog (Instr.indexAt 26 (Value.slice b_12a b_12n b_12c) (Value.int IntKind.i64 (IntKind.i64.wrap (x5 - 1)))) (Value.pointer (some ad22)) ∧
 ∃ (x23 : Int),
 Reads Proofs.Try.prog [] (Instr.loadAt 2 (Value.pointer (some ad22))) w20 (Value.int IntKind.i64 x23) ∧
 (decide (x9 ≤ x23) = true → J17 (true, ()) w20) ∧
 (decide (x9 ≤ x23) = false →
 Calls Proofs.Try.prog 14 #[Value.slice a10 n11 n12] w20 fun (e24 : Ending) (w25 : World) =>
 ∃ (b26 : Bool),
 e24 = Ending.returned (Value.bool b26) ∧
 Keeps [n1, n16] w20 w25 ∧
 Reads Proofs.Try.prog [] (Instr.loadAt 2 (Value.pointer (some ad22))) w25 (Value.int IntKind.i64 x23) ∧
 ((!b26) = true → J17 (true, ()) w25) ∧
 ((!b26) = false →
 Calls Proofs.Try.prog 14 #[Value.slice a13 n14 n15] w25 fun (e27 : Ending) (w28 : World) =>
 ∃ (b29 : Bool),
 e27 = Ending.returned (Value.bool b29) ∧
 Keeps [n1, n16] w25 w28 ∧
 Reads Proofs.Try.prog [] (Instr.loadAt 2 (Value.pointer (some ad22))) w28 (Value.int IntKind.i64 x23) ∧
 ((!b29) = true → J17 (true, ()) w28) ∧ ((!b29) = false → J17 ((↑n11 : Int) == 0, ()) w28)))) ∧
 (decide (x5 > 0) = false →
 Calls Proofs.Try.prog 14 #[Value.slice a10 n11 n12] w20 fun (e30 : Ending) (w31 : World) =>
 ∃ (b32 : Bool),
 e30 = Ending.returned (Value.bool b32) ∧
 Keeps [n1, n16] w20 w31 ∧
 ((!b32) = true → J17 (true, ()) w31) ∧
 ((!b32) = false →
 Calls Proofs.Try.prog 14 #[Value.slice a13 n14 n15] w31 fun (e33 : Ending) (w34 : World) =>
 ∃ (b35 : Bool),
 e33 = Ending.returned (Value.bool b35) ∧
 Keeps [n1, n16] w31 w34 ∧ ((!b35) = true → J17 (true, ()) w34) ∧ ((!b35) = false → J17 ((↑n11 : Int) == 0, ()) w34))))) ∧
 ∀ (b36 : Bool) (w37 : World), J17 (b36, ()) w37 → (b36 = true → R (Ending.returned (Value.bool false)) w37) ∧ (b36 = false → J7 () w37)) ∧
 ∀ (w38 : World), J7 () w38 → J2 (IntKind.i64.wrap (x5 + 1), ()) w38 ∧ J3 (IntKind.i64.wrap (x5 + 1), ()) w38 < J3 (x5, ()) w6) ∧
 (decide (x5 < (↑b_12n : Int)) = false → R (Ending.returned (Value.bool (decide ((↑b_12n : Int) ≤ b_4)))) w6)
theorem f31_eq (b_0 : Int) (b_1 : Int) (b_2 : Int) (b_3 : Int) (b_4 : Int) (b_5 : Int) (b_6 : Int) (b_7 : Int) (b_8 : Int) (b_9 : Int) (b_10 : Int) (b_11a : Option Addr) (b_11n : Nat) (b_11c : Nat) (b_12a : Option Addr) (b_12n : Nat) (b_12c : Nat) (b_13a : Option Addr) (b_13n : Nat) (b_13c : Nat) (b_14a : Option Addr) (b_14n : Nat) (b_14c : Nat) (b_15a : Option Addr) (b_15n : Nat) (b_15c : Nat) (w : World) (R : Ending → World → Prop) : (fnF Go.Proofs.Try.prog h31 Go.Proofs.Try.f31 [Value.agg
 #[Value.int IntKind.i64 b_0, Value.int IntKind.i64 b_1, Value.int IntKind.i64 b_2, Value.int IntKind.i64 b_3, Value.int IntKind.i64 b_4, Value.int IntKind.i64 b_5, Value.int IntKind.i64 b_6, Value.int IntKind.i64 b_7,
 Value.int IntKind.i64 b_8, Value.int IntKind.i64 b_9, Value.int IntKind.i64 b_10, Value.slice b_11a b_11n b_11c, Value.slice b_12a b_12n b_12c, Value.slice b_13a b_13n b_13c, Value.slice b_14a b_14n b_14c,
 Value.slice b_15a b_15n b_15c]] w R).den = f31_vc b_0 b_1 b_2 b_3 b_4 b_5 b_6 b_7 b_8 b_9 b_10 b_11a b_11n b_11c b_12a b_12n b_12c b_13a b_13n b_13c b_14a b_14n b_14c b_15a b_15n b_15c w R := by kernel_rfl
theorem f31_calls (b_0 : Int) (b_1 : Int) (b_2 : Int) (b_3 : Int) (b_4 : Int) (b_5 : Int) (b_6 : Int) (b_7 : Int) (b_8 : Int) (b_9 : Int) (b_10 : Int) (b_11a : Option Addr) (b_11n : Nat) (b_11c : Nat) (b_12a : Option Addr) (b_12n : Nat) (b_12c : Nat) (b_13a : Option Addr) (b_13n : Nat) (b_13c : Nat) (b_14a : Option Addr) (b_14n : Nat) (b_14c : Nat) (b_15a : Option Addr) (b_15n : Nat) (b_15c : Nat) (w : World) (R : Ending → World → Prop) (h : f31_vc b_0 b_1 b_2 b_3 b_4 b_5 b_6 b_7 b_8 b_9 b_10 b_11a b_11n b_11c b_12a b_12n b_12c b_13a b_13n b_13c b_14a b_14n b_14c b_15a b_15n b_15c w R) : Calls Go.Proofs.Try.prog 31 (List.toArray [Value.agg
 #[Value.int IntKind.i64 b_0, Value.int IntKind.i64 b_1, Value.int IntKind.i64 b_2, Value.int IntKind.i64 b_3, Value.int IntKind.i64 b_4, Value.int IntKind.i64 b_5, Value.int IntKind.i64 b_6, Value.int IntKind.i64 b_7,
 Value.int IntKind.i64 b_8, Value.int IntKind.i64 b_9, Value.int IntKind.i64 b_10, Value.slice b_11a b_11n b_11c, Value.slice b_12a b_12n b_12c, Value.slice b_13a b_13n b_13c, Value.slice b_14a b_14n b_14c,
 Value.slice b_15a b_15n b_15c]]) w R :=
 fn_sound (H := h31) (fn := Go.Proofs.Try.f31) (by kernel_rfl) (by kernel_rfl) (by kernel_rfl) ((f31_eq b_0 b_1 b_2 b_3 b_4 b_5 b_6 b_7 b_8 b_9 b_10 b_11a b_11n b_11c b_12a b_12n b_12c b_13a b_13n b_13c b_14a b_14n b_14c b_15a b_15n b_15c w R).mpr h)


/-! manciple/mancipleref16.most -/
def h32 : Hints := ⟨[1], [30, 40, 43, 46, 48], [24, 35, 50], [(9, [0, 1, 2, 3, 4, 5, 6, 7, 8, 9])], [], [(3, ⟨[(4, .int .i64)], []⟩), (7, ⟨[(6, .int .i64)], []⟩)], [], [], []⟩
def f32_vc (b_0 : Int) (b_1 : Int) (b_2 : Int) (b_3 : Int) (b_4 : Int) (b_5 : Int) (b_6 : Int) (b_7 : Int) (b_8 : Int) (b_9 : Int) (b_10 : Int) (b_11a : Option Addr) (b_11n : Nat) (b_11c : Nat) (b_12a : Option Addr) (b_12n : Nat) (b_12c : Nat) (b_13a : Option Addr) (b_13n : Nat) (b_13c : Nat) (b_14a : Option Addr) (b_14n : Nat) (b_14c : Nat) (b_15a : Option Addr) (b_15n : Nat) (b_15c : Nat) (w : World) (R : Ending → World → Prop) : Prop :=
 ∀ (n1 : Nat),
 w.heap.size ≤ n1 →
 ∀ (w2 : World),
 Bel w w2 →
 Under [n1] w2 →
 OpW Proofs.Try.prog (valueS (Instr.alloc 22 true (Value.tuple #[]))) w2 fun (v3 : Value) (w4 : World) =>
 ∃ (ad5 : Addr),
 v3 = Value.pointer (some ad5) ∧
 Keeps [n1] w2 w4 ∧
 OpW Proofs.Try.prog (skipS (Instr.storeAt 22 (Value.pointer (some ad5)) (Value.agg #[Value.int IntKind.i64 b_1, Value.int IntKind.i64 b_1, Value.int IntKind.i64 b_1, Value.int IntKind.i64 b_1]))) w4
 fun (v6 : Value) (w7 : World) =>
 Keeps [n1] w4 w7 ∧
 ∃ (J8 : Int × Unit → World → Prop),
 ∃ (J9 : Int × Unit → World → Nat),
 J8 (0, ()) w7 ∧
 ∀ (x10 : Int) (w11 : World),
 J8 (x10, ()) w11 →
 (decide (x10 < (↑b_12n : Int)) = true →
 ∃ (ad12 : Addr),
 Gives Proofs.Try.prog (Instr.indexAt 26 (Value.slice b_12a b_12n b_12c) (Value.int IntKind.i64 x10)) (Value.pointer (some ad12)) ∧
 ∃ (a13 : Option Addr),
 ∃ (n14 : Nat),
 ∃ (n15 : Nat),
 Reads Proofs.Try.prog [] (Instr.loadAt 33 (Value.pointer (some (Addr.mk ad12.block (ad12.off + 1) none)))) w11 (Value.slice a13 n14 n15) ∧
 Calls Proofs.Try.prog 49 #[Value.slice a13 n14 n15] w11 fun (e16 : Ending) (w17 : World) =>
 ∃ (x18 : Int),
 ∃ (x19 : Int),
 ∃ (x20 : Int),
 ∃ (x21 : Int),
 e16 = Ending.returned (Value.agg #[Value.int IntKind.i64 x18, Value.int IntKind.i64 x19, Value.int IntKind.i64 x20, Value.int IntKind.i64 x21]) ∧
 Keeps [n1] w11 w17 ∧
 OpW Proofs.Try.prog (valueS (Instr.alloc 22 true (Value.tuple #[]))) w17 fun (v22 : Value) (w23 : World) =>
 ∃ (ad24 : Addr),
 v22 = Value.pointer (some ad24) ∧
 Keeps [n1] w17 w23 ∧
 OpW Proofs.Try.prog
 (skipS
 (Instr.storeAt 22 (Value.pointer (some ad24))
 (Value.agg #[Value.int IntKind.i64 x18, Value.int IntKind.i64 x19, Value.int IntKind.i64 x20, Value.int IntKind.i64 x21])))
 w23 fun (v25 : Value) (w26 : World) =>
 Keeps [n1] w23 w26 ∧
 ∃ (J27 : Int × Unit → World → Prop),
 ∃ (J28 : Int × Unit → World → Nat),
 J27 (0, ()) w26 ∧
 ∀ (x29 : Int) (w30 : World),
 J27 (x29, ()) w30 →
 (decide (x29 < 4) = true →
 ∃ (ad31 : Addr),
 Gives Proofs.Try.prog (Instr.indexAt 22 (Value.pointer (some ad5)) (Value.int IntKind.i64 x29)) (Value.pointer (some ad31)) ∧
 ∃ (x32 : Int),
 Reads Proofs.Try.prog [] (Instr.loadAt 2 (Value.pointer (some ad31))) w30 (Value.int IntKind.i64 x32) ∧
 ∃ (ad33 : Addr),
 Gives Proofs.Try.prog (Instr.indexAt 22 (Value.pointer (some ad24)) (Value.int IntKind.i64 x29)) (Value.pointer (some ad33)) ∧
 ∃ (x34 : Int),
 Reads Proofs.Try.prog [] (Instr.loadAt 2 (Value.pointer (some ad33))) w30 (Value.int IntKind.i64 x34) ∧
 ∃ (ad35 : Addr),
 Gives Proofs.Try.prog (Instr.indexAt 22 (Value.pointer (some ad5)) (Value.int IntKind.i64 x29)) (Value.pointer (some ad35)) ∧
 ∀ (w36 : World),
 Bel w30 w36 →
 Under [n1] w36 →
 OpW Proofs.Try.prog
 (skipS (Instr.storeAt 2 (Value.pointer (some ad35)) (Value.int IntKind.i64 (IntKind.i64.wrap (x32 - x34))))) w36
 fun (v37 : Value) (w38 : World) =>
 Keeps [n1] w36 w38 ∧
 ∃ (ad39 : Addr),
 Gives Proofs.Try.prog (Instr.indexAt 22 (Value.pointer (some ad5)) (Value.int IntKind.i64 x29))
 (Value.pointer (some ad39)) ∧
 ∃ (x40 : Int),
 Reads Proofs.Try.prog [] (Instr.loadAt 2 (Value.pointer (some ad39))) w38 (Value.int IntKind.i64 x40) ∧
 (decide (x40 < 0) = true → R (Ending.returned (Value.bool false)) w38) ∧
 (decide (x40 < 0) = false →
 J27 (IntKind.i64.wrap (x29 + 1), ()) w38 ∧ J28 (IntKind.i64.wrap (x29 + 1), ()) w38 < J28 (x29, ()) w30)) ∧
 (decide (x29 < 4) = false → J8 (IntKind.i64.wrap (x10 + 1), ()) w30 ∧ J9 (IntKind.i64.wrap (x10 + 1), ()) w30 < J9 (x10, ()) w11)) ∧
 (decide (x10 < (↑b_12n : Int)) = false → R (Ending.returned (Value.bool true)) w11)
theorem f32_eq (b_0 : Int) (b_1 : Int) (b_2 : Int) (b_3 : Int) (b_4 : Int) (b_5 : Int) (b_6 : Int) (b_7 : Int) (b_8 : Int) (b_9 : Int) (b_10 : Int) (b_11a : Option Addr) (b_11n : Nat) (b_11c : Nat) (b_12a : Option Addr) (b_12n : Nat) (b_12c : Nat) (b_13a : Option Addr) (b_13n : Nat) (b_13c : Nat) (b_14a : Option Addr) (b_14n : Nat) (b_14c : Nat) (b_15a : Option Addr) (b_15n : Nat) (b_15c : Nat) (w : World) (R : Ending → World → Prop) : (fnF Go.Proofs.Try.prog h32 Go.Proofs.Try.f32 [Value.agg
 #[Value.int IntKind.i64 b_0, Value.int IntKind.i64 b_1, Value.int IntKind.i64 b_2, Value.int IntKind.i64 b_3, Value.int IntKind.i64 b_4, Value.int IntKind.i64 b_5, Value.int IntKind.i64 b_6, Value.int IntKind.i64 b_7,
 Value.int IntKind.i64 b_8, Value.int IntKind.i64 b_9, Value.int IntKind.i64 b_10, Value.slice b_11a b_11n b_11c, Value.slice b_12a b_12n b_12c, Value.slice b_13a b_13n b_13c, Value.slice b_14a b_14n b_14c,
 Value.slice b_15a b_15n b_15c]] w R).den = f32_vc b_0 b_1 b_2 b_3 b_4 b_5 b_6 b_7 b_8 b_9 b_10 b_11a b_11n b_11c b_12a b_12n b_12c b_13a b_13n b_13c b_14a b_14n b_14c b_15a b_15n b_15c w R := by kernel_rfl
theorem f32_calls (b_0 : Int) (b_1 : Int) (b_2 : Int) (b_3 : Int) (b_4 : Int) (b_5 : Int) (b_6 : Int) (b_7 : Int) (b_8 : Int) (b_9 : Int) (b_10 : Int) (b_11a : Option Addr) (b_11n : Nat) (b_11c : Nat) (b_12a : Option Addr) (b_12n : Nat) (b_12c : Nat) (b_13a : Option Addr) (b_13n : Nat) (b_13c : Nat) (b_14a : Option Addr) (b_14n : Nat) (b_14c : Nat) (b_15a : Option Addr) (b_15n : Nat) (b_15c : Nat) (w : World) (R : Ending → World → Prop) (h : f32_vc b_0 b_1 b_2 b_3 b_4 b_5 b_6 b_7 b_8 b_9 b_10 b_11a b_11n b_11c b_12a b_12n b_12c b_13a b_13n b_13c b_14a b_14n b_14c b_15a b_15n b_15c w R) : Calls Go.Proofs.Try.prog 32 (List.toArray [Value.agg
 #[Value.int IntKind.i64 b_0, Value.int IntKind.i64 b_1, Value.int IntKind.i64 b_2, Value.int IntKind.i64 b_3, Value.int IntKind.i64 b_4, Value.int IntKind.i64 b_5, Value.int IntKind.i64 b_6, Value.int IntKind.i64 b_7,
 Value.int IntKind.i64 b_8, Value.int IntKind.i64 b_9, Value.int IntKind.i64 b_10, Value.slice b_11a b_11n b_11c, Value.slice b_12a b_12n b_12c, Value.slice b_13a b_13n b_13c, Value.slice b_14a b_14n b_14c,
 Value.slice b_15a b_15n b_15c]]) w R :=
 fn_sound (H := h32) (fn := Go.Proofs.Try.f32) (by kernel_rfl) (by kernel_rfl) (by kernel_rfl) ((f32_eq b_0 b_1 b_2 b_3 b_4 b_5 b_6 b_7 b_8 b_9 b_10 b_11a b_11n b_11c b_12a b_12n b_12c b_13a b_13n b_13c b_14a b_14n b_14c b_15a b_15n b_15c w R).mpr h)


/-! manciple/mancipleref16.offers -/
def h33 : Hints := ⟨[1, 4], [16, 42, 62, 72], [10, 58, 112, 25, 32, 35, 48, 52, 66, 78, 83, 89, 94, 100], [(6, [0, 1, 2, 3, 4, 5, 6, 7, 8, 9, 10, 11, 12, 13, 14, 15, 16, 17, 18, 19, 20, 21, 22, 23, 24, 25, 26, 27, 28, 29, 30, 31, 32, 33, 34, 35, 36]), (8, [0, 1, 2, 3, 4, 5, 6, 7, 8, 9, 10, 11, 12, 13, 14, 15, 16, 17, 18, 19, 20, 21, 22, 23, 24, 25, 26, 27, 28, 29, 30, 31, 32, 33, 34, 35, 36, 37, 38, 39, 40, 41, 42, 43, 44, 45, 46, 47, 48, 49, 50, 51, 52, 53])], [], [(2, ⟨[(3, .int .i64)], []⟩)], [(3, ⟨[], []⟩), (8, ⟨[], []⟩), (7, ⟨[(58, .bool)], []⟩), (9, ⟨[(112, .bool)], []⟩)], [], []⟩
def f33_vc (b_0 : Int) (b_1 : Int) (b_2 : Int) (b_3 : Int) (b_4 : Int) (b_5 : Int) (b_6 : Int) (b_7 : Int) (b_8 : Int) (b_9 : Int) (b_10 : Int) (b_11a : Option Addr) (b_11n : Nat) (b_11c : Nat) (b_12a : Option Addr) (b_12n : Nat) (b_12c : Nat) (b_13a : Option Addr) (b_13n : Nat) (b_13c : Nat) (b_14a : Option Addr) (b_14n : Nat) (b_14c : Nat) (b_15a : Option Addr) (b_15n : Nat) (b_15c : Nat) (w : World) (R : Ending → World → Prop) : Prop :=
 ∀ (n1 : Nat),
 w.heap.size ≤ n1 →
 ∃ (J2 : Int × Unit → World → Prop),
 ∃ (J3 : Int × Unit → World → Nat),
 (∀ (w4 : World), Bel w w4 → Under [n1] w4 → J2 (0, ()) w4) ∧
 ∀ (x5 : Int) (w6 : World),
 J2 (x5, ()) w6 →
 (decide (x5 < (↑b_13n : Int)) = true →
 ∃ (J7 : Unit → World → Prop),
 (∃ (ad8 : Addr),
 Gives Proofs.Try.prog (Instr.indexAt 27 (Value.slice b_13a b_13n b_13c) (Value.int IntKind.i64 x5)) (Value.pointer (some ad8)) ∧
 ∃ (x9 : Int),
 ∃ (x10 : Int),
 ∃ (x11 : Int),
 ∃ (a12 : Option Addr),
 ∃ (n13 : Nat),
 ∃ (n14 : Nat),
 ∃ (x15 : Int),
 Reads Proofs.Try.prog [] (Instr.loadAt 58 (Value.pointer (some ad8))) w6
 (Value.agg #[Value.int IntKind.i64 x9, Value.int IntKind.i64 x10, Value.int IntKind.i64 x11, Value.slice a12 n13 n14, Value.int IntKind.i64 x15]) ∧
 ∀ (n16 : Nat),
 w6.heap.size ≤ n16 →
 ∀ (w17 : World),
 Evo [n16] w6 w17 →
 Under [n1, n16] w17 →
 Calls Proofs.Try.prog 37
 #[Value.agg
 #[Value.int IntKind.i64 b_0, Value.int IntKind.i64 b_1, Value.int IntKind.i64 b_2, Value.int IntKind.i64 b_3, Value.int IntKind.i64 b_4, Value.int IntKind.i64 b_5,
 Value.int IntKind.i64 b_6, Value.int IntKind.i64 b_7, Value.int IntKind.i64 b_8, Value.int IntKind.i64 b_9, Value.int IntKind.i64 b_10, Value.slice b_11a b_11n b_11c,
 Value.slice b_12a b_12n b_12c, Value.slice b_13a b_13n b_13c, Value.slice b_14a b_14n b_14c, Value.slice b_15a b_15n b_15c],
 Value.int IntKind.i64 x10]
 w17 fun (e18 : Ending) (w19 : World) =>
 ∃ (x20 : Int),
 e18 = Ending.returned (Value.int IntKind.i64 x20) ∧
 Keeps [n1, n16] w17 w19 ∧
 ∃ (J21 : Unit → World → Prop),
 (∃ (J22 : Bool × Unit → World → Prop),
 ((decide (x9 < 1) = true → ∀ (w23 : World), Bel w19 w23 → Under [n1, n16] w23 → J22 (true, ()) w23) ∧
 (decide (x9 < 1) = false →
 (decide (x9 > b_10) = true → ∀ (w24 : World), Bel w19 w24 → Under [n1, n16] w24 → J22 (true, ()) w24) ∧
 (decide (x9 > b_10) = false →
 (decide (x5 > 0) = true →
 ∃ (ad25 : Addr),
 Gives Proofs.Try.prog (Instr.indexAt 27 (Value.slice b_13a b_13n b_13c) (Value.int IntKind.i64 (IntKind.i64.wrap (x5 - 1)))) (Value.pointer (some ad25)) ∧
 ∃ (x26 : Int),
 Reads Proofs.Try.prog [] (Instr.loadAt 2 (Value.pointer (some ad25))) w19 (Value.int IntKind.i64 x26) ∧
 (decide (x9 ≤ x26) = true → ∀ (w27 : World), Bel w19 w27 → Under [n1, n16] w27 → J22 (true, ()) w27) ∧
 (decide (x9 ≤ x26) = false →
 (decide (x20 < 0) = true → ∀ (w28 : World), Bel w19 w28 → Under [n1, n16] w28 → J22 (true, ()) w28) ∧
 (decide (x20 < 0) = false →
 ∀ (w29 : World),
 Bel w19 w29 →
 Under [n1, n16] w29 →
 Calls Proofs.Try.prog 38
 #[Value.agg
 #[Value.int IntKind.i64 b_0, Value.int IntKind.i64 b_1, Value.int IntKind.i64 b_2, Value.int IntKind.i64 b_3,
 Value.int IntKind.i64 b_4, Value.int IntKind.i64 b_5, Value.int IntKind.i64 b_6, Value.int IntKind.i64 b_7,
 Value.int IntKind.i64 b_8, Value.int IntKind.i64 b_9, Value.int IntKind.i64 b_10, Value.slice b_11a b_11n b_11c,
 Value.slice b_12a b_12n b_12c, Value.slice b_13a b_13n b_13c, Value.slice b_14a b_14n b_14c, Value.slice b_15a b_15n b_15c],
 Value.int IntKind.i64 x11]
 w29 fun (e30 : Ending) (w31 : World) =>
 ∃ (x32 : Int),
 e30 = Ending.returned (Value.int IntKind.i64 x32) ∧
 Keeps [n1, n16] w29 w31 ∧
 Reads Proofs.Try.prog [] (Instr.loadAt 2 (Value.pointer (some ad25))) w31 (Value.int IntKind.i64 x26) ∧
 J22 (decide (x32 < 0), ()) w31))) ∧
 (decide (x5 > 0) = false →
 (decide (x20 < 0) = true → ∀ (w33 : World), Bel w19 w33 → Under [n1, n16] w33 → J22 (true, ()) w33) ∧
 (decide (x20 < 0) = false →
 ∀ (w34 : World),
 Bel w19 w34 →
 Under [n1, n16] w34 →
 Calls Proofs.Try.prog 38
 #[Value.agg
 #[Value.int IntKind.i64 b_0, Value.int IntKind.i64 b_1, Value.int IntKind.i64 b_2, Value.int IntKind.i64 b_3, Value.int IntKind.i64 b_4,
 Value.int IntKind.i64 b_5, Value.int IntKind.i64 b_6, Value.int IntKind.i64 b_7, Value.int IntKind.i64 b_8, Value.int IntKind.i64 b_9,
 Value.int IntKind.i64 b_10, Value.slice b_11a b_11n b_11c, Value.slice b_12a b_12n b_12c, Value.slice b_13a b_13n b_13c,
 Value.slice b_14a b_14n b_14c, Value.slice b_15a b_15n b_15c],
 Value.int IntKind.i64 x11]
 w34 fun (e35 : Ending) (w36 : World) =>
 ∃ (x37 : Int), e35 = Ending.returned (Value.int IntKind.i64 x37) ∧ Keeps [n1, n16] w34 w36 ∧ J22 (decide (x37 < 0), ()) w36))))) ∧
 ∀ (b38 : Bool) (w39 : World), J22 (b38, ()) w39 → (b38 = true → R (Ending.returned (Value.bool false)) w39) ∧ (b38 = false → J21 () w39)) ∧
 ∀ (w40 : World),
 J21 () w40 →
 ∃ (J41 : Bool × Unit → World → Prop),
 (∃ (ad42 : Addr),
 Gives Proofs.Try.prog (Instr.indexAt 25 (Value.slice b_11a b_11n b_11c) (Value.int IntKind.i64 x20)) (Value.pointer (some ad42)) ∧
 ∃ (b43 : Bool),
 Reads Proofs.Try.prog [] (Instr.loadAt 4 (Value.pointer (some (Addr.mk ad42.block (ad42.off + 3) none)))) w40 (Value.bool b43) ∧
 ((!b43) = true → ∀ (w44 : World), Bel w40 w44 → Under [n1, n16] w44 → J41 (true, ()) w44) ∧
 ((!b43) = false →
 ∃ (ad45 : Addr),
 Gives Proofs.Try.prog (Instr.indexAt 25 (Value.slice b_11a b_11n b_11c) (Value.int IntKind.i64 x20)) (Value.pointer (some ad45)) ∧
 ∃ (x46 : Int),
 Reads Proofs.Try.prog [] (Instr.loadAt 3 (Value.pointer (some (Addr.mk ad45.block (ad45.off + 1) none)))) w40 (Value.int IntKind.i64 x46) ∧
 ∀ (w47 : World),
 Bel w40 w47 →
 Under [n1, n16] w47 →
 Calls Proofs.Try.prog 68 #[Value.slice a12 n13 n14, Value.int IntKind.i64 x46] w47 fun (e48 : Ending) (w49 : World) =>
 ∃ (b50 : Bool),
 e48 = Ending.returned (Value.bool b50) ∧
 Keeps [n1, n16] w47 w49 ∧
 Reads Proofs.Try.prog [] (Instr.loadAt 4 (Value.pointer (some (Addr.mk ad42.block (ad42.off + 3) none)))) w49 (Value.bool b43) ∧
 ((!b50) = true → J41 (true, ()) w49) ∧
 ((!b50) = false →
 ((b_3 == 0) = true →
 ((x15 != 0) = true → J41 (true, ()) w49) ∧
 ((x15 != 0) = false →
 (decide (b_3 > 0) = true →
 (decide (x15 ≤ b_9) = true → J41 (true, ()) w49) ∧
 (decide (x15 ≤ b_9) = false → J41 (decide (x15 > IntKind.i64.wrap (b_9 + b_3)), ()) w49)) ∧
 (decide (b_3 > 0) = false → J41 (false, ()) w49))) ∧
 ((b_3 == 0) = false →
 (decide (b_3 > 0) = true →
 (decide (x15 ≤ b_9) = true → J41 (true, ()) w49) ∧
 (decide (x15 ≤ b_9) = false → J41 (decide (x15 > IntKind.i64.wrap (b_9 + b_3)), ()) w49)) ∧
 (decide (b_3 > 0) = false → J41 (false, ()) w49))))) ∧
 ∀ (b51 : Bool) (w52 : World), J41 (b51, ()) w52 → (b51 = true → R (Ending.returned (Value.bool false)) w52) ∧ (b51 = false → J7 () w52)) ∧
 ∀ (w53 : World), J7 () w53 → J2 (IntKind.i64.wrap (x5 + 1), ()) w53 ∧ J3 (IntKind.i64.wrap (x5 + 1), ()) w53 < J3 (x5, ()) w6) ∧
 (decide (x5 < (↑b_13n : Int)) = false → R (Ending.returned (Value.bool true)) w6)
theorem f33_eq (b_0 : Int) (b_1 : Int) (b_2 : Int) (b_3 : Int) (b_4 : Int) (b_5 : Int) (b_6 : Int) (b_7 : Int) (b_8 : Int) (b_9 : Int) (b_10 : Int) (b_11a : Option Addr) (b_11n : Nat) (b_11c : Nat) (b_12a : Option Addr) (b_12n : Nat) (b_12c : Nat) (b_13a : Option Addr) (b_13n : Nat) (b_13c : Nat) (b_14a : Option Addr) (b_14n : Nat) (b_14c : Nat) (b_15a : Option Addr) (b_15n : Nat) (b_15c : Nat) (w : World) (R : Ending → World → Prop) : (fnF Go.Proofs.Try.prog h33 Go.Proofs.Try.f33 [Value.agg
 #[Value.int IntKind.i64 b_0, Value.int IntKind.i64 b_1, Value.int IntKind.i64 b_2, Value.int IntKind.i64 b_3, Value.int IntKind.i64 b_4, Value.int IntKind.i64 b_5, Value.int IntKind.i64 b_6, Value.int IntKind.i64 b_7,
 Value.int IntKind.i64 b_8, Value.int IntKind.i64 b_9, Value.int IntKind.i64 b_10, Value.slice b_11a b_11n b_11c, Value.slice b_12a b_12n b_12c, Value.slice b_13a b_13n b_13c, Value.slice b_14a b_14n b_14c,
 Value.slice b_15a b_15n b_15c]] w R).den = f33_vc b_0 b_1 b_2 b_3 b_4 b_5 b_6 b_7 b_8 b_9 b_10 b_11a b_11n b_11c b_12a b_12n b_12c b_13a b_13n b_13c b_14a b_14n b_14c b_15a b_15n b_15c w R := by kernel_rfl
theorem f33_calls (b_0 : Int) (b_1 : Int) (b_2 : Int) (b_3 : Int) (b_4 : Int) (b_5 : Int) (b_6 : Int) (b_7 : Int) (b_8 : Int) (b_9 : Int) (b_10 : Int) (b_11a : Option Addr) (b_11n : Nat) (b_11c : Nat) (b_12a : Option Addr) (b_12n : Nat) (b_12c : Nat) (b_13a : Option Addr) (b_13n : Nat) (b_13c : Nat) (b_14a : Option Addr) (b_14n : Nat) (b_14c : Nat) (b_15a : Option Addr) (b_15n : Nat) (b_15c : Nat) (w : World) (R : Ending → World → Prop) (h : f33_vc b_0 b_1 b_2 b_3 b_4 b_5 b_6 b_7 b_8 b_9 b_10 b_11a b_11n b_11c b_12a b_12n b_12c b_13a b_13n b_13c b_14a b_14n b_14c b_15a b_15n b_15c w R) : Calls Go.Proofs.Try.prog 33 (List.toArray [Value.agg
 #[Value.int IntKind.i64 b_0, Value.int IntKind.i64 b_1, Value.int IntKind.i64 b_2, Value.int IntKind.i64 b_3, Value.int IntKind.i64 b_4, Value.int IntKind.i64 b_5, Value.int IntKind.i64 b_6, Value.int IntKind.i64 b_7,
 Value.int IntKind.i64 b_8, Value.int IntKind.i64 b_9, Value.int IntKind.i64 b_10, Value.slice b_11a b_11n b_11c, Value.slice b_12a b_12n b_12c, Value.slice b_13a b_13n b_13c, Value.slice b_14a b_14n b_14c,
 Value.slice b_15a b_15n b_15c]]) w R :=
 fn_sound (H := h33) (fn := Go.Proofs.Try.f33) (by kernel_rfl) (by kernel_rfl) (by kernel_rfl) ((f33_eq b_0 b_1 b_2 b_3 b_4 b_5 b_6 b_7 b_8 b_9 b_10 b_11a b_11n b_11c b_12a b_12n b_12c b_13a b_13n b_13c b_14a b_14n b_14c b_15a b_15n b_15c w R).mpr h)


/-! manciple/mancipleref16.tasks -/
def h34 : Hints := ⟨[1, 4], [16, 43, 58, 69, 80], [10, 48, 86, 26, 30, 37, 51, 62, 73], [(6, [0, 1, 2, 3, 4, 5, 6, 7, 8, 9, 10, 11, 12, 13, 14, 15, 16, 17, 18, 19, 20, 21, 22, 23, 24, 25, 26]), (8, [0, 1, 2, 3, 4, 5, 6, 7, 8, 9, 10, 11, 12, 13, 14, 15, 16, 17, 18, 19, 20, 21, 22, 23, 24, 25, 26, 27, 28, 29, 30, 31, 32, 33, 34, 35, 36, 37])], [], [(2, ⟨[(3, .int .i64)], []⟩)], [(3, ⟨[], []⟩), (8, ⟨[], []⟩), (7, ⟨[(48, .bool)], []⟩), (9, ⟨[(86, .bool)], []⟩)], [], []⟩
def f34_vc (b_0 : Int) (b_1 : Int) (b_2 : Int) (b_3 : Int) (b_4 : Int) (b_5 : Int) (b_6 : Int) (b_7 : Int) (b_8 : Int) (b_9 : Int) (b_10 : Int) (b_11a : Option Addr) (b_11n : Nat) (b_11c : Nat) (b_12a : Option Addr) (b_12n : Nat) (b_12c : Nat) (b_13a : Option Addr) (b_13n : Nat) (b_13c : Nat) (b_14a : Option Addr) (b_14n : Nat) (b_14c : Nat) (b_15a : Option Addr) (b_15n : Nat) (b_15c : Nat) (w : World) (R : Ending → World → Prop) : Prop :=
 ∀ (n1 : Nat),
 w.heap.size ≤ n1 →
 ∃ (J2 : Int × Unit → World → Prop),
 ∃ (J3 : Int × Unit → World → Nat),
 (∀ (w4 : World), Bel w w4 → Under [n1] w4 → J2 (0, ()) w4) ∧
 ∀ (x5 : Int) (w6 : World),
 J2 (x5, ()) w6 →
 (decide (x5 < (↑b_14n : Int)) = true →
 ∃ (J7 : Unit → World → Prop),
 (∃ (ad8 : Addr),
 Gives Proofs.Try.prog (Instr.indexAt 28 (Value.slice b_14a b_14n b_14c) (Value.int IntKind.i64 x5)) (Value.pointer (some ad8)) ∧
 ∃ (x9 : Int),
 ∃ (x10 : Int),
 ∃ (x11 : Int),
 ∃ (a12 : Option Addr),
 ∃ (n13 : Nat),
 ∃ (n14 : Nat),
 Reads Proofs.Try.prog [] (Instr.loadAt 60 (Value.pointer (some ad8))) w6 (Value.agg #[Value.int IntKind.i64 x9, Value.int IntKind.i64 x10, Value.int IntKind.i64 x11, Value.slice a12 n13 n14]) ∧
 ∀ (n15 : Nat),
 w6.heap.size ≤ n15 →
 ∀ (w16 : World),
 Evo [n15] w6 w16 →
 Under [n1, n15] w16 →
 Calls Proofs.Try.prog 37
 #[Value.agg
 #[Value.int IntKind.i64 b_0, Value.int IntKind.i64 b_1, Value.int IntKind.i64 b_2, Value.int IntKind.i64 b_3, Value.int IntKind.i64 b_4, Value.int IntKind.i64 b_5,
 Value.int IntKind.i64 b_6, Value.int IntKind.i64 b_7, Value.int IntKind.i64 b_8, Value.int IntKind.i64 b_9, Value.int IntKind.i64 b_10, Value.slice b_11a b_11n b_11c,
 Value.slice b_12a b_12n b_12c, Value.slice b_13a b_13n b_13c, Value.slice b_14a b_14n b_14c, Value.slice b_15a b_15n b_15c],
 Value.int IntKind.i64 x9]
 w16 fun (e17 : Ending) (w18 : World) =>
 ∃ (x19 : Int),
 e17 = Ending.returned (Value.int IntKind.i64 x19) ∧
 Keeps [n1, n15] w16 w18 ∧
 ∃ (J20 : Unit → World → Prop),
 (∃ (J21 : Bool × Unit → World → Prop),
 (∀ (w22 : World),
 Bel w18 w22 →
 Under [n1, n15] w22 →
 Calls Proofs.Try.prog 67 #[Value.int IntKind.i64 x10] w22 fun (e23 : Ending) (w24 : World) =>
 ∃ (b25 : Bool),
 e23 = Ending.returned (Value.bool b25) ∧
 Keeps [n1, n15] w22 w24 ∧
 ((!b25) = true → J21 (true, ()) w24) ∧
 ((!b25) = false →
 (decide (x19 < 0) = true → J21 (true, ()) w24) ∧
 (decide (x19 < 0) = false →
 Calls Proofs.Try.prog 38
 #[Value.agg
 #[Value.int IntKind.i64 b_0, Value.int IntKind.i64 b_1, Value.int IntKind.i64 b_2, Value.int IntKind.i64 b_3, Value.int IntKind.i64 b_4,
 Value.int IntKind.i64 b_5, Value.int IntKind.i64 b_6, Value.int IntKind.i64 b_7, Value.int IntKind.i64 b_8, Value.int IntKind.i64 b_9,
 Value.int IntKind.i64 b_10, Value.slice b_11a b_11n b_11c, Value.slice b_12a b_12n b_12c, Value.slice b_13a b_13n b_13c,
 Value.slice b_14a b_14n b_14c, Value.slice b_15a b_15n b_15c],
 Value.int IntKind.i64 x11]
 w24 fun (e26 : Ending) (w27 : World) =>
 ∃ (x28 : Int),
 e26 = Ending.returned (Value.int IntKind.i64 x28) ∧
 Keeps [n1, n15] w24 w27 ∧
 (decide (x28 < 0) = true → J21 (true, ()) w27) ∧
 (decide (x28 < 0) = false →
 ∃ (ad29 : Addr),
 Gives Proofs.Try.prog (Instr.indexAt 25 (Value.slice b_11a b_11n b_11c) (Value.int IntKind.i64 x19)) (Value.pointer (some ad29)) ∧
 ∃ (x30 : Int),
 Reads Proofs.Try.prog [] (Instr.loadAt 3 (Value.pointer (some (Addr.mk ad29.block (ad29.off + 1) none)))) w27
 (Value.int IntKind.i64 x30) ∧
 Calls Proofs.Try.prog 68 #[Value.slice a12 n13 n14, Value.int IntKind.i64 x30] w27 fun (e31 : Ending) (w32 : World) =>
 ∃ (b33 : Bool), e31 = Ending.returned (Value.bool b33) ∧ Keeps [n1, n15] w27 w32 ∧ J21 (!b33, ()) w32)))) ∧
 ∀ (b34 : Bool) (w35 : World), J21 (b34, ()) w35 → (b34 = true → R (Ending.returned (Value.bool false)) w35) ∧ (b34 = false → J20 () w35)) ∧
 ∀ (w36 : World),
 J20 () w36 →
 ∃ (J37 : Bool × Unit → World → Prop),
 ((decide (x5 > 0) = true →
 ∃ (ad38 : Addr),
 Gives Proofs.Try.prog (Instr.indexAt 28 (Value.slice b_14a b_14n b_14c) (Value.int IntKind.i64 (IntKind.i64.wrap (x5 - 1)))) (Value.pointer (some ad38)) ∧
 ∃ (x39 : Int),
 Reads Proofs.Try.prog [] (Instr.loadAt 2 (Value.pointer (some ad38))) w36 (Value.int IntKind.i64 x39) ∧
 (decide (x9 < x39) = true → ∀ (w40 : World), Bel w36 w40 → Under [n1, n15] w40 → J37 (true, ()) w40) ∧
 (decide (x9 < x39) = false →
 ∃ (ad41 : Addr),
 Gives Proofs.Try.prog (Instr.indexAt 28 (Value.slice b_14a b_14n b_14c) (Value.int IntKind.i64 (IntKind.i64.wrap (x5 - 1))))
 (Value.pointer (some ad41)) ∧
 ∃ (x42 : Int),
 Reads Proofs.Try.prog [] (Instr.loadAt 2 (Value.pointer (some ad41))) w36 (Value.int IntKind.i64 x42) ∧
 ((x9 == x42) = true →
 ∃ (ad43 : Addr),
 Gives Proofs.Try.prog (Instr.indexAt 28 (Value.slice b_14a b_14n b_14c) (Value.int IntKind.i64 (IntKind.i64.wrap (x5 - 1))))
 (Value.pointer (some ad43)) ∧
 ∃ (x44 : Int),
 Reads Proofs.Try.prog [] (Instr.loadAt 2 (Value.pointer (some (Addr.mk ad43.block (ad43.off + 1) none)))) w36
 (Value.int IntKind.i64 x44) ∧
 ∀ (w45 : World), Bel w36 w45 → Under [n1, n15] w45 → J37 (decide (x10 ≤ x44), ()) w45) ∧
 ((x9 == x42) = false → ∀ (w46 : World), Bel w36 w46 → Under [n1, n15] w46 → J37 (false, ()) w46))) ∧
 (decide (x5 > 0) = false → ∀ (w47 : World), Bel w36 w47 → Under [n1, n15] w47 → J37 (false, ()) w47)) ∧
 ∀ (b48 : Bool) (w49 : World), J37 (b48, ()) w49 → (b48 = true → R (Ending.returned (Value.bool false)) w49) ∧ (b48 = false → J7 () w49)) ∧
 ∀ (w50 : World), J7 () w50 → J2 (IntKind.i64.wrap (x5 + 1), ()) w50 ∧ J3 (IntKind.i64.wrap (x5 + 1), ()) w50 < J3 (x5, ()) w6) ∧
 (decide (x5 < (↑b_14n : Int)) = false → R (Ending.returned (Value.bool (decide ((↑b_14n : Int) ≤ b_4)))) w6)
theorem f34_eq (b_0 : Int) (b_1 : Int) (b_2 : Int) (b_3 : Int) (b_4 : Int) (b_5 : Int) (b_6 : Int) (b_7 : Int) (b_8 : Int) (b_9 : Int) (b_10 : Int) (b_11a : Option Addr) (b_11n : Nat) (b_11c : Nat) (b_12a : Option Addr) (b_12n : Nat) (b_12c : Nat) (b_13a : Option Addr) (b_13n : Nat) (b_13c : Nat) (b_14a : Option Addr) (b_14n : Nat) (b_14c : Nat) (b_15a : Option Addr) (b_15n : Nat) (b_15c : Nat) (w : World) (R : Ending → World → Prop) : (fnF Go.Proofs.Try.prog h34 Go.Proofs.Try.f34 [Value.agg
 #[Value.int IntKind.i64 b_0, Value.int IntKind.i64 b_1, Value.int IntKind.i64 b_2, Value.int IntKind.i64 b_3, Value.int IntKind.i64 b_4, Value.int IntKind.i64 b_5, Value.int IntKind.i64 b_6, Value.int IntKind.i64 b_7,
 Value.int IntKind.i64 b_8, Value.int IntKind.i64 b_9, Value.int IntKind.i64 b_10, Value.slice b_11a b_11n b_11c, Value.slice b_12a b_12n b_12c, Value.slice b_13a b_13n b_13c, Value.slice b_14a b_14n b_14c,
 Value.slice b_15a b_15n b_15c]] w R).den = f34_vc b_0 b_1 b_2 b_3 b_4 b_5 b_6 b_7 b_8 b_9 b_10 b_11a b_11n b_11c b_12a b_12n b_12c b_13a b_13n b_13c b_14a b_14n b_14c b_15a b_15n b_15c w R := by kernel_rfl
theorem f34_calls (b_0 : Int) (b_1 : Int) (b_2 : Int) (b_3 : Int) (b_4 : Int) (b_5 : Int) (b_6 : Int) (b_7 : Int) (b_8 : Int) (b_9 : Int) (b_10 : Int) (b_11a : Option Addr) (b_11n : Nat) (b_11c : Nat) (b_12a : Option Addr) (b_12n : Nat) (b_12c : Nat) (b_13a : Option Addr) (b_13n : Nat) (b_13c : Nat) (b_14a : Option Addr) (b_14n : Nat) (b_14c : Nat) (b_15a : Option Addr) (b_15n : Nat) (b_15c : Nat) (w : World) (R : Ending → World → Prop) (h : f34_vc b_0 b_1 b_2 b_3 b_4 b_5 b_6 b_7 b_8 b_9 b_10 b_11a b_11n b_11c b_12a b_12n b_12c b_13a b_13n b_13c b_14a b_14n b_14c b_15a b_15n b_15c w R) : Calls Go.Proofs.Try.prog 34 (List.toArray [Value.agg
 #[Value.int IntKind.i64 b_0, Value.int IntKind.i64 b_1, Value.int IntKind.i64 b_2, Value.int IntKind.i64 b_3, Value.int IntKind.i64 b_4, Value.int IntKind.i64 b_5, Value.int IntKind.i64 b_6, Value.int IntKind.i64 b_7,
 Value.int IntKind.i64 b_8, Value.int IntKind.i64 b_9, Value.int IntKind.i64 b_10, Value.slice b_11a b_11n b_11c, Value.slice b_12a b_12n b_12c, Value.slice b_13a b_13n b_13c, Value.slice b_14a b_14n b_14c,
 Value.slice b_15a b_15n b_15c]]) w R :=
 fn_sound (H := h34) (fn := Go.Proofs.Try.f34) (by kernel_rfl) (by kernel_rfl) (by kernel_rfl) ((f34_eq b_0 b_1 b_2 b_3 b_4 b_5 b_6 b_7 b_8 b_9 b_10 b_11a b_11n b_11c b_12a b_12n b_12c b_13a b_13n b_13c b_14a b_14n b_14c b_15a b_15n b_15c w R).mpr h)


/-! manciple/mancipleref16.filters -/
def h35 : Hints := ⟨[1, 4], [15, 61], [9, 67, 22, 29, 35, 41, 48, 53, 56], [(5, [0, 1, 2, 3, 4, 5, 6, 7, 8, 9, 10, 11, 12, 13, 14, 15, 16, 17, 18, 19, 20, 21, 22, 23, 24, 25, 26, 27, 28, 29, 30, 31, 32, 33, 34, 35, 36, 37, 38, 39, 40, 41, 42, 43, 44, 45, 46, 47, 48, 49, 50])], [], [(2, ⟨[(3, .int .i64)], []⟩)], [(3, ⟨[], []⟩), (6, ⟨[(67, .bool)], []⟩)], [], []⟩
def f35_vc (b_0 : Int) (b_1 : Int) (b_2 : Int) (b_3 : Int) (b_4 : Int) (b_5 : Int) (b_6 : Int) (b_7 : Int) (b_8 : Int) (b_9 : Int) (b_10 : Int) (b_11a : Option Addr) (b_11n : Nat) (b_11c : Nat) (b_12a : Option Addr) (b_12n : Nat) (b_12c : Nat) (b_13a : Option Addr) (b_13n : Nat) (b_13c : Nat) (b_14a : Option Addr) (b_14n : Nat) (b_14c : Nat) (b_15a : Option Addr) (b_15n : Nat) (b_15c : Nat) (w : World) (R : Ending → World → Prop) : Prop :=
 ∀ (n1 : Nat),
 w.heap.size ≤ n1 →
 ∃ (J2 : Int × Unit → World → Prop),
 ∃ (J3 : Int × Unit → World → Nat),
 (∀ (w4 : World), Bel w w4 → Under [n1] w4 → J2 (0, ()) w4) ∧
 ∀ (x5 : Int) (w6 : World),
 J2 (x5, ()) w6 →
 (decide (x5 < (↑b_15n : Int)) = true →
 ∃ (J7 : Unit → World → Prop),
 (∃ (ad8 : Addr),
 Gives Proofs.Try.prog (Instr.indexAt 29 (Value.slice b_15a b_15n b_15c) (Value.int IntKind.i64 x5)) (Value.pointer (some ad8)) ∧
 ∃ (x9 : Int),
 ∃ (x10 : Int),
 ∃ (x11 : Int),
 ∃ (a12 : Option Addr),
 ∃ (n13 : Nat),
 ∃ (n14 : Nat),
 Reads Proofs.Try.prog [] (Instr.loadAt 62 (Value.pointer (some ad8))) w6 (Value.agg #[Value.int IntKind.i64 x9, Value.int IntKind.i64 x10, Value.int IntKind.i64 x11, Value.slice a12 n13 n14]) ∧
 ∀ (n15 : Nat),
 w6.heap.size ≤ n15 →
 ∃ (J16 : Bool × Unit → World → Prop),
 (∀ (w17 : World),
 Evo [n15] w6 w17 →
 Under [n1, n15] w17 →
 Calls Proofs.Try.prog 37
 #[Value.agg
 #[Value.int IntKind.i64 b_0, Value.int IntKind.i64 b_1, Value.int IntKind.i64 b_2, Value.int IntKind.i64 b_3, Value.int IntKind.i64 b_4, Value.int IntKind.i64 b_5,
 Value.int IntKind.i64 b_6, Value.int IntKind.i64 b_7, Value.int IntKind.i64 b_8, Value.int IntKind.i64 b_9, Value.int IntKind.i64 b_10, Value.slice b_11a b_11n b_11c,
 Value.slice b_12a b_12n b_12c, Value.slice b_13a b_13n b_13c, Value.slice b_14a b_14n b_14c, Value.slice b_15a b_15n b_15c],
 Value.int IntKind.i64 x9]
 w17 fun (e18 : Ending) (w19 : World) =>
 ∃ (x20 : Int),
 e18 = Ending.returned (Value.int IntKind.i64 x20) ∧
 Keeps [n1, n15] w17 w19 ∧
 (decide (x20 < 0) = true → J16 (true, ()) w19) ∧
 (decide (x20 < 0) = false →
 Calls Proofs.Try.prog 38
 #[Value.agg
 #[Value.int IntKind.i64 b_0, Value.int IntKind.i64 b_1, Value.int IntKind.i64 b_2, Value.int IntKind.i64 b_3, Value.int IntKind.i64 b_4, Value.int IntKind.i64 b_5,
 Value.int IntKind.i64 b_6, Value.int IntKind.i64 b_7, Value.int IntKind.i64 b_8, Value.int IntKind.i64 b_9, Value.int IntKind.i64 b_10, Value.slice b_11a b_11n b_11c,
 Value.slice b_12a b_12n b_12c, Value.slice b_13a b_13n b_13c, Value.slice b_14a b_14n b_14c, Value.slice b_15a b_15n b_15c],
 Value.int IntKind.i64 x10]
 w19 fun (e21 : Ending) (w22 : World) =>
 ∃ (x23 : Int),
 e21 = Ending.returned (Value.int IntKind.i64 x23) ∧
 Keeps [n1, n15] w19 w22 ∧
 (decide (x23 < 0) = true → J16 (true, ()) w22) ∧
 (decide (x23 < 0) = false →
 Calls Proofs.Try.prog 14 #[Value.slice a12 n13 n14] w22 fun (e24 : Ending) (w25 : World) =>
 ∃ (b26 : Bool),
 e24 = Ending.returned (Value.bool b26) ∧
 Keeps [n1, n15] w22 w25 ∧
 ((!b26) = true → J16 (true, ()) w25) ∧
 ((!b26) = false →
 (((↑n13 : Int) == 0) = true → J16 (true, ()) w25) ∧
 (((↑n13 : Int) == 0) = false →
 (decide (x11 ≤ b_9) = true → J16 (true, ()) w25) ∧
 (decide (x11 ≤ b_9) = false →
 (decide (x11 > 18014398509481984) = true → J16 (true, ()) w25) ∧
 (decide (x11 > 18014398509481984) = false →
 (decide (x5 > 0) = true →
 ∃ (ad27 : Addr),
 Gives Proofs.Try.prog (Instr.indexAt 29 (Value.slice b_15a b_15n b_15c) (Value.int IntKind.i64 (IntKind.i64.wrap (x5 - 1))))
 (Value.pointer (some ad27)) ∧
 ∃ (x28 : Int),
 ∃ (x29 : Int),
 ∃ (x30 : Int),
 ∃ (a31 : Option Addr),
 ∃ (n32 : Nat),
 ∃ (n33 : Nat),
 Reads Proofs.Try.prog [] (Instr.loadAt 62 (Value.pointer (some ad27))) w25
 (Value.agg
 #[Value.int IntKind.i64 x28, Value.int IntKind.i64 x29, Value.int IntKind.i64 x30, Value.slice a31 n32 n33]) ∧
 Calls Proofs.Try.prog 69
 #[Value.agg
 #[Value.int IntKind.i64 x28, Value.int IntKind.i64 x29, Value.int IntKind.i64 x30, Value.slice a31 n32 n33],
 Value.agg
 #[Value.int IntKind.i64 x9, Value.int IntKind.i64 x10, Value.int IntKind.i64 x11, Value.slice a12 n13 n14]]
 w25 fun (e34 : Ending) (w35 : World) =>
 ∃ (b36 : Bool), e34 = Ending.returned (Value.bool b36) ∧ Keeps [n1, n15] w25 w35 ∧ J16 (!b36, ()) w35) ∧
 (decide (x5 > 0) = false → J16 (false, ()) w25)))))))) ∧
 ∀ (b37 : Bool) (w38 : World), J16 (b37, ()) w38 → (b37 = true → R (Ending.returned (Value.bool false)) w38) ∧ (b37 = false → J7 () w38)) ∧
 ∀ (w39 : World), J7 () w39 → J2 (IntKind.i64.wrap (x5 + 1), ()) w39 ∧ J3 (IntKind.i64.wrap (x5 + 1), ()) w39 < J3 (x5, ()) w6) ∧
 (decide (x5 < (↑b_15n : Int)) = false → R (Ending.returned (Value.bool (decide ((↑b_15n : Int) ≤ b_4)))) w6)
theorem f35_eq (b_0 : Int) (b_1 : Int) (b_2 : Int) (b_3 : Int) (b_4 : Int) (b_5 : Int) (b_6 : Int) (b_7 : Int) (b_8 : Int) (b_9 : Int) (b_10 : Int) (b_11a : Option Addr) (b_11n : Nat) (b_11c : Nat) (b_12a : Option Addr) (b_12n : Nat) (b_12c : Nat) (b_13a : Option Addr) (b_13n : Nat) (b_13c : Nat) (b_14a : Option Addr) (b_14n : Nat) (b_14c : Nat) (b_15a : Option Addr) (b_15n : Nat) (b_15c : Nat) (w : World) (R : Ending → World → Prop) : (fnF Go.Proofs.Try.prog h35 Go.Proofs.Try.f35 [Value.agg
 #[Value.int IntKind.i64 b_0, Value.int IntKind.i64 b_1, Value.int IntKind.i64 b_2, Value.int IntKind.i64 b_3, Value.int IntKind.i64 b_4, Value.int IntKind.i64 b_5, Value.int IntKind.i64 b_6, Value.int IntKind.i64 b_7,
 Value.int IntKind.i64 b_8, Value.int IntKind.i64 b_9, Value.int IntKind.i64 b_10, Value.slice b_11a b_11n b_11c, Value.slice b_12a b_12n b_12c, Value.slice b_13a b_13n b_13c, Value.slice b_14a b_14n b_14c,
 Value.slice b_15a b_15n b_15c]] w R).den = f35_vc b_0 b_1 b_2 b_3 b_4 b_5 b_6 b_7 b_8 b_9 b_10 b_11a b_11n b_11c b_12a b_12n b_12c b_13a b_13n b_13c b_14a b_14n b_14c b_15a b_15n b_15c w R := by kernel_rfl
theorem f35_calls (b_0 : Int) (b_1 : Int) (b_2 : Int) (b_3 : Int) (b_4 : Int) (b_5 : Int) (b_6 : Int) (b_7 : Int) (b_8 : Int) (b_9 : Int) (b_10 : Int) (b_11a : Option Addr) (b_11n : Nat) (b_11c : Nat) (b_12a : Option Addr) (b_12n : Nat) (b_12c : Nat) (b_13a : Option Addr) (b_13n : Nat) (b_13c : Nat) (b_14a : Option Addr) (b_14n : Nat) (b_14c : Nat) (b_15a : Option Addr) (b_15n : Nat) (b_15c : Nat) (w : World) (R : Ending → World → Prop) (h : f35_vc b_0 b_1 b_2 b_3 b_4 b_5 b_6 b_7 b_8 b_9 b_10 b_11a b_11n b_11c b_12a b_12n b_12c b_13a b_13n b_13c b_14a b_14n b_14c b_15a b_15n b_15c w R) : Calls Go.Proofs.Try.prog 35 (List.toArray [Value.agg
 #[Value.int IntKind.i64 b_0, Value.int IntKind.i64 b_1, Value.int IntKind.i64 b_2, Value.int IntKind.i64 b_3, Value.int IntKind.i64 b_4, Value.int IntKind.i64 b_5, Value.int IntKind.i64 b_6, Value.int IntKind.i64 b_7,
 Value.int IntKind.i64 b_8, Value.int IntKind.i64 b_9, Value.int IntKind.i64 b_10, Value.slice b_11a b_11n b_11c, Value.slice b_12a b_12n b_12c, Value.slice b_13a b_13n b_13c, Value.slice b_14a b_14n b_14c,
 Value.slice b_15a b_15n b_15c]]) w R :=
 fn_sound (H := h35) (fn := Go.Proofs.Try.f35) (by kernel_rfl) (by kernel_rfl) (by kernel_rfl) ((f35_eq b_0 b_1 b_2 b_3 b_4 b_5 b_6 b_7 b_8 b_9 b_10 b_11a b_11n b_11c b_12a b_12n b_12c b_13a b_13n b_13c b_14a b_14n b_14c b_15a b_15n b_15c w R).mpr h)


/-! manciple/mancipleref16.ledger -/
def h36 : Hints := ⟨[1], [18, 34, 40, 49, 68, 74, 83, 96], [12, 28, 43, 62, 77, 101, 26, 60, 91], [(8, [0, 1, 2, 3, 4, 5, 6, 7, 8, 9, 10, 11, 12]), (13, [0, 1, 2, 3, 4, 5, 6, 7, 8, 9, 10, 11, 12])], [], [(2, ⟨[(3, .int .i64)], []⟩), (6, ⟨[(4, .sl), (5, .bool), (6, .int .i64)], []⟩), (11, ⟨[(4, .sl), (5, .bool), (7, .int .i64)], []⟩)], [(10, ⟨[(4, .sl), (5, .bool)], []⟩), (7, ⟨[(4, .sl), (5, .bool)], []⟩), (15, ⟨[(4, .sl), (5, .bool)], []⟩), (12, ⟨[(4, .sl), (5, .bool)], []⟩)], [], []⟩
def f36_vc (b_0 : Int) (b_1 : Int) (b_2 : Int) (b_3 : Int) (b_4 : Int) (b_5 : Int) (b_6 : Int) (b_7 : Int) (b_8 : Int) (b_9 : Int) (b_10 : Int) (b_11a : Option Addr) (b_11n : Nat) (b_11c : Nat) (b_12a : Option Addr) (b_12n : Nat) (b_12c : Nat) (b_13a : Option Addr) (b_13n : Nat) (b_13c : Nat) (b_14a : Option Addr) (b_14n : Nat) (b_14c : Nat) (b_15a : Option Addr) (b_15n : Nat) (b_15c : Nat) (w : World) (R : Ending → World → Prop) : Prop :=
 ∀ (n1 : Nat),
 w.heap.size ≤ n1 →
 ∃ (J2 : Int × Unit → World → Prop),
 ∃ (J3 : Int × Unit → World → Nat),
 (∀ (w4 : World), Bel w w4 → Under [n1] w4 → J2 (0, ()) w4) ∧
 ∀ (x5 : Int) (w6 : World),
 J2 (x5, ()) w6 →
 (decide (x5 < (↑b_12n : Int)) = true →
 ∃ (ad7 : Addr),
 Gives Proofs.Try.prog (Instr.indexAt 26 (Value.slice b_12a b_12n b_12c) (Value.int IntKind.i64 x5)) (Value.pointer (some ad7)) ∧
 ∃ (a8 : Option Addr),
 ∃ (n9 : Nat),
 ∃ (n10 : Nat),
 Reads Proofs.Try.prog [] (Instr.loadAt 33 (Value.pointer (some (Addr.mk ad7.block (ad7.off + 2) none)))) w6 (Value.slice a8 n9 n10) ∧
 ∃ (J11 : (Option Addr × Nat × Nat) × Bool × Unit → World → Prop),
 (∃ (J12 : (Option Addr × Nat × Nat) × Bool × Int × Unit → World → Prop),
 ∃ (J13 : (Option Addr × Nat × Nat) × Bool × Int × Unit → World → Nat),
 J12 ((a8, n9, n10), true, 0, ()) w6 ∧
 ∀ (a14 : Option Addr) (n15 n16 : Nat) (b17 : Bool) (x18 : Int) (w19 : World),
 J12 ((a14, n15, n16), b17, x18, ()) w19 →
 (decide (x18 < (↑b_13n : Int)) = true →
 (b17 = true →
 ∃ (J20 : (Option Addr × Nat × Nat) × Bool × Unit → World → Prop),
 (∃ (ad21 : Addr),
 Gives Proofs.Try.prog (Instr.indexAt 27 (Value.slice b_13a b_13n b_13c) (Value.int IntKind.i64 x18)) (Value.pointer (some ad21)) ∧
 ∃ (x22 : Int),
 Reads Proofs.Try.prog [] (Instr.loadAt 2 (Value.pointer (some (Addr.mk ad21.block (ad21.off + 2) none)))) w19 (Value.int IntKind.i64 x22) ∧
 ∃ (ad23 : Addr),
 Gives Proofs.Try.prog (Instr.indexAt 26 (Value.slice b_12a b_12n b_12c) (Value.int IntKind.i64 x5)) (Value.pointer (some ad23)) ∧
 ∃ (x24 : Int),
 Reads Proofs.Try.prog [] (Instr.loadAt 2 (Value.pointer (some ad23))) w19 (Value.int IntKind.i64 x24) ∧
 ((x22 == x24) = true →
 ∃ (ad25 : Addr),
 Gives Proofs.Try.prog (Instr.indexAt 27 (Value.slice b_13a b_13n b_13c) (Value.int IntKind.i64 x18)) (Value.pointer (some ad25)) ∧
 ∃ (a26 : Option Addr),
 ∃ (n27 : Nat),
 ∃ (n28 : Nat),
 Reads Proofs.Try.prog [] (Instr.loadAt 33 (Value.pointer (some (Addr.mk ad25.block (ad25.off + 3) none)))) w19 (Value.slice a26 n27 n28) ∧
 ∀ (w29 : World),
 Bel w19 w29 →
 Under [n1] w29 →
 Calls Proofs.Try.prog 70 #[Value.slice a14 n15 n16, Value.slice a26 n27 n28] w29 fun (e30 : Ending) (w31 : World) =>
 ∃ (a32 : Option Addr),
 ∃ (n33 : Nat),
 ∃ (n34 : Nat),
 ∃ (b35 : Bool),
 e30 = Ending.returned (Value.tuple #[Value.slice a32 n33 n34, Value.bool b35]) ∧
 Keeps [n1] w29 w31 ∧ J20 ((a32, n33, n34), b35, ()) w31) ∧
 ((x22 == x24) = false → ∀ (w36 : World), Bel w19 w36 → Under [n1] w36 → J20 ((a14, n15, n16), b17, ()) w36)) ∧
 ∀ (a37 : Option Addr) (n38 n39 : Nat) (b40 : Bool) (w41 : World),
 J20 ((a37, n38, n39), b40, ()) w41 →
 J12 ((a37, n38, n39), b40, IntKind.i64.wrap (x18 + 1), ()) w41 ∧ J13 ((a37, n38, n39), b40, IntKind.i64.wrap (x18 + 1), ()) w41 < J13 ((a14, n15, n16), b17, x18, ()) w19) ∧
 (b17 = false → J11 ((a14, n15, n16), b17, ()) w19)) ∧
 (decide (x18 < (↑b_13n : Int)) = false → J11 ((a14, n15, n16), b17, ()) w19)) ∧
 ∀ (a42 : Option Addr) (n43 n44 : Nat) (b45 : Bool) (w46 : World),
 J11 ((a42, n43, n44), b45, ()) w46 →
 ∃ (J47 : (Option Addr × Nat × Nat) × Bool × Unit → World → Prop),
 (∃ (J48 : (Option Addr × Nat × Nat) × Bool × Int × Unit → World → Prop),
 ∃ (J49 : (Option Addr × Nat × Nat) × Bool × Int × Unit → World → Nat),
 J48 ((a42, n43, n44), b45, 0, ()) w46 ∧
 ∀ (a50 : Option Addr) (n51 n52 : Nat) (b53 : Bool) (x54 : Int) (w55 : World),
 J48 ((a50, n51, n52), b53, x54, ()) w55 →
 (decide (x54 < (↑b_14n : Int)) = true →
 (b53 = true →
 ∃ (J56 : (Option Addr × Nat × Nat) × Bool × Unit → World → Prop),
 (∃ (ad57 : Addr),
 Gives Proofs.Try.prog (Instr.indexAt 28 (Value.slice b_14a b_14n b_14c) (Value.int IntKind.i64 x54)) (Value.pointer (some ad57)) ∧
 ∃ (x58 : Int),
 Reads Proofs.Try.prog [] (Instr.loadAt 2 (Value.pointer (some (Addr.mk ad57.block (ad57.off + 2) none)))) w55 (Value.int IntKind.i64 x58) ∧
 ∃ (ad59 : Addr),
 Gives Proofs.Try.prog (Instr.indexAt 26 (Value.slice b_12a b_12n b_12c) (Value.int IntKind.i64 x5)) (Value.pointer (some ad59)) ∧
 ∃ (x60 : Int),
 Reads Proofs.Try.prog [] (Instr.loadAt 2 (Value.pointer (some ad59))) w55 (Value.int IntKind.i64 x60) ∧
 ((x58 == x60) = true →
 ∃ (ad61 : Addr),
 Gives Proofs.Try.prog (Instr.indexAt 28 (Value.slice b_14a b_14n b_14c) (Value.int IntKind.i64 x54)) (Value.pointer (some ad61)) ∧
 ∃ (a62 : Option Addr),
 ∃ (n63 : Nat),
 ∃ (n64 : Nat),
 Reads Proofs.Try.prog [] (Instr.loadAt 33 (Value.pointer (some (Addr.mk ad61.block (ad61.off + 3) none)))) w55 (Value.slice a62 n63 n64) ∧
 ∀ (w65 : World),
 Bel w55 w65 →
 Under [n1] w65 →
 Calls Proofs.Try.prog 70 #[Value.slice a50 n51 n52, Value.slice a62 n63 n64] w65 fun (e66 : Ending) (w67 : World) =>
 ∃ (a68 : Option Addr),
 ∃ (n69 : Nat),
 ∃ (n70 : Nat),
 ∃ (b71 : Bool),
 e66 = Ending.returned (Value.tuple #[Value.slice a68 n69 n70, Value.bool b71]) ∧
 Keeps [n1] w65 w67 ∧ J56 ((a68, n69, n70), b71, ()) w67) ∧
 ((x58 == x60) = false → ∀ (w72 : World), Bel w55 w72 → Under [n1] w72 → J56 ((a50, n51, n52), b53, ()) w72)) ∧
 ∀ (a73 : Option Addr) (n74 n75 : Nat) (b76 : Bool) (w77 : World),
 J56 ((a73, n74, n75), b76, ()) w77 →
 J48 ((a73, n74, n75), b76, IntKind.i64.wrap (x54 + 1), ()) w77 ∧ J49 ((a73, n74, n75), b76, IntKind.i64.wrap (x54 + 1), ()) w77 < J49 ((a50, n51, n52), b53, x54, ()) w55) ∧
 (b53 = false → J47 ((a50, n51, n52), b53, ()) w55)) ∧
 (decide (x54 < (↑b_14n : Int)) = false → J47 ((a50, n51, n52), b53, ()) w55)) ∧
 ∀ (a78 : Option Addr) (n79 n80 : Nat) (b81 : Bool) (w82 : World),
 J47 ((a78, n79, n80), b81, ()) w82 →
 ((!b81) = true → R (Ending.returned (Value.bool false)) w82) ∧
 ((!b81) = false →
 ∃ (ad83 : Addr),
 Gives Proofs.Try.prog (Instr.indexAt 26 (Value.slice b_12a b_12n b_12c) (Value.int IntKind.i64 x5)) (Value.pointer (some ad83)) ∧
 ∃ (a84 : Option Addr),
 ∃ (n85 : Nat),
 ∃ (n86 : Nat),
 Reads Proofs.Try.prog [] (Instr.loadAt 33 (Value.pointer (some (Addr.mk ad83.block (ad83.off + 1) none)))) w82 (Value.slice a84 n85 n86) ∧
 Calls Proofs.Try.prog 10 #[Value.slice a78 n79 n80, Value.slice a84 n85 n86] w82 fun (e87 : Ending) (w88 : World) =>
 ∃ (b89 : Bool),
 e87 = Ending.returned (Value.bool b89) ∧
 Keeps [n1] w82 w88 ∧
 ((!b89) = true → R (Ending.returned (Value.bool false)) w88) ∧
 ((!b89) = false → J2 (IntKind.i64.wrap (x5 + 1), ()) w88 ∧ J3 (IntKind.i64.wrap (x5 + 1), ()) w88 < J3 (x5, ()) w6))) ∧
 (decide (x5 < (↑b_12n : Int)) = false → R (Ending.returned (Value.bool true)) w6)
theorem f36_eq (b_0 : Int) (b_1 : Int) (b_2 : Int) (b_3 : Int) (b_4 : Int) (b_5 : Int) (b_6 : Int) (b_7 : Int) (b_8 : Int) (b_9 : Int) (b_10 : Int) (b_11a : Option Addr) (b_11n : Nat) (b_11c : Nat) (b_12a : Option Addr) (b_12n : Nat) (b_12c : Nat) (b_13a : Option Addr) (b_13n : Nat) (b_13c : Nat) (b_14a : Option Addr) (b_14n : Nat) (b_14c : Nat) (b_15a : Option Addr) (b_15n : Nat) (b_15c : Nat) (w : World) (R : Ending → World → Prop) : (fnF Go.Proofs.Try.prog h36 Go.Proofs.Try.f36 [Value.agg
 #[Value.int IntKind.i64 b_0, Value.int IntKind.i64 b_1, Value.int IntKind.i64 b_2, Value.int IntKind.i64 b_3, Value.int IntKind.i64 b_4, Value.int IntKind.i64 b_5, Value.int IntKind.i64 b_6, Value.int IntKind.i64 b_7,
 Value.int IntKind.i64 b_8, Value.int IntKind.i64 b_9, Value.int IntKind.i64 b_10, Value.slice b_11a b_11n b_11c, Value.slice b_12a b_12n b_12c, Value.slice b_13a b_13n b_13c, Value.slice b_14a b_14n b_14c,
 Value.slice b_15a b_15n b_15c]] w R).den = f36_vc b_0 b_1 b_2 b_3 b_4 b_5 b_6 b_7 b_8 b_9 b_10 b_11a b_11n b_11c b_12a b_12n b_12c b_13a b_13n b_13c b_14a b_14n b_14c b_15a b_15n b_15c w R := by kernel_rfl
theorem f36_calls (b_0 : Int) (b_1 : Int) (b_2 : Int) (b_3 : Int) (b_4 : Int) (b_5 : Int) (b_6 : Int) (b_7 : Int) (b_8 : Int) (b_9 : Int) (b_10 : Int) (b_11a : Option Addr) (b_11n : Nat) (b_11c : Nat) (b_12a : Option Addr) (b_12n : Nat) (b_12c : Nat) (b_13a : Option Addr) (b_13n : Nat) (b_13c : Nat) (b_14a : Option Addr) (b_14n : Nat) (b_14c : Nat) (b_15a : Option Addr) (b_15n : Nat) (b_15c : Nat) (w : World) (R : Ending → World → Prop) (h : f36_vc b_0 b_1 b_2 b_3 b_4 b_5 b_6 b_7 b_8 b_9 b_10 b_11a b_11n b_11c b_12a b_12n b_12c b_13a b_13n b_13c b_14a b_14n b_14c b_15a b_15n b_15c w R) : Calls Go.Proofs.Try.prog 36 (List.toArray [Value.agg
 #[Value.int IntKind.i64 b_0, Value.int IntKind.i64 b_1, Value.int IntKind.i64 b_2, Value.int IntKind.i64 b_3, Value.int IntKind.i64 b_4, Value.int IntKind.i64 b_5, Value.int IntKind.i64 b_6, Value.int IntKind.i64 b_7,
 Value.int IntKind.i64 b_8, Value.int IntKind.i64 b_9, Value.int IntKind.i64 b_10, Value.slice b_11a b_11n b_11c, Value.slice b_12a b_12n b_12c, Value.slice b_13a b_13n b_13c, Value.slice b_14a b_14n b_14c,
 Value.slice b_15a b_15n b_15c]]) w R :=
 fn_sound (H := h36) (fn := Go.Proofs.Try.f36) (by kernel_rfl) (by kernel_rfl) (by kernel_rfl) ((f36_eq b_0 b_1 b_2 b_3 b_4 b_5 b_6 b_7 b_8 b_9 b_10 b_11a b_11n b_11c b_12a b_12n b_12c b_13a b_13n b_13c b_14a b_14n b_14c b_15a b_15n b_15c w R).mpr h)


/-! manciple/mancipleref16.Frame -/
def h37 : Hints := ⟨[2], [16], [10, 20], [], [], [(2, ⟨[(5, .int .i64)], []⟩)], [], [], []⟩
def f37_vc (b_0 : Int) (b_1 : Int) (b_2 : Int) (b_3 : Int) (b_4 : Int) (b_5 : Int) (b_6 : Int) (b_7 : Int) (b_8 : Int) (b_9 : Int) (b_10 : Int) (b_11a : Option Addr) (b_11n : Nat) (b_11c : Nat) (b_12a : Option Addr) (b_12n : Nat) (b_12c : Nat) (b_13a : Option Addr) (b_13n : Nat) (b_13c : Nat) (b_14a : Option Addr) (b_14n : Nat) (b_14c : Nat) (b_15a : Option Addr) (b_15n : Nat) (b_15c : Nat) (id : Int) (w : World) (R : Ending → World → Prop) : Prop :=
 ∀ (n1 : Nat),
 w.heap.size ≤ n1 →
 ∃ (J2 : Int × Unit → World → Prop),
 ∃ (J3 : Int × Unit → World → Nat),
 (∀ (w4 : World), Bel w w4 → Under [n1] w4 → J2 (0, ()) w4) ∧
 ∀ (x5 : Int) (w6 : World),
 J2 (x5, ()) w6 →
 (decide (x5 < (↑b_11n : Int)) = true →
 ∃ (ad7 : Addr),
 Gives Proofs.Try.prog (Instr.indexAt 25 (Value.slice b_11a b_11n b_11c) (Value.int IntKind.i64 x5)) (Value.pointer (some ad7)) ∧
 ∃ (x8 : Int),
 Reads Proofs.Try.prog [] (Instr.loadAt 2 (Value.pointer (some ad7))) w6 (Value.int IntKind.i64 x8) ∧
 ((x8 == id) = true → R (Ending.returned (Value.int IntKind.i64 x5)) w6) ∧ ((x8 == id) = false → J2 (IntKind.i64.wrap (x5 + 1), ()) w6 ∧ J3 (IntKind.i64.wrap (x5 + 1), ()) w6 < J3 (x5, ()) w6)) ∧
 (decide (x5 < (↑b_11n : Int)) = false → R (Ending.returned (Value.int IntKind.i64 (-1))) w6)
theorem f37_eq (b_0 : Int) (b_1 : Int) (b_2 : Int) (b_3 : Int) (b_4 : Int) (b_5 : Int) (b_6 : Int) (b_7 : Int) (b_8 : Int) (b_9 : Int) (b_10 : Int) (b_11a : Option Addr) (b_11n : Nat) (b_11c : Nat) (b_12a : Option Addr) (b_12n : Nat) (b_12c : Nat) (b_13a : Option Addr) (b_13n : Nat) (b_13c : Nat) (b_14a : Option Addr) (b_14n : Nat) (b_14c : Nat) (b_15a : Option Addr) (b_15n : Nat) (b_15c : Nat) (id : Int) (w : World) (R : Ending → World → Prop) : (fnF Go.Proofs.Try.prog h37 Go.Proofs.Try.f37 [Value.agg
 #[Value.int IntKind.i64 b_0, Value.int IntKind.i64 b_1, Value.int IntKind.i64 b_2, Value.int IntKind.i64 b_3, Value.int IntKind.i64 b_4, Value.int IntKind.i64 b_5, Value.int IntKind.i64 b_6, Value.int IntKind.i64 b_7,
 Value.int IntKind.i64 b_8, Value.int IntKind.i64 b_9, Value.int IntKind.i64 b_10, Value.slice b_11a b_11n b_11c, Value.slice b_12a b_12n b_12c, Value.slice b_13a b_13n b_13c, Value.slice b_14a b_14n b_14c,
 Value.slice b_15a b_15n b_15c],
 Value.int IntKind.i64 id] w R).den = f37_vc b_0 b_1 b_2 b_3 b_4 b_5 b_6 b_7 b_8 b_9 b_10 b_11a b_11n b_11c b_12a b_12n b_12c b_13a b_13n b_13c b_14a b_14n b_14c b_15a b_15n b_15c id w R := by kernel_rfl
theorem f37_calls (b_0 : Int) (b_1 : Int) (b_2 : Int) (b_3 : Int) (b_4 : Int) (b_5 : Int) (b_6 : Int) (b_7 : Int) (b_8 : Int) (b_9 : Int) (b_10 : Int) (b_11a : Option Addr) (b_11n : Nat) (b_11c : Nat) (b_12a : Option Addr) (b_12n : Nat) (b_12c : Nat) (b_13a : Option Addr) (b_13n : Nat) (b_13c : Nat) (b_14a : Option Addr) (b_14n : Nat) (b_14c : Nat) (b_15a : Option Addr) (b_15n : Nat) (b_15c : Nat) (id : Int) (w : World) (R : Ending → World → Prop) (h : f37_vc b_0 b_1 b_2 b_3 b_4 b_5 b_6 b_7 b_8 b_9 b_10 b_11a b_11n b_11c b_12a b_12n b_12c b_13a b_13n b_13c b_14a b_14n b_14c b_15a b_15n b_15c id w R) : Calls Go.Proofs.Try.prog 37 (List.toArray [Value.agg
 #[Value.int IntKind.i64 b_0, Value.int IntKind.i64 b_1, Value.int IntKind.i64 b_2, Value.int IntKind.i64 b_3, Value.int IntKind.i64 b_4, Value.int IntKind.i64 b_5, Value.int IntKind.i64 b_6, Value.int IntKind.i64 b_7,
 Value.int IntKind.i64 b_8, Value.int IntKind.i64 b_9, Value.int IntKind.i64 b_10, Value.slice b_11a b_11n b_11c, Value.slice b_12a b_12n b_12c, Value.slice b_13a b_13n b_13c, Value.slice b_14a b_14n b_14c,
 Value.slice b_15a b_15n b_15c],
 Value.int IntKind.i64 id]) w R :=
 fn_sound (H := h37) (fn := Go.Proofs.Try.f37) (by kernel_rfl) (by kernel_rfl) (by kernel_rfl) ((f37_eq b_0 b_1 b_2 b_3 b_4 b_5 b_6 b_7 b_8 b_9 b_10 b_11a b_11n b_11c b_12a b_12n b_12c b_13a b_13n b_13c b_14a b_14n b_14c b_15a b_15n b_15c id w R).mpr h)


/-! manciple/mancipleref16.Agent -/
def h38 : Hints := ⟨[2], [16], [10, 20], [], [], [(2, ⟨[(5, .int .i64)], []⟩)], [], [], []⟩
def f38_vc (b_0 : Int) (b_1 : Int) (b_2 : Int) (b_3 : Int) (b_4 : Int) (b_5 : Int) (b_6 : Int) (b_7 : Int) (b_8 : Int) (b_9 : Int) (b_10 : Int) (b_11a : Option Addr) (b_11n : Nat) (b_11c : Nat) (b_12a : Option Addr) (b_12n : Nat) (b_12c : Nat) (b_13a : Option Addr) (b_13n : Nat) (b_13c : Nat) (b_14a : Option Addr) (b_14n : Nat) (b_14c : Nat) (b_15a : Option Addr) (b_15n : Nat) (b_15c : Nat) (id : Int) (w : World) (R : Ending → World → Prop) : Prop :=
 ∀ (n1 : Nat),
 w.heap.size ≤ n1 →
 ∃ (J2 : Int × Unit → World → Prop),
 ∃ (J3 : Int × Unit → World → Nat),
 (∀ (w4 : World), Bel w w4 → Under [n1] w4 → J2 (0, ()) w4) ∧
 ∀ (x5 : Int) (w6 : World),
 J2 (x5, ()) w6 →
 (decide (x5 < (↑b_12n : Int)) = true →
 ∃ (ad7 : Addr),
 Gives Proofs.Try.prog (Instr.indexAt 26 (Value.slice b_12a b_12n b_12c) (Value.int IntKind.i64 x5)) (Value.pointer (some ad7)) ∧
 ∃ (x8 : Int),
 Reads Proofs.Try.prog [] (Instr.loadAt 2 (Value.pointer (some ad7))) w6 (Value.int IntKind.i64 x8) ∧
 ((x8 == id) = true → R (Ending.returned (Value.int IntKind.i64 x5)) w6) ∧ ((x8 == id) = false → J2 (IntKind.i64.wrap (x5 + 1), ()) w6 ∧ J3 (IntKind.i64.wrap (x5 + 1), ()) w6 < J3 (x5, ()) w6)) ∧
 (decide (x5 < (↑b_12n : Int)) = false → R (Ending.returned (Value.int IntKind.i64 (-1))) w6)
theorem f38_eq (b_0 : Int) (b_1 : Int) (b_2 : Int) (b_3 : Int) (b_4 : Int) (b_5 : Int) (b_6 : Int) (b_7 : Int) (b_8 : Int) (b_9 : Int) (b_10 : Int) (b_11a : Option Addr) (b_11n : Nat) (b_11c : Nat) (b_12a : Option Addr) (b_12n : Nat) (b_12c : Nat) (b_13a : Option Addr) (b_13n : Nat) (b_13c : Nat) (b_14a : Option Addr) (b_14n : Nat) (b_14c : Nat) (b_15a : Option Addr) (b_15n : Nat) (b_15c : Nat) (id : Int) (w : World) (R : Ending → World → Prop) : (fnF Go.Proofs.Try.prog h38 Go.Proofs.Try.f38 [Value.agg
 #[Value.int IntKind.i64 b_0, Value.int IntKind.i64 b_1, Value.int IntKind.i64 b_2, Value.int IntKind.i64 b_3, Value.int IntKind.i64 b_4, Value.int IntKind.i64 b_5, Value.int IntKind.i64 b_6, Value.int IntKind.i64 b_7,
 Value.int IntKind.i64 b_8, Value.int IntKind.i64 b_9, Value.int IntKind.i64 b_10, Value.slice b_11a b_11n b_11c, Value.slice b_12a b_12n b_12c, Value.slice b_13a b_13n b_13c, Value.slice b_14a b_14n b_14c,
 Value.slice b_15a b_15n b_15c],
 Value.int IntKind.i64 id] w R).den = f38_vc b_0 b_1 b_2 b_3 b_4 b_5 b_6 b_7 b_8 b_9 b_10 b_11a b_11n b_11c b_12a b_12n b_12c b_13a b_13n b_13c b_14a b_14n b_14c b_15a b_15n b_15c id w R := by kernel_rfl
theorem f38_calls (b_0 : Int) (b_1 : Int) (b_2 : Int) (b_3 : Int) (b_4 : Int) (b_5 : Int) (b_6 : Int) (b_7 : Int) (b_8 : Int) (b_9 : Int) (b_10 : Int) (b_11a : Option Addr) (b_11n : Nat) (b_11c : Nat) (b_12a : Option Addr) (b_12n : Nat) (b_12c : Nat) (b_13a : Option Addr) (b_13n : Nat) (b_13c : Nat) (b_14a : Option Addr) (b_14n : Nat) (b_14c : Nat) (b_15a : Option Addr) (b_15n : Nat) (b_15c : Nat) (id : Int) (w : World) (R : Ending → World → Prop) (h : f38_vc b_0 b_1 b_2 b_3 b_4 b_5 b_6 b_7 b_8 b_9 b_10 b_11a b_11n b_11c b_12a b_12n b_12c b_13a b_13n b_13c b_14a b_14n b_14c b_15a b_15n b_15c id w R) : Calls Go.Proofs.Try.prog 38 (List.toArray [Value.agg
 #[Value.int IntKind.i64 b_0, Value.int IntKind.i64 b_1, Value.int IntKind.i64 b_2, Value.int IntKind.i64 b_3, Value.int IntKind.i64 b_4, Value.int IntKind.i64 b_5, Value.int IntKind.i64 b_6, Value.int IntKind.i64 b_7,
 Value.int IntKind.i64 b_8, Value.int IntKind.i64 b_9, Value.int IntKind.i64 b_10, Value.slice b_11a b_11n b_11c, Value.slice b_12a b_12n b_12c, Value.slice b_13a b_13n b_13c, Value.slice b_14a b_14n b_14c,
 Value.slice b_15a b_15n b_15c],
 Value.int IntKind.i64 id]) w R :=
 fn_sound (H := h38) (fn := Go.Proofs.Try.f38) (by kernel_rfl) (by kernel_rfl) (by kernel_rfl) ((f38_eq b_0 b_1 b_2 b_3 b_4 b_5 b_6 b_7 b_8 b_9 b_10 b_11a b_11n b_11c b_12a b_12n b_12c b_13a b_13n b_13c b_14a b_14n b_14c b_15a b_15n b_15c id w R).mpr h)


/-! manciple/mancipleref16.Few -/
def h6 : Hints := ⟨[1], [38, 46, 62, 78, 94], [31, 55, 71, 87], [(5, [0, 1, 2, 3, 4, 5, 6, 7, 8, 9, 10, 11, 12, 13, 14, 15, 16, 17])], [], [(3, ⟨[(3, .int .i64), (4, .int .i64)], []⟩), (7, ⟨[(3, .int .i64), (5, .int .i64)], []⟩), (11, ⟨[(3, .int .i64), (6, .int .i64)], []⟩), (15, ⟨[(3, .int .i64), (7, .int .i64)], []⟩)], [], [], []⟩
def f6_vc (b_0 : Int) (b_1 : Int) (b_2 : Int) (b_3 : Int) (b_4 : Int) (b_5 : Int) (b_6 : Int) (b_7 : Int) (b_8 : Int) (b_9 : Int) (b_10 : Int) (b_11a : Option Addr) (b_11n : Nat) (b_11c : Nat) (b_12a : Option Addr) (b_12n : Nat) (b_12c : Nat) (b_13a : Option Addr) (b_13n : Nat) (b_13c : Nat) (b_14a : Option Addr) (b_14n : Nat) (b_14c : Nat) (b_15a : Option Addr) (b_15n : Nat) (b_15c : Nat) (w : World) (R : Ending → World → Prop) : Prop :=
 ∀ (n1 : Nat),
 w.heap.size ≤ n1 →
 ∃ (J2 : Int × Int × Unit → World → Prop),
 ∃ (J3 : Int × Int × Unit → World → Nat),
 (∀ (w4 : World), Bel w w4 → Under [n1] w4 → J2 (IntKind.i64.wrap (IntKind.i64.wrap (IntKind.i64.wrap (IntKind.i64.wrap ((↑b_11n : Int) + (↑b_12n : Int)) + (↑b_13n : Int)) + (↑b_14n : Int)) + (↑b_15n : Int)), 0, ()) w4) ∧
 ∀ (x5 x6 : Int) (w7 : World),
 J2 (x5, x6, ()) w7 →
 (decide (x6 < (↑b_12n : Int)) = true →
 ∃ (ad8 : Addr),
 Gives Proofs.Try.prog (Instr.indexAt 26 (Value.slice b_12a b_12n b_12c) (Value.int IntKind.i64 x6)) (Value.pointer (some ad8)) ∧
 ∃ (a9 : Option Addr),
 ∃ (n10 : Nat),
 ∃ (n11 : Nat),
 Reads Proofs.Try.prog [] (Instr.loadAt 33 (Value.pointer (some (Addr.mk ad8.block (ad8.off + 1) none)))) w7 (Value.slice a9 n10 n11) ∧
 ∃ (ad12 : Addr),
 Gives Proofs.Try.prog (Instr.indexAt 26 (Value.slice b_12a b_12n b_12c) (Value.int IntKind.i64 x6)) (Value.pointer (some ad12)) ∧
 ∃ (a13 : Option Addr),
 ∃ (n14 : Nat),
 ∃ (n15 : Nat),
 Reads Proofs.Try.prog [] (Instr.loadAt 33 (Value.pointer (some (Addr.mk ad12.block (ad12.off + 2) none)))) w7 (Value.slice a13 n14 n15) ∧
 ∀ (w16 : World),
 Bel w7 w16 →
 Under [n1] w16 →
 J2 (IntKind.i64.wrap (IntKind.i64.wrap (x5 + (↑n10 : Int)) + (↑n14 : Int)), IntKind.i64.wrap (x6 + 1), ()) w16 ∧
 J3 (IntKind.i64.wrap (IntKind.i64.wrap (x5 + (↑n10 : Int)) + (↑n14 : Int)), IntKind.i64.wrap (x6 + 1), ()) w16 < J3 (x5, x6, ()) w7) ∧
 (decide (x6 < (↑b_12n : Int)) = false →
 ∃ (J17 : Int × Int × Unit → World → Prop),
 ∃ (J18 : Int × Int × Unit → World → Nat),
 J17 (x5, 0, ()) w7 ∧
 ∀ (x19 x20 : Int) (w21 : World),
 J17 (x19, x20, ()) w21 →
 (decide (x20 < (↑b_13n : Int)) = true →
 ∃ (ad22 : Addr),
 Gives Proofs.Try.prog (Instr.indexAt 27 (Value.slice b_13a b_13n b_13c) (Value.int IntKind.i64 x20)) (Value.pointer (some ad22)) ∧
 ∃ (a23 : Option Addr),
 ∃ (n24 : Nat),
 ∃ (n25 : Nat),
 Reads Proofs.Try.prog [] (Instr.loadAt 33 (Value.pointer (some (Addr.mk ad22.block (ad22.off + 3) none)))) w21 (Value.slice a23 n24 n25) ∧
 J17 (IntKind.i64.wrap (x19 + (↑n24 : Int)), IntKind.i64.wrap (x20 + 1), ()) w21 ∧ J18 (IntKind.i64.wrap (x19 + (↑n24 : Int)), IntKind.i64.wrap (x20 + 1), ()) w21 < J18 (x19, x20, ()) w21) ∧
 (decide (x20 < (↑b_13n : Int)) = false →
 ∃ (J26 : Int × Int × Unit → World → Prop),
 ∃ (J27 : Int × Int × Unit → World → Nat),
 J26 (x19, 0, ()) w21 ∧
 ∀ (x28 x29 : Int) (w30 : World),
 J26 (x28, x29, ()) w30 →
 (decide (x29 < (↑b_14n : Int)) = true →
 ∃ (ad31 : Addr),
 Gives Proofs.Try.prog (Instr.indexAt 28 (Value.slice b_14a b_14n b_14c) (Value.int IntKind.i64 x29)) (Value.pointer (some ad31)) ∧
 ∃ (a32 : Option Addr),
 ∃ (n33 : Nat),
 ∃ (n34 : Nat),
 Reads Proofs.Try.prog [] (Instr.loadAt 33 (Value.pointer (some (Addr.mk ad31.block (ad31.off + 3) none)))) w30 (Value.slice a32 n33 n34) ∧
 J26 (IntKind.i64.wrap (x28 + (↑n33 : Int)), IntKind.i64.wrap (x29 + 1), ()) w30 ∧
 J27 (IntKind.i64.wrap (x28 + (↑n33 : Int)), IntKind.i64.wrap (x29 + 1), ()) w30 < J27 (x28, x29, ()) w30) ∧
 (decide (x29 < (↑b_14n : Int)) = false →
 ∃ (J35 : Int × Int × Unit → World → Prop),
 ∃ (J36 : Int × Int × Unit → World → Nat),
 J35 (x28, 0, ()) w30 ∧
 ∀ (x37 x38 : Int) (w39 : World),
 J35 (x37, x38, ()) w39 →
 (decide (x38 < (↑b_15n : Int)) = true →
 ∃ (ad40 : Addr),
 Gives Proofs.Try.prog (Instr.indexAt 29 (Value.slice b_15a b_15n b_15c) (Value.int IntKind.i64 x38)) (Value.pointer (some ad40)) ∧
 ∃ (a41 : Option Addr),
 ∃ (n42 : Nat),
 ∃ (n43 : Nat),
 Reads Proofs.Try.prog [] (Instr.loadAt 33 (Value.pointer (some (Addr.mk ad40.block (ad40.off + 3) none)))) w39 (Value.slice a41 n42 n43) ∧
 J35 (IntKind.i64.wrap (x37 + (↑n42 : Int)), IntKind.i64.wrap (x38 + 1), ()) w39 ∧
 J36 (IntKind.i64.wrap (x37 + (↑n42 : Int)), IntKind.i64.wrap (x38 + 1), ()) w39 < J36 (x37, x38, ()) w39) ∧
 (decide (x38 < (↑b_15n : Int)) = false → R (Ending.returned (Value.bool (decide (x37 ≤ 600)))) w39))))
theorem f6_eq (b_0 : Int) (b_1 : Int) (b_2 : Int) (b_3 : Int) (b_4 : Int) (b_5 : Int) (b_6 : Int) (b_7 : Int) (b_8 : Int) (b_9 : Int) (b_10 : Int) (b_11a : Option Addr) (b_11n : Nat) (b_11c : Nat) (b_12a : Option Addr) (b_12n : Nat) (b_12c : Nat) (b_13a : Option Addr) (b_13n : Nat) (b_13c : Nat) (b_14a : Option Addr) (b_14n : Nat) (b_14c : Nat) (b_15a : Option Addr) (b_15n : Nat) (b_15c : Nat) (w : World) (R : Ending → World → Prop) : (fnF Go.Proofs.Try.prog h6 Go.Proofs.Try.f6 [Value.agg
 #[Value.int IntKind.i64 b_0, Value.int IntKind.i64 b_1, Value.int IntKind.i64 b_2, Value.int IntKind.i64 b_3, Value.int IntKind.i64 b_4, Value.int IntKind.i64 b_5, Value.int IntKind.i64 b_6, Value.int IntKind.i64 b_7,
 Value.int IntKind.i64 b_8, Value.int IntKind.i64 b_9, Value.int IntKind.i64 b_10, Value.slice b_11a b_11n b_11c, Value.slice b_12a b_12n b_12c, Value.slice b_13a b_13n b_13c, Value.slice b_14a b_14n b_14c,
 Value.slice b_15a b_15n b_15c]] w R).den = f6_vc b_0 b_1 b_2 b_3 b_4 b_5 b_6 b_7 b_8 b_9 b_10 b_11a b_11n b_11c b_12a b_12n b_12c b_13a b_13n b_13c b_14a b_14n b_14c b_15a b_15n b_15c w R := by kernel_rfl
theorem f6_calls (b_0 : Int) (b_1 : Int) (b_2 : Int) (b_3 : Int) (b_4 : Int) (b_5 : Int) (b_6 : Int) (b_7 : Int) (b_8 : Int) (b_9 : Int) (b_10 : Int) (b_11a : Option Addr) (b_11n : Nat) (b_11c : Nat) (b_12a : Option Addr) (b_12n : Nat) (b_12c : Nat) (b_13a : Option Addr) (b_13n : Nat) (b_13c : Nat) (b_14a : Option Addr) (b_14n : Nat) (b_14c : Nat) (b_15a : Option Addr) (b_15n : Nat) (b_15c : Nat) (w : World) (R : Ending → World → Prop) (h : f6_vc b_0 b_1 b_2 b_3 b_4 b_5 b_6 b_7 b_8 b_9 b_10 b_11a b_11n b_11c b_12a b_12n b_12c b_13a b_13n b_13c b_14a b_14n b_14c b_15a b_15n b_15c w R) : Calls Go.Proofs.Try.prog 6 (List.toArray [Value.agg
 #[Value.int IntKind.i64 b_0, Value.int IntKind.i64 b_1, Value.int IntKind.i64 b_2, Value.int IntKind.i64 b_3, Value.int IntKind.i64 b_4, Value.int IntKind.i64 b_5, Value.int IntKind.i64 b_6, Value.int IntKind.i64 b_7,
 Value.int IntKind.i64 b_8, Value.int IntKind.i64 b_9, Value.int IntKind.i64 b_10, Value.slice b_11a b_11n b_11c, Value.slice b_12a b_12n b_12c, Value.slice b_13a b_13n b_13c, Value.slice b_14a b_14n b_14c,
 Value.slice b_15a b_15n b_15c]]) w R :=
 fn_sound (H := h6) (fn := Go.Proofs.Try.f6) (by kernel_rfl) (by kernel_rfl) (by kernel_rfl) ((f6_eq b_0 b_1 b_2 b_3 b_4 b_5 b_6 b_7 b_8 b_9 b_10 b_11a b_11n b_11c b_12a b_12n b_12c b_13a b_13n b_13c b_14a b_14n b_14c b_15a b_15n b_15c w R).mpr h)

end Vcw

/- A book in memory; places of frames and agents; agents and filters answer. -/
set_option maxRecDepth 20000
set_option maxHeartbeats 1000000
namespace Go.Vc.W
open Go Go.Vc Go.Vc.V Go.RowKit Go.Proofs Vcw

variable {w W W' : World} {M : Nat → Prop} {gs : List Nat}

/-- A frame: number, role, weight, up, quiet, two times. -/
abbrev FrT := Int × Int × Int × Bool × Bool × Int × Int
abbrev frE (x : FrT) : List Value := [.int .i64 x.1, .int .i64 x.2.1, .int .i64 x.2.2.1, .bool x.2.2.2.1, .bool x.2.2.2.2.1, .int .i64 x.2.2.2.2.2.1, .int .i64 x.2.2.2.2.2.2]
/-- An agent: number, total, free. -/
abbrev AgT := Int × List PartT × List PartT
def agR (W : World) (x : AgT) (cs : List Value) : Prop := ∃ a n c a2 n2 c2, cs = [.int .i64 x.1, .slice a n c, .slice a2 n2 c2] ∧ SlE W 3 partE x.2.1 a n c ∧ SlE W 3 partE x.2.2 a2 n2 c2
/-- An offer: number, frame, agent, vector, until. -/
abbrev OfT := Int × Int × Int × List PartT × Int
def ofR (W : World) (x : OfT) (cs : List Value) : Prop := ∃ a n c, cs = [.int .i64 x.1, .int .i64 x.2.1, .int .i64 x.2.2.1, .slice a n c, .int .i64 x.2.2.2.2] ∧ SlE W 3 partE x.2.2.2.1 a n c
/-- A task (frame, number, agent, vector) or a filter (frame, agent, until, vector). -/
abbrev TkT := Int × Int × Int × List PartT
def tkR (W : World) (x : TkT) (cs : List Value) : Prop := ∃ a n c, cs = [.int .i64 x.1, .int .i64 x.2.1, .int .i64 x.2.2.1, .slice a n c] ∧ SlE W 3 partE x.2.2.2 a n c

structure BkA where
  c0 : Int
  c1 : Int
  c2 : Int
  c3 : Int
  c4 : Int
  c5 : Int
  c6 : Int
  c7 : Int
  c8 : Int
  now : Int
  last : Int
  f : Option Addr × Nat × Nat
  a : Option Addr × Nat × Nat
  o : Option Addr × Nat × Nat
  t : Option Addr × Nat × Nat
  l : Option Addr × Nat × Nat
abbrev BkA.v (b : BkA) : Value := .agg #[.int .i64 b.c0, .int .i64 b.c1, .int .i64 b.c2, .int .i64 b.c3, .int .i64 b.c4, .int .i64 b.c5, .int .i64 b.c6, .int .i64 b.c7, .int .i64 b.c8, .int .i64 b.now, .int .i64 b.last, .slice b.f.1 b.f.2.1 b.f.2.2, .slice b.a.1 b.a.2.1 b.a.2.2, .slice b.o.1 b.o.2.1 b.o.2.2, .slice b.t.1 b.t.2.1 b.t.2.2, .slice b.l.1 b.l.2.1 b.l.2.2]
structure BkD where
  frs : List FrT
  ags : List AgT
  ofs : List OfT
  tks : List TkT
  fls : List TkT
/-- A book, as it lies in memory. -/
structure Bk (W : World) (b : BkA) (d : BkD) : Prop where
  fr : SlE W 7 frE d.frs b.f.1 b.f.2.1 b.f.2.2
  ag : SlR W 3 (agR W) d.ags b.a.1 b.a.2.1 b.a.2.2
  off : SlR W 5 (ofR W) d.ofs b.o.1 b.o.2.1 b.o.2.2
  tk : SlR W 4 (tkR W) d.tks b.t.1 b.t.2.1 b.t.2.2
  fl : SlR W 4 (tkR W) d.fls b.l.1 b.l.2.1 b.l.2.2
theorem Bk.call {b : BkA} {d : BkD} (h : Bk W b d) (hb : Bel W W') : Bk W' b d :=
  ⟨h.fr.call hb, h.ag.mono (cell_below hb.below) fun _ _ ⟨_, _, _, _, _, _, e, h1, h2⟩ => ⟨_, _, _, _, _, _, e, h1.call hb, h2.call hb⟩,
    h.off.mono (cell_below hb.below) fun _ _ ⟨_, _, _, e, h1⟩ => ⟨_, _, _, e, h1.call hb⟩,
    h.tk.mono (cell_below hb.below) fun _ _ ⟨_, _, _, e, h1⟩ => ⟨_, _, _, e, h1.call hb⟩,
    h.fl.mono (cell_below hb.below) fun _ _ ⟨_, _, _, e, h1⟩ => ⟨_, _, _, e, h1.call hb⟩⟩
/-- An element of related cells: where it lies. -/
theorem rel_at {α : Type} {t e : TypeId} {size : Nat} {R : α → List Value → Prop} {l : List α} {a : Option Addr} {n c : Nat} {x : α} {i : Nat} (hs : SlR W size R l a n c) (hx : l[i]? = some x) (ht : Try.prog.underlying t = some (.slice e)) (hz : pureRun Try.prog (sizeOf e) = some size) :
    ∃ ad cs, Gives Try.prog (Instr.indexAt t (.slice a n c) (.int .i64 (i : Int))) (.pointer (some ad)) ∧ Elt W ad cs ∧ R x cs := by
  obtain ⟨b, cs, rfl, hl, hcs, hr⟩ := hs.at_ hx
  have hi := (List.getElem?_eq_some_iff.1 hx).1
  have hn := hs.1
  exact ⟨b.add (i * size), cs, gives_index ht hz (by omega), hcs, hr⟩

def ixOf {α : Type} (k : α → Int) (id : Int) : List α → Nat → Int
  | [], _ => -1
  | x :: r, i => if k x = id then i else ixOf k id r (i + 1)
theorem ixOf_step {α : Type} {k : α → Int} {id : Int} {l : List α} {i : Nat} {x : α} (hx : l[i]? = some x) : ixOf k id (l.drop i) i = if k x = id then (i : Int) else ixOf k id (l.drop (i + 1)) (i + 1) := by
  rw [drop_cons hx, ixOf]
theorem ixOf_range {α : Type} {k : α → Int} {id : Int} : ∀ (l : List α) (i : Nat), ixOf k id l i < 0 ∨ ∃ j : Nat, ixOf k id l i = j ∧ i ≤ j ∧ j < i + l.length
  | [], i => .inl (by simp [ixOf])
  | x :: r, i => by
    rw [ixOf]
    split
    · exact .inr ⟨i, rfl, Nat.le_refl _, by simp⟩
    · rcases ixOf_range (k := k) (id := id) r (i + 1) with h | ⟨j, h1, h2, h3⟩
      · exact .inl h
      · exact .inr ⟨j, h1, by omega, by simp; omega⟩

theorem c37 {b : BkA} {d : BkD} (id : Int) (w : World) (hb : Bk w b d) : Ret Try.prog 37 #[b.v, .int .i64 id] w (.int .i64 (ixOf (·.1) id d.frs 0)) := by
  intro R h
  refine f37_calls _ _ _ _ _ _ _ _ _ _ _ _ _ _ _ _ _ _ _ _ _ _ _ _ _ _ id w R ?_
  unfold f37_vc
  have hn := hb.fr.len_le
  intro n1 hn1
  refine ⟨fun v W' => At w [n1] W' ∧ ∃ i : Nat, v.1 = i ∧ i ≤ d.frs.length ∧ ixOf (·.1) id (d.frs.drop i) i = ixOf (·.1) id d.frs 0, fun v _ => (b.f.2.1 - v.1).toNat, ⟨fun w4 hb4 hu => ⟨⟨((At.refl w).call hb4).chg, hu⟩, 0, rfl, Nat.zero_le _, rfl⟩, ?_⟩⟩
  rintro x5 w6 ⟨hA, i, hi, hil, hx⟩
  simp only at hi
  subst hi
  refine brD (fun hlt => ?_) (fun hge => leaf h hA ?_)
  · obtain ⟨p, hp⟩ : ∃ x, d.frs[i]? = some x := ⟨_, List.getElem?_eq_getElem (by omega)⟩
    obtain ⟨ad, g1, el, _⟩ := elt_at (P := Try.prog) (k := .i64) (t := 25) (hb.fr.call hA.below) hp (e := 48) (by kernel_rfl) (by kernel_rfl)
    rw [ixOf_step hp] at hx
    refine ⟨ad, g1, _, el.one (by kernel_rfl) (by simp), brE (fun he => leaf h hA ?_) (fun hne => ?_)⟩
    · rw [if_pos he] at hx
      rw [hx]
    · rw [if_neg hne] at hx
      rw [succ_i i (by omega)]
      exact ⟨⟨hA, i + 1, rfl, by omega, hx⟩, by simp only; omega⟩
  · rw [show i = d.frs.length by omega, List.drop_length, ixOf] at hx
    rw [← hx]
theorem c38 {b : BkA} {d : BkD} (id : Int) (w : World) (hb : Bk w b d) : Ret Try.prog 38 #[b.v, .int .i64 id] w (.int .i64 (ixOf (·.1) id d.ags 0)) := by
  intro R h
  refine f38_calls _ _ _ _ _ _ _ _ _ _ _ _ _ _ _ _ _ _ _ _ _ _ _ _ _ _ id w R ?_
  unfold f38_vc
  have hn := hb.ag.len_le
  intro n1 hn1
  refine ⟨fun v W' => At w [n1] W' ∧ ∃ i : Nat, v.1 = i ∧ i ≤ d.ags.length ∧ ixOf (·.1) id (d.ags.drop i) i = ixOf (·.1) id d.ags 0, fun v _ => (b.a.2.1 - v.1).toNat, ⟨fun w4 hb4 hu => ⟨⟨((At.refl w).call hb4).chg, hu⟩, 0, rfl, Nat.zero_le _, rfl⟩, ?_⟩⟩
  rintro x5 w6 ⟨hA, i, hi, hil, hx⟩
  simp only at hi
  subst hi
  refine brD (fun hlt => ?_) (fun hge => leaf h hA ?_)
  · obtain ⟨p, hp⟩ : ∃ x, d.ags[i]? = some x := ⟨_, List.getElem?_eq_getElem (by omega)⟩
    obtain ⟨ad, cs, g1, el, _, _, _, _, _, _, rfl, _, _⟩ := rel_at (t := 26) (hb.call hA.below).ag hp (e := 56) (by kernel_rfl) (by kernel_rfl)
    rw [ixOf_step hp] at hx
    refine ⟨ad, g1, _, el.one (by kernel_rfl) (by simp), brE (fun he => leaf h hA ?_) (fun hne => ?_)⟩
    · rw [if_pos he] at hx
      rw [hx]
    · rw [if_neg hne] at hx
      rw [succ_i i (by omega)]
      exact ⟨⟨hA, i + 1, rfl, by omega, hx⟩, by simp only; omega⟩
  · rw [show i = d.ags.length by omega, List.drop_length, ixOf] at hx
    rw [← hx]

theorem c31 {b : BkA} {d : BkD} (w : World) (hb : Bk w b d) : RetBool 31 #[b.v] w := by
  intro R h
  refine f31_calls _ _ _ _ _ _ _ _ _ _ _ _ _ _ _ _ _ _ _ _ _ _ _ _ _ _ w R ?_
  unfold f31_vc
  have hn := hb.ag.len_le
  have out : ∀ (x : Bool) {gs w'}, At w gs w' → R (.returned (.bool x)) w' := fun x _ w' hA => h _ _ hA.below ⟨x, rfl⟩
  intro n1 hn1
  refine ⟨fun v W' => At w [n1] W' ∧ ∃ i : Nat, v.1 = i ∧ i ≤ d.ags.length, fun v _ => (b.a.2.1 - v.1).toNat, ⟨fun w4 hb4 hu => ⟨⟨((At.refl w).call hb4).chg, hu⟩, 0, rfl, Nat.zero_le _⟩, ?_⟩⟩
  rintro x5 w6 ⟨hA, i, hi, hil⟩
  simp only at hi
  subst hi
  refine brD (fun hlt => ?_) (fun hge => out _ hA)
  obtain ⟨p, hp⟩ : ∃ x, d.ags[i]? = some x := ⟨_, List.getElem?_eq_getElem (by omega)⟩
  obtain ⟨ad, cs, g1, el, a1, m1, c1, a2, m2, c2, rfl, s1, s2⟩ := rel_at (t := 26) (hb.call hA.below).ag hp (e := 56) (by kernel_rfl) (by kernel_rfl)
  refine ⟨fun _ W' => At w [n1] W', ⟨ad, g1, _, _, _, _, _, _, _, el.agg 3 (by kernel_rfl) (by kernel_rfl) (by simp) (by simp), ?_⟩, ?_⟩
  · intro n16 hn16
    have hsz := hA.size
    refine ⟨fun _ W' => At w [n1] W', ?_, ?_⟩
    · intro w18 hev hun
      have hA18 := hA.evo (by intro x hx; simp at hx; omega) hev hun
      have hb18 := hev.bel (by intro x hx; simp at hx; omega)
      have s1 := s1.call hb18
      have s2 := s2.call hb18
      refine at_callb hA18 (c67 p.1 w18) fun w20 hA hk hb20 => ⟨_, rfl, hk, brNB (fun _ => hA.sub (by simp)) (fun _ => brD (fun hpos => ?_) (fun _ => ?_))⟩
      · obtain ⟨q, hq⟩ : ∃ x, d.ags[i - 1]? = some x := ⟨_, List.getElem?_eq_getElem (by omega)⟩
        obtain ⟨ad2, cs2, g2, el2, _, _, _, _, _, _, rfl, _, _⟩ := rel_at (t := 26) (hb.call hA.below).ag hq (e := 56) (by kernel_rfl) (by kernel_rfl)
        have e2 : IntKind.i64.wrap ((i : Int) - 1) = ((i - 1 : Nat) : Int) := by rw [wrap_i64 (by omega) (by omega)]; omega
        rw [e2]
        have rq : ∀ {W'}, Bel w20 W' → Reads Try.prog [] (Instr.loadAt 2 (.pointer (some ad2))) W' (.int .i64 q.1) := fun hb => (el2.below hb).one (by kernel_rfl) (by simp)
        refine ⟨ad2, g2, _, rq (At.refl w20).below, brD (fun _ => hA.sub (by simp)) (fun _ => ?_)⟩
        refine at_callb hA (c14 w20 (s1.call hb20)) fun w25 hA hk hb25 => ⟨_, rfl, hk, rq hb25, brNB (fun _ => hA.sub (by simp)) (fun _ => ?_)⟩
        exact at_callb hA (c14 w25 ((s2.call hb20).call hb25)) fun w28 hA hk hb28 => ⟨_, rfl, hk, rq (hb25.trans hb28), brNB (fun _ => hA.sub (by simp)) (fun _ => hA.sub (by simp))⟩
      · refine at_callb hA (c14 w20 (s1.call hb20)) fun w31 hA hk hb31 => ⟨_, rfl, hk, brNB (fun _ => hA.sub (by simp)) (fun _ => ?_)⟩
        exact at_callb hA (c14 w31 ((s2.call hb20).call hb31)) fun w34 hA hk hb34 => ⟨_, rfl, hk, brNB (fun _ => hA.sub (by simp)) (fun _ => hA.sub (by simp))⟩
    · rintro b36 w37 hA
      exact brB (fun _ => out _ hA) (fun _ => hA)
  · rintro w38 hA
    rw [succ_i i (by omega)]
    exact ⟨⟨hA, i + 1, rfl, by omega⟩, by simp only; omega⟩
end Go.Vc.W

/- The arguments of view's laws, read: a book. -/
set_option maxRecDepth 20000
namespace Go.Vc.W
open Go Go.Vc Go.Vc.V Go.RowKit
abbrev iG : GT := .int .i64
abbrev ptG : GT := .st (.pair iG (.pair iG (.pair iG .unit)))
abbrev PtA := Int × Int × Int × Unit
def ptOf (x : PtA) : PartT := (x.1, x.2.1, x.2.2.1)
theorem row_M {α β : Type} {w : World} {n : Nat} {R : α → List Value → Prop} {R' : β → List Value → Prop} {k : α → β} {l : List α} {a : Option Addr} {len c : Nat} (hs : SlR w n R l a len c) (hR : ∀ x cs, R x cs → R' (k x) cs) : SlR w n R' (l.map k) a len c := by
  refine ⟨by rw [List.length_map]; exact hs.1, hs.2.1, hs.2.2.1, hs.2.2.2.1, fun i y hy => ?_⟩
  rw [List.getElem?_map] at hy
  cases hx : l[i]? with
  | none => rw [hx] at hy; cases hy
  | some x =>
    rw [hx] at hy
    simp only [Option.map_some, Option.some.injEq] at hy
    subst hy
    obtain ⟨ad, cs, ha, hl, hcs, hr⟩ := hs.at_ hx
    exact ⟨ad, cs, ha, hl, hcs, hR _ _ hr⟩
theorem pt_R {w : World} {x : PtA} {cs : List Value} (h : ptG.R w x cs) : cs = partE (ptOf x) := by
  obtain ⟨c1, c2, rfl, ⟨rfl, _, _⟩, c3, c4, rfl, ⟨rfl, _, _⟩, c5, c6, rfl, ⟨rfl, _, _⟩, rfl⟩ := h
  rfl
theorem pts_V {w : World} {l : List PtA} {v : Value} (h : GT.V w (.sl ptG) l v) : ∃ a n c, v = .slice a n c ∧ SlE w 3 partE (l.map ptOf) a n c := by
  obtain ⟨a, n, c, hv, hs⟩ := h
  simp at hv
  exact ⟨a, n, c, hv, row_M hs fun _ _ => pt_R⟩
theorem two_V {w : World} {x : Int × Int × Unit} {v : Value} (h : GT.V w (.st (.pair iG (.pair iG .unit))) x v) : v = .agg #[.int .i64 x.1, .int .i64 x.2.1] := by
  obtain ⟨cs, rfl, c1, c2, rfl, ⟨rfl, _, _⟩, c3, c4, rfl, ⟨rfl, _, _⟩, rfl⟩ := h
  rfl
abbrev frG : GT := .st (.pair iG (.pair iG (.pair iG (.pair .bool (.pair .bool (.pair iG (.pair iG .unit)))))))
def frOf (x : Int × Int × Int × Bool × Bool × Int × Int × Unit) : FrT := (x.1, x.2.1, x.2.2.1, x.2.2.2.1, x.2.2.2.2.1, x.2.2.2.2.2.1, x.2.2.2.2.2.2.1)
theorem fr_R {w : World} {x : frG.T} {cs : List Value} (h : frG.R w x cs) : cs = frE (frOf x) := by
  obtain ⟨c1, c2, rfl, ⟨rfl, _, _⟩, c3, c4, rfl, ⟨rfl, _, _⟩, c5, c6, rfl, ⟨rfl, _, _⟩, c7, c8, rfl, rfl, c9, c10, rfl, rfl, c11, c12, rfl, ⟨rfl, _, _⟩, c13, c14, rfl, ⟨rfl, _, _⟩, rfl⟩ := h
  rfl
abbrev agG : GT := .st (.pair iG (.pair (.sl ptG) (.pair (.sl ptG) .unit)))
def agOf (x : Int × List PtA × List PtA × Unit) : AgT := (x.1, x.2.1.map ptOf, x.2.2.1.map ptOf)
theorem ag_R {w : World} {x : agG.T} {cs : List Value} (h : agG.R w x cs) : agR w (agOf x) cs := by
  obtain ⟨c1, c2, rfl, ⟨rfl, _, _⟩, c3, c4, rfl, ⟨a, n, c, rfl, hs⟩, c5, c6, rfl, ⟨a2, n2, c2, rfl, hs2⟩, rfl⟩ := h
  exact ⟨a, n, c, a2, n2, c2, rfl, row_M hs fun _ _ => pt_R, row_M hs2 fun _ _ => pt_R⟩
abbrev ofG : GT := .st (.pair iG (.pair iG (.pair iG (.pair (.sl ptG) (.pair iG .unit)))))
def ofOf (x : Int × Int × Int × List PtA × Int × Unit) : OfT := (x.1, x.2.1, x.2.2.1, x.2.2.2.1.map ptOf, x.2.2.2.2.1)
theorem of_R {w : World} {x : ofG.T} {cs : List Value} (h : ofG.R w x cs) : ofR w (ofOf x) cs := by
  obtain ⟨c1, c2, rfl, ⟨rfl, _, _⟩, c3, c4, rfl, ⟨rfl, _, _⟩, c5, c6, rfl, ⟨rfl, _, _⟩, c7, c8, rfl, ⟨a, n, c, rfl, hs⟩, c9, c10, rfl, ⟨rfl, _, _⟩, rfl⟩ := h
  exact ⟨a, n, c, rfl, row_M hs fun _ _ => pt_R⟩
abbrev tkG : GT := .st (.pair iG (.pair iG (.pair iG (.pair (.sl ptG) .unit))))
def tkOf (x : Int × Int × Int × List PtA × Unit) : TkT := (x.1, x.2.1, x.2.2.1, x.2.2.2.1.map ptOf)
theorem tk_R {w : World} {x : tkG.T} {cs : List Value} (h : tkG.R w x cs) : tkR w (tkOf x) cs := by
  obtain ⟨c1, c2, rfl, ⟨rfl, _, _⟩, c3, c4, rfl, ⟨rfl, _, _⟩, c5, c6, rfl, ⟨rfl, _, _⟩, c7, c8, rfl, ⟨a, n, c, rfl, hs⟩, rfl⟩ := h
  exact ⟨a, n, c, rfl, row_M hs fun _ _ => pt_R⟩
abbrev cfgG : GT := .st (.pair iG (.pair iG (.pair iG (.pair iG (.pair iG (.pair (.st (.pair iG (.pair iG (.pair iG (.pair iG .unit))))) .unit))))))
abbrev bkG : GT := .st (.pair cfgG (.pair iG (.pair iG (.pair (.sl frG) (.pair (.sl agG) (.pair (.sl ofG) (.pair (.sl tkG) (.pair (.sl tkG) .unit))))))))
theorem bk_V {w : World} {x : bkG.T} {v : Value} (h : GT.V w bkG x v) : ∃ b d, v = BkA.v b ∧ Bk w b d := by
  obtain ⟨cs, rfl, c1, c2, rfl, hc, c3, c4, rfl, ⟨rfl, _, _⟩, c5, c6, rfl, ⟨rfl, _, _⟩, c7, c8, rfl, ⟨a1, n1, k1, rfl, h1⟩, c9, c10, rfl, ⟨a2, n2, k2, rfl, h2⟩, c11, c12, rfl, ⟨a3, n3, k3, rfl, h3⟩, c13, c14, rfl, ⟨a4, n4, k4, rfl, h4⟩, c15, c16, rfl, ⟨a5, n5, k5, rfl, h5⟩, rfl⟩ := h
  obtain ⟨d1, d2, rfl, ⟨rfl, _, _⟩, d3, d4, rfl, ⟨rfl, _, _⟩, d5, d6, rfl, ⟨rfl, _, _⟩, d7, d8, rfl, ⟨rfl, _, _⟩, d9, d10, rfl, ⟨rfl, _, _⟩, d11, d12, rfl, hm, rfl⟩ := hc
  obtain ⟨e1, e2, rfl, ⟨rfl, _, _⟩, e3, e4, rfl, ⟨rfl, _, _⟩, e5, e6, rfl, ⟨rfl, _, _⟩, e7, e8, rfl, ⟨rfl, _, _⟩, rfl⟩ := hm
  exact ⟨⟨_, _, _, _, _, _, _, _, _, _, _, (a1, n1, k1), (a2, n2, k2), (a3, n3, k3), (a4, n4, k4), (a5, n5, k5)⟩, ⟨_, _, _, _, _⟩, rfl, ⟨row_M h1 fun _ _ => fr_R, row_M h2 fun _ _ => ag_R, row_M h3 fun _ _ => of_R, row_M h4 fun _ _ => tk_R, row_M h5 fun _ _ => tk_R⟩⟩
end Go.Vc.W

/- Filters, tasks and offers answer. -/
set_option maxRecDepth 20000
set_option maxHeartbeats 1000000
namespace Go.Vc.W
open Go Go.Vc Go.Vc.V Go.RowKit Go.Proofs Vcw

variable {w W W' : World} {M : Nat → Prop} {gs : List Nat}

theorem prev_i {i : Nat} (h : 0 < i) (h2 : i < 9223372036854775807) : IntKind.i64.wrap ((i : Int) - 1) = ((i - 1 : Nat) : Int) := by rw [wrap_i64 (by omega) (by omega)]; omega
theorem c35 {b : BkA} {d : BkD} (w : World) (hb : Bk w b d) : RetBool 35 #[b.v] w := by
  intro R h
  refine f35_calls _ _ _ _ _ _ _ _ _ _ _ _ _ _ _ _ _ _ _ _ _ _ _ _ _ _ w R ?_
  unfold f35_vc
  have hn := hb.fl.len_le
  have out : ∀ (x : Bool) {gs w'}, At w gs w' → R (.returned (.bool x)) w' := fun x _ w' hA => h _ _ hA.below ⟨x, rfl⟩
  intro n1 hn1
  refine ⟨fun v W' => At w [n1] W' ∧ ∃ i : Nat, v.1 = i ∧ i ≤ d.fls.length, fun v _ => (b.l.2.1 - v.1).toNat, ⟨fun w4 hb4 hu => ⟨⟨((At.refl w).call hb4).chg, hu⟩, 0, rfl, Nat.zero_le _⟩, ?_⟩⟩
  rintro x5 w6 ⟨hA, i, hi, hil⟩
  simp only at hi
  subst hi
  refine brD (fun hlt => ?_) (fun hge => out _ hA)
  obtain ⟨p, hp⟩ : ∃ x, d.fls[i]? = some x := ⟨_, List.getElem?_eq_getElem (by omega)⟩
  obtain ⟨ad, cs, g1, el, a1, m1, c1, rfl, s1⟩ := rel_at (t := 29) hb.fl hp (e := 62) (by kernel_rfl) (by kernel_rfl)
  refine ⟨fun _ W' => At w [n1] W', ⟨ad, g1, _, _, _, _, _, _, (el.below hA.below).agg 4 (by kernel_rfl) (by kernel_rfl) (by simp) (by simp), ?_⟩, ?_⟩
  · intro n15 hn15
    have hsz := hA.size
    refine ⟨fun _ W' => At w [n1] W', ?_, ?_⟩
    · intro w17 hev hun
      have hA := hA.evo (by intro x hx; simp at hx; omega) hev hun
      refine at_callb hA (c37 p.1 w17 (hb.call hA.below)) fun w19 hA hk _ => ⟨_, rfl, hk, brD (fun _ => hA.sub (by simp)) (fun _ => ?_)⟩
      refine at_callb hA (c38 p.2.1 w19 (hb.call hA.below)) fun w22 hA hk _ => ⟨_, rfl, hk, brD (fun _ => hA.sub (by simp)) (fun _ => ?_)⟩
      refine at_callb hA (c14 w22 (s1.call hA.below)) fun w25 hA hk _ => ⟨_, rfl, hk, brNB (fun _ => hA.sub (by simp)) (fun _ => brE (fun _ => hA.sub (by simp)) (fun _ => brD (fun _ => hA.sub (by simp)) (fun _ => brD (fun _ => hA.sub (by simp)) (fun _ => brD (fun hpos => ?_) (fun _ => hA.sub (by simp))))))⟩
      obtain ⟨q, hq⟩ : ∃ x, d.fls[i - 1]? = some x := ⟨_, List.getElem?_eq_getElem (by omega)⟩
      obtain ⟨ad2, cs2, g2, el2, a2, m2, c2, rfl, s2⟩ := rel_at (t := 29) hb.fl hq (e := 62) (by kernel_rfl) (by kernel_rfl)
      rw [prev_i (by omega) (by omega)]
      refine ⟨ad2, g2, _, _, _, _, _, _, (el2.below hA.below).agg 4 (by kernel_rfl) (by kernel_rfl) (by simp) (by simp), ?_⟩
      refine at_callq hA (c69 _ _ _ _ _ _ w25 (s2.call hA.below) (s1.call hA.below)) fun v w35 hA hk _ ⟨x, e⟩ => ?_
      subst e
      exact ⟨_, rfl, hk, hA.sub (by simp)⟩
    · rintro b37 w38 hA
      exact brB (fun _ => out _ hA) (fun _ => hA)
  · rintro w39 hA
    rw [succ_i i (by omega)]
    exact ⟨⟨hA, i + 1, rfl, by omega⟩, by simp only; omega⟩

theorem c34 {b : BkA} {d : BkD} (w : World) (hb : Bk w b d) : RetBool 34 #[b.v] w := by
  intro R h
  refine f34_calls _ _ _ _ _ _ _ _ _ _ _ _ _ _ _ _ _ _ _ _ _ _ _ _ _ _ w R ?_
  unfold f34_vc
  have hn := hb.tk.len_le
  have hnf := hb.fr.len_le
  have out : ∀ (x : Bool) {gs w'}, At w gs w' → R (.returned (.bool x)) w' := fun x _ w' hA => h _ _ hA.below ⟨x, rfl⟩
  intro n1 hn1
  refine ⟨fun v W' => At w [n1] W' ∧ ∃ i : Nat, v.1 = i ∧ i ≤ d.tks.length, fun v _ => (b.t.2.1 - v.1).toNat, ⟨fun w4 hb4 hu => ⟨⟨((At.refl w).call hb4).chg, hu⟩, 0, rfl, Nat.zero_le _⟩, ?_⟩⟩
  rintro x5 w6 ⟨hA, i, hi, hil⟩
  simp only at hi
  subst hi
  refine brD (fun hlt => ?_) (fun hge => out _ hA)
  obtain ⟨p, hp⟩ : ∃ x, d.tks[i]? = some x := ⟨_, List.getElem?_eq_getElem (by omega)⟩
  obtain ⟨ad, cs, g1, el, a1, m1, c1, rfl, s1⟩ := rel_at (t := 28) hb.tk hp (e := 60) (by kernel_rfl) (by kernel_rfl)
  refine ⟨fun _ W' => At w [n1] W', ⟨ad, g1, _, _, _, _, _, _, (el.below hA.below).agg 4 (by kernel_rfl) (by kernel_rfl) (by simp) (by simp), ?_⟩, ?_⟩
  · intro n15 hn15 w16 hev hun
    have hsz := hA.size
    have hA := hA.evo (by intro x hx; simp at hx; omega) hev hun
    refine at_callb hA (c37 p.1 w16 (hb.call hA.below)) fun w18 hA hk _ => ⟨_, rfl, hk, ?_⟩
    refine ⟨fun _ W' => At w [n1, n15] W', ⟨fun _ W' => At w [n1, n15] W', ?_, ?_⟩, ?_⟩
    · intro w22 hb22 hun22
      have hA : At w [n1, n15] w22 := ⟨(hA.call hb22).chg, hun22⟩
      refine at_callb hA (c67 p.2.1 w22) fun w24 hA hk _ => ⟨_, rfl, hk, brNB (fun _ => hA) (fun _ => brD (fun _ => hA) (fun hix => ?_))⟩
      refine at_callb hA (c38 p.2.2.1 w24 (hb.call hA.below)) fun w27 hA hk _ => ⟨_, rfl, hk, brD (fun _ => hA) (fun _ => ?_)⟩
      rcases ixOf_range (k := fun x : FrT => x.1) (id := p.1) d.frs 0 with hneg | ⟨j, hj, _, hjl⟩
      · exact absurd hneg hix
      · obtain ⟨f, hf⟩ : ∃ x, d.frs[j]? = some x := ⟨_, List.getElem?_eq_getElem (by omega)⟩
        obtain ⟨ad2, g2, el2, _⟩ := elt_at (P := Try.prog) (k := .i64) (t := 25) hb.fr hf (e := 48) (by kernel_rfl) (by kernel_rfl)
        rw [hj]
        refine ⟨ad2, g2, _, ((el2.below hA.below).sub (o := 1) (by decide)).one (by kernel_rfl) (by simp), ?_⟩
        refine at_callq hA (c68 _ w27 (s1.call hA.below)) fun v w32 hA hk _ ⟨x, e⟩ => ?_
        subst e
        exact ⟨_, rfl, hk, hA⟩
    · rintro b34 w35 hA
      exact brB (fun _ => out _ hA) (fun _ => hA)
    · rintro w36 hA
      have go : ∀ {w'}, Bel w36 w' → Under [n1, n15] w' → At w [n1, n15] w' := fun hb hu => ⟨(hA.call hb).chg, hu⟩
      refine ⟨fun _ W' => At w [n1, n15] W', brD (fun hpos => ?_) (fun _ w' hb hu => go hb hu), ?_⟩
      · obtain ⟨q, hq⟩ : ∃ x, d.tks[i - 1]? = some x := ⟨_, List.getElem?_eq_getElem (by omega)⟩
        obtain ⟨ad2, cs2, g2, el2, a2, m2, c2, rfl, s2⟩ := rel_at (t := 28) hb.tk hq (e := 60) (by kernel_rfl) (by kernel_rfl)
        rw [prev_i (by omega) (by omega)]
        have el2 := el2.below hA.below
        exact ⟨ad2, g2, _, el2.one (by kernel_rfl) (by simp), brD (fun _ w' hb hu => go hb hu) (fun _ => ⟨ad2, g2, _, el2.one (by kernel_rfl) (by simp), brE (fun _ => ⟨ad2, g2, _, (el2.sub (o := 1) (by decide)).one (by kernel_rfl) (by simp), fun w' hb hu => go hb hu⟩) (fun _ w' hb hu => go hb hu)⟩)⟩
      · rintro b48 w49 hA
        exact brB (fun _ => out _ hA) (fun _ => hA.sub (by simp))
  · rintro w50 hA
    rw [succ_i i (by omega)]
    exact ⟨⟨hA, i + 1, rfl, by omega⟩, by simp only; omega⟩

theorem c33 {b : BkA} {d : BkD} (w : World) (hb : Bk w b d) : RetBool 33 #[b.v] w := by
  intro R h
  refine f33_calls _ _ _ _ _ _ _ _ _ _ _ _ _ _ _ _ _ _ _ _ _ _ _ _ _ _ w R ?_
  unfold f33_vc
  have hn := hb.off.len_le
  have out : ∀ (x : Bool) {gs w'}, At w gs w' → R (.returned (.bool x)) w' := fun x _ w' hA => h _ _ hA.below ⟨x, rfl⟩
  intro n1 hn1
  refine ⟨fun v W' => At w [n1] W' ∧ ∃ i : Nat, v.1 = i ∧ i ≤ d.ofs.length, fun v _ => (b.o.2.1 - v.1).toNat, ⟨fun w4 hb4 hu => ⟨⟨((At.refl w).call hb4).chg, hu⟩, 0, rfl, Nat.zero_le _⟩, ?_⟩⟩
  rintro x5 w6 ⟨hA, i, hi, hil⟩
  simp only at hi
  subst hi
  refine brD (fun hlt => ?_) (fun hge => out _ hA)
  obtain ⟨p, hp⟩ : ∃ x, d.ofs[i]? = some x := ⟨_, List.getElem?_eq_getElem (by omega)⟩
  obtain ⟨ad, cs, g1, el, a1, m1, c1, rfl, s1⟩ := rel_at (t := 27) hb.off hp (e := 58) (by kernel_rfl) (by kernel_rfl)
  refine ⟨fun _ W' => At w [n1] W', ⟨ad, g1, _, _, _, _, _, _, _, (el.below hA.below).agg 5 (by kernel_rfl) (by kernel_rfl) (by simp) (by simp), ?_⟩, ?_⟩
  · intro n16 hn16 w17 hev hun
    have hsz := hA.size
    have hA := hA.evo (by intro x hx; simp at hx; omega) hev hun
    refine at_callb hA (c37 p.2.1 w17 (hb.call hA.below)) fun w19 hA hk _ => ⟨_, rfl, hk, ?_⟩
    refine ⟨fun _ W' => At w [n1, n16] W' ∧ ¬ ixOf (·.1) p.2.1 d.frs 0 < 0, ⟨fun x W' => At w [n1, n16] W' ∧ (x.1 = false → ¬ ixOf (·.1) p.2.1 d.frs 0 < 0), ?_, ?_⟩, ?_⟩
    · have yes : ∀ w', Bel w19 w' → Under [n1, n16] w' → At w [n1, n16] w' ∧ (true = false → ¬ ixOf (·.1) p.2.1 d.frs 0 < 0) := fun w' hb hu => ⟨⟨(hA.call hb).chg, hu⟩, fun e => by cases e⟩
      refine brD (fun _ => yes) (fun _ => brD (fun _ => yes) (fun _ => brD (fun hpos => ?_) (fun _ => brD (fun _ => yes) (fun hix => ?_))))
      · obtain ⟨q, hq⟩ : ∃ x, d.ofs[i - 1]? = some x := ⟨_, List.getElem?_eq_getElem (by omega)⟩
        obtain ⟨ad2, cs2, g2, el2, a2, m2, c2, rfl, s2⟩ := rel_at (t := 27) hb.off hq (e := 58) (by kernel_rfl) (by kernel_rfl)
        rw [prev_i (by omega) (by omega)]
        have rq : ∀ {W'}, Bel w W' → Reads Try.prog [] (Instr.loadAt 2 (.pointer (some ad2))) W' (.int .i64 q.1) := fun hb => (el2.below hb).one (by kernel_rfl) (by simp)
        refine ⟨ad2, g2, _, rq hA.below, brD (fun _ => yes) (fun _ => brD (fun _ => yes) (fun hix => ?_))⟩
        intro w29 hb29 hun29
        have hA : At w [n1, n16] w29 := ⟨(hA.call hb29).chg, hun29⟩
        exact at_callb hA (c38 p.2.2.1 w29 (hb.call hA.below)) fun w31 hA hk _ => ⟨_, rfl, hk, rq hA.below, hA, fun _ => hix⟩
      · intro w34 hb34 hun34
        have hA : At w [n1, n16] w34 := ⟨(hA.call hb34).chg, hun34⟩
        exact at_callb hA (c38 p.2.2.1 w34 (hb.call hA.below)) fun w36 hA hk _ => ⟨_, rfl, hk, hA, fun _ => hix⟩
    · rintro b38 w39 ⟨hA, hx⟩
      exact brB (fun _ => out _ hA) (fun hf => ⟨hA, hx hf⟩)
    · rintro w40 ⟨hA, hix⟩
      rcases ixOf_range (k := fun x : FrT => x.1) (id := p.2.1) d.frs 0 with hneg | ⟨j, hj, _, hjl⟩
      · exact absurd hneg hix
      obtain ⟨f, hf⟩ : ∃ x, d.frs[j]? = some x := ⟨_, List.getElem?_eq_getElem (by omega)⟩
      obtain ⟨ad2, g2, el2, _⟩ := elt_at (P := Try.prog) (k := .i64) (t := 25) hb.fr hf (e := 48) (by kernel_rfl) (by kernel_rfl)
      rw [hj]
      have rb : ∀ {W'}, Bel w W' → Reads Try.prog [] (Instr.loadAt 4 (.pointer (some ⟨ad2.block, ad2.off + 3, none⟩))) W' (.bool f.2.2.2.1) := fun hb => ((el2.below hb).sub (o := 3) (by decide)).one (by kernel_rfl) (by simp)
      refine ⟨fun _ W' => At w [n1, n16] W', ⟨ad2, g2, _, rb hA.below, brNB (fun _ w' hb hu => ⟨(hA.call hb).chg, hu⟩) (fun _ => ⟨ad2, g2, _, ((el2.below hA.below).sub (o := 1) (by decide)).one (by kernel_rfl) (by simp), ?_⟩)⟩, ?_⟩
      · intro w47 hb47 hun47
        have hA : At w [n1, n16] w47 := ⟨(hA.call hb47).chg, hun47⟩
        refine at_callq hA (c68 _ w47 (s1.call hA.below)) fun v w49 hA hk _ ⟨x, e⟩ => ?_
        subst e
        refine ⟨_, rfl, hk, rb hA.below, brNB (fun _ => hA) (fun _ => brE (fun _ => brN (fun _ => hA) (fun _ => brD (fun _ => brD (fun _ => hA) (fun _ => hA)) (fun _ => hA))) (fun _ => brD (fun _ => brD (fun _ => hA) (fun _ => hA)) (fun _ => hA)))⟩
      · rintro b51 w52 hA
        exact brB (fun _ => out _ hA) (fun _ => hA.sub (by simp))
  · rintro w53 hA
    rw [succ_i i (by omega)]
    exact ⟨⟨hA, i + 1, rfl, by omega⟩, by simp only; omega⟩
end Go.Vc.W

/- The ledger answers. -/
set_option maxRecDepth 20000
set_option maxHeartbeats 1000000
namespace Go.Vc.W
open Go Go.Vc Go.Vc.V Go.RowKit Go.Proofs Vcw

variable {w W W' : World} {M : Nat → Prop} {gs : List Nat}

theorem c36 {b : BkA} {d : BkD} (w : World) (hb : Bk w b d) : RetBool 36 #[b.v] w := by
  intro R h
  refine f36_calls _ _ _ _ _ _ _ _ _ _ _ _ _ _ _ _ _ _ _ _ _ _ _ _ _ _ w R ?_
  unfold f36_vc
  have hn := hb.ag.len_le
  have hno := hb.off.len_le
  have hnt := hb.tk.len_le
  have out : ∀ (x : Bool) {gs w'}, At w gs w' → R (.returned (.bool x)) w' := fun x _ w' hA => h _ _ hA.below ⟨x, rfl⟩
  intro n1 hn1
  refine ⟨fun v W' => At w [n1] W' ∧ ∃ i : Nat, v.1 = i ∧ i ≤ d.ags.length, fun v _ => (b.a.2.1 - v.1).toNat, ⟨fun w4 hb4 hu => ⟨⟨((At.refl w).call hb4).chg, hu⟩, 0, rfl, Nat.zero_le _⟩, ?_⟩⟩
  rintro x5 w6 ⟨hA, i, hi, hil⟩
  simp only at hi
  subst hi
  refine brD (fun hlt => ?_) (fun hge => out _ hA)
  obtain ⟨p, hp⟩ : ∃ x, d.ags[i]? = some x := ⟨_, List.getElem?_eq_getElem (by omega)⟩
  obtain ⟨ad, cs, g1, el, a1, m1, c1, a2, m2, c2, rfl, s1, s2⟩ := rel_at (t := 26) hb.ag hp (e := 56) (by kernel_rfl) (by kernel_rfl)
  have rid : ∀ {W'}, Bel w W' → Reads Try.prog [] (Instr.loadAt 2 (.pointer (some ad))) W' (.int .i64 p.1) := fun hb => (el.below hb).one (by kernel_rfl) (by simp)
  refine ⟨ad, g1, _, _, _, ((el.below hA.below).sub (o := 2) (by decide)).one (by kernel_rfl) (by simp), ?_⟩
  refine ⟨fun v W' => At w [n1] W' ∧ ∃ sum, SlE W' 3 partE sum v.1.1 v.1.2.1 v.1.2.2, ⟨fun v W' => (At w [n1] W' ∧ ∃ sum, SlE W' 3 partE sum v.1.1 v.1.2.1 v.1.2.2) ∧ ∃ k : Nat, v.2.2.1 = k ∧ k ≤ d.ofs.length, fun v _ => (b.o.2.1 - v.2.2.1).toNat, ⟨⟨hA, _, s2.call hA.below⟩, 0, rfl, Nat.zero_le _⟩, ?_⟩, ?_⟩
  · rintro a14 n15 n16 b17 x18 w19 ⟨⟨hA, sum, hsum⟩, k, hk, hkl⟩
    simp only at hk hsum
    subst hk
    refine brD (fun hlt2 => brB (fun _ => ?_) (fun _ => ⟨hA, sum, hsum⟩)) (fun _ => ⟨hA, sum, hsum⟩)
    obtain ⟨o, ho⟩ : ∃ x, d.ofs[k]? = some x := ⟨_, List.getElem?_eq_getElem (by omega)⟩
    obtain ⟨ad2, cs2, g2, el2, a3, m3, c3, rfl, s3⟩ := rel_at (t := 27) hb.off ho (e := 58) (by kernel_rfl) (by kernel_rfl)
    have el2 := el2.below hA.below
    refine ⟨fun v W' => At w [n1] W' ∧ ∃ sum, SlE W' 3 partE sum v.1.1 v.1.2.1 v.1.2.2, ⟨ad2, g2, _, (el2.sub (o := 2) (by decide)).one (by kernel_rfl) (by simp), ad, g1, _, rid hA.below, brE (fun _ => ⟨ad2, g2, _, _, _, (el2.sub (o := 3) (by decide)).one (by kernel_rfl) (by simp), ?_⟩) (fun _ w36 hb36 hun => ⟨⟨(hA.call hb36).chg, hun⟩, sum, hsum.call hb36⟩)⟩, ?_⟩
    · intro w29 hb29 hun
      have hA : At w [n1] w29 := ⟨(hA.call hb29).chg, hun⟩
      exact at_calllb hA (c70 w29 (hsum.call hb29) (s3.call hA.below)) (fun _ _ => rfl) fun a c w31 hA hk _ _ hs => ⟨_, _, _, _, rfl, hk, hA, _, hs⟩
    · rintro a37 n38 n39 b40 w41 ⟨hA, sum, hsum⟩
      simp only at hsum
      rw [succ_i k (by omega)]
      exact ⟨⟨⟨hA, sum, hsum⟩, k + 1, rfl, by omega⟩, by simp only; omega⟩
  rintro a42 n43 n44 b45 w46 ⟨hA, sum, hsum⟩
  simp only at hsum
  refine ⟨fun v W' => At w [n1] W' ∧ ∃ sum, SlE W' 3 partE sum v.1.1 v.1.2.1 v.1.2.2, ⟨fun v W' => (At w [n1] W' ∧ ∃ sum, SlE W' 3 partE sum v.1.1 v.1.2.1 v.1.2.2) ∧ ∃ k : Nat, v.2.2.1 = k ∧ k ≤ d.tks.length, fun v _ => (b.t.2.1 - v.2.2.1).toNat, ⟨⟨hA, sum, hsum⟩, 0, rfl, Nat.zero_le _⟩, ?_⟩, ?_⟩
  · rintro a14 n15 n16 b17 x18 w19 ⟨⟨hA, sum, hsum⟩, k, hk, hkl⟩
    simp only at hk hsum
    subst hk
    refine brD (fun hlt2 => brB (fun _ => ?_) (fun _ => ⟨hA, sum, hsum⟩)) (fun _ => ⟨hA, sum, hsum⟩)
    obtain ⟨o, ho⟩ : ∃ x, d.tks[k]? = some x := ⟨_, List.getElem?_eq_getElem (by omega)⟩
    obtain ⟨ad2, cs2, g2, el2, a3, m3, c3, rfl, s3⟩ := rel_at (t := 28) hb.tk ho (e := 60) (by kernel_rfl) (by kernel_rfl)
    have el2 := el2.below hA.below
    refine ⟨fun v W' => At w [n1] W' ∧ ∃ sum, SlE W' 3 partE sum v.1.1 v.1.2.1 v.1.2.2, ⟨ad2, g2, _, (el2.sub (o := 2) (by decide)).one (by kernel_rfl) (by simp), ad, g1, _, rid hA.below, brE (fun _ => ⟨ad2, g2, _, _, _, (el2.sub (o := 3) (by decide)).one (by kernel_rfl) (by simp), ?_⟩) (fun _ w36 hb36 hun => ⟨⟨(hA.call hb36).chg, hun⟩, sum, hsum.call hb36⟩)⟩, ?_⟩
    · intro w29 hb29 hun
      have hA : At w [n1] w29 := ⟨(hA.call hb29).chg, hun⟩
      exact at_calllb hA (c70 w29 (hsum.call hb29) (s3.call hA.below)) (fun _ _ => rfl) fun a c w31 hA hk _ _ hs => ⟨_, _, _, _, rfl, hk, hA, _, hs⟩
    · rintro a37 n38 n39 b40 w41 ⟨hA, sum, hsum⟩
      simp only at hsum
      rw [succ_i k (by omega)]
      exact ⟨⟨⟨hA, sum, hsum⟩, k + 1, rfl, by omega⟩, by simp only; omega⟩
  rintro a78 n79 n80 b81 w82 ⟨hA, sum, hsum⟩
  simp only at hsum
  refine brNB (fun _ => out _ hA) (fun _ => ⟨ad, g1, _, _, _, ((el.below hA.below).sub (o := 1) (by decide)).one (by kernel_rfl) (by simp), ?_⟩)
  refine at_callb hA (c10 w82 hsum (s1.call hA.below)) fun w88 hA hk _ => ⟨_, rfl, hk, brNB (fun _ => out _ hA) (fun _ => ?_)⟩
  rw [succ_i i (by omega)]
  exact ⟨⟨hA, i + 1, rfl, by omega⟩, by simp only; omega⟩

theorem c6 {b : BkA} {d : BkD} (w : World) (hb : Bk w b d) : RetBool 6 #[b.v] w := by
  intro R h
  refine f6_calls _ _ _ _ _ _ _ _ _ _ _ _ _ _ _ _ _ _ _ _ _ _ _ _ _ _ w R ?_
  unfold f6_vc
  have hn := hb.ag.len_le
  have hno := hb.off.len_le
  have hnt := hb.tk.len_le
  have hnl := hb.fl.len_le
  have out : ∀ (x : Bool) {gs w'}, At w gs w' → R (.returned (.bool x)) w' := fun x _ w' hA => h _ _ hA.below ⟨x, rfl⟩
  intro n1 hn1
  refine ⟨fun v W' => At w [n1] W' ∧ ∃ i : Nat, v.2.1 = i ∧ i ≤ d.ags.length, fun v _ => (b.a.2.1 - v.2.1).toNat, ⟨fun w4 hb4 hu => ⟨⟨((At.refl w).call hb4).chg, hu⟩, 0, rfl, Nat.zero_le _⟩, ?_⟩⟩
  rintro x5 x6 w7 ⟨hA, i, hi, hil⟩
  simp only at hi
  subst hi
  refine brD (fun hlt => ?_) (fun _ => ?_)
  · obtain ⟨p, hp⟩ : ∃ x, d.ags[i]? = some x := ⟨_, List.getElem?_eq_getElem (by omega)⟩
    obtain ⟨ad, cs, g1, el, a1, m1, c1, a2, m2, c2, rfl, s1, s2⟩ := rel_at (t := 26) hb.ag hp (e := 56) (by kernel_rfl) (by kernel_rfl)
    have el := el.below hA.below
    refine ⟨ad, g1, _, _, _, (el.sub (o := 1) (by decide)).one (by kernel_rfl) (by simp), ad, g1, _, _, _, (el.sub (o := 2) (by decide)).one (by kernel_rfl) (by simp), fun w16 hb16 hun => ?_⟩
    rw [succ_i i (by omega)]
    exact ⟨⟨⟨(hA.call hb16).chg, hun⟩, i + 1, rfl, by omega⟩, by simp only; omega⟩
  refine ⟨fun v W' => At w [n1] W' ∧ ∃ i : Nat, v.2.1 = i ∧ i ≤ d.ofs.length, fun v _ => (b.o.2.1 - v.2.1).toNat, ⟨hA, 0, rfl, Nat.zero_le _⟩, ?_⟩
  rintro x19 x20 w21 ⟨hA, i, hi, hil⟩
  simp only at hi
  subst hi
  refine brD (fun hlt => ?_) (fun _ => ?_)
  · obtain ⟨p, hp⟩ : ∃ x, d.ofs[i]? = some x := ⟨_, List.getElem?_eq_getElem (by omega)⟩
    obtain ⟨ad, cs, g1, el, a1, m1, c1, rfl, s1⟩ := rel_at (t := 27) hb.off hp (e := 58) (by kernel_rfl) (by kernel_rfl)
    refine ⟨ad, g1, _, _, _, ((el.below hA.below).sub (o := 3) (by decide)).one (by kernel_rfl) (by simp), ?_⟩
    rw [succ_i i (by omega)]
    exact ⟨⟨hA, i + 1, rfl, by omega⟩, by simp only; omega⟩
  refine ⟨fun v W' => At w [n1] W' ∧ ∃ i : Nat, v.2.1 = i ∧ i ≤ d.tks.length, fun v _ => (b.t.2.1 - v.2.1).toNat, ⟨hA, 0, rfl, Nat.zero_le _⟩, ?_⟩
  rintro x28 x29 w30 ⟨hA, i, hi, hil⟩
  simp only at hi
  subst hi
  refine brD (fun hlt => ?_) (fun _ => ?_)
  · obtain ⟨p, hp⟩ : ∃ x, d.tks[i]? = some x := ⟨_, List.getElem?_eq_getElem (by omega)⟩
    obtain ⟨ad, cs, g1, el, a1, m1, c1, rfl, s1⟩ := rel_at (t := 28) hb.tk hp (e := 60) (by kernel_rfl) (by kernel_rfl)
    refine ⟨ad, g1, _, _, _, ((el.below hA.below).sub (o := 3) (by decide)).one (by kernel_rfl) (by simp), ?_⟩
    rw [succ_i i (by omega)]
    exact ⟨⟨hA, i + 1, rfl, by omega⟩, by simp only; omega⟩
  refine ⟨fun v W' => At w [n1] W' ∧ ∃ i : Nat, v.2.1 = i ∧ i ≤ d.fls.length, fun v _ => (b.l.2.1 - v.2.1).toNat, ⟨hA, 0, rfl, Nat.zero_le _⟩, ?_⟩
  rintro x37 x38 w39 ⟨hA, i, hi, hil⟩
  simp only at hi
  subst hi
  refine brD (fun hlt => ?_) (fun _ => out _ hA)
  obtain ⟨p, hp⟩ : ∃ x, d.fls[i]? = some x := ⟨_, List.getElem?_eq_getElem (by omega)⟩
  obtain ⟨ad, cs, g1, el, a1, m1, c1, rfl, s1⟩ := rel_at (t := 29) hb.fl hp (e := 62) (by kernel_rfl) (by kernel_rfl)
  refine ⟨ad, g1, _, _, _, ((el.below hA.below).sub (o := 3) (by decide)).one (by kernel_rfl) (by simp), ?_⟩
  rw [succ_i i (by omega)]
  exact ⟨⟨hA, i + 1, rfl, by omega⟩, by simp only; omega⟩
end Go.Vc.W

/- The formulas of functions, printed by a program (VcTool.lean): each is what the generator's formula comes to, by the kernel's reckoning; whoever proves one has the function's contract. -/
set_option maxRecDepth 100000
set_option maxHeartbeats 1000000
set_option linter.unusedVariables false
namespace Vcw
open Go Go.Vc Go.RowKit
/-! manciple/mancipleref16.frames -/
def h30 : Hints := ⟨[1], [16, 32, 93, 103], [10, 67, 84, 87, 109, 22, 25, 38, 43, 48, 53, 58, 63, 70, 75, 80, 99], [(5, [0, 1, 2, 3, 4, 5, 6, 7, 8, 9, 10, 11, 12, 13, 14, 15, 16, 17, 18, 19, 20, 21, 22, 23, 24, 25, 26, 27, 28, 29, 30, 31, 32, 33, 34, 35, 36, 37, 38, 39, 40, 41, 42, 43, 44, 45, 46, 47, 48, 49]), (12, [0, 1, 2, 3, 4, 5, 6, 7, 8, 9, 10, 11, 12, 13, 14, 15, 16, 17, 18, 19])], [], [(2, ⟨[(3, .int .i64)], []⟩), (10, ⟨[(5, .int .i64)], []⟩)], [(7, ⟨[], []⟩), (6, ⟨[(67, .bool)], []⟩), (9, ⟨[], []⟩), (8, ⟨[(84, .bool)], []⟩)], [], []⟩
def f30_vc (b_0 : Int) (b_1 : Int) (b_2 : Int) (b_3 : Int) (b_4 : Int) (b_5 : Int) (b_6 : Int) (b_7 : Int) (b_8 : Int) (b_9 : Int) (b_10 : Int) (b_11a : Option Addr) (b_11n : Nat) (b_11c : Nat) (b_12a : Option Addr) (b_12n : Nat) (b_12c : Nat) (b_13a : Option Addr) (b_13n : Nat) (b_13c : Nat) (b_14a : Option Addr) (b_14n : Nat) (b_14c : Nat) (b_15a : Option Addr) (b_15n : Nat) (b_15c : Nat) (w : World) (R : Ending → World → Prop) : Prop :=
 ∀ (n1 : Nat),
 w.heap.size ≤ n1 →
 ∃ (J2 : Int × Unit → World → Prop),
 ∃ (J3 : Int × Unit → World → Nat),
 (∀ (w4 : World), Bel w w4 → Under [n1] w4 → J2 (0, ()) w4) ∧
 ∀ (x5 : Int) (w6 : World),
 J2 (x5, ()) w6 →
 (decide (x5 < (↑b_11n : Int)) = true →
 ∃ (ad7 : Addr),
 Gives Proofs.Try.prog (Instr.indexAt 25 (Value.slice b_11a b_11n b_11c) (Value.int IntKind.i64 x5)) (Value.pointer (some ad7)) ∧
 ∃ (x8 : Int),
 ∃ (x9 : Int),
 ∃ (x10 : Int),
 ∃ (b11 : Bool),
 ∃ (b12 : Bool),
 ∃ (x13 : Int),
 ∃ (x14 : Int),
 Reads Proofs.Try.prog [] (Instr.loadAt 48 (Value.pointer (some ad7))) w6
 (Value.agg #[Value.int IntKind.i64 x8, Value.int IntKind.i64 x9, Value.int IntKind.i64 x10, Value.bool b11, Value.bool b12, Value.int IntKind.i64 x13, Value.int IntKind.i64 x14]) ∧
 OpW Proofs.Try.prog (valueS (Instr.alloc 48 true (Value.tuple #[]))) w6 fun (v15 : Value) (w16 : World) =>
 ∃ (ad17 : Addr),
 v15 = Value.pointer (some ad17) ∧
 Keeps [n1] w6 w16 ∧
 OpW Proofs.Try.prog
 (skipS
 (Instr.storeAt 48 (Value.pointer (some ad17))
 (Value.agg #[Value.int IntKind.i64 x8, Value.int IntKind.i64 x9, Value.int IntKind.i64 x10, Value.bool b11, Value.bool b12, Value.int IntKind.i64 x13, Value.int IntKind.i64 x14])))
 w16 fun (v18 : Value) (w19 : World) =>
 Keeps [n1] w16 w19 ∧
 ∃ (J20 : Unit → World → Prop),
 (∃ (J21 : Bool × Unit → World → Prop),
 (∃ (x22 : Int),
 Reads Proofs.Try.prog [] (Instr.loadAt 2 (Value.pointer (some ad17))) w19 (Value.int IntKind.i64 x22) ∧
 ∀ (w23 : World),
 Bel w19 w23 →
 Under [n1] w23 →
 Calls Proofs.Try.prog 67 #[Value.int IntKind.i64 x22] w23 fun (e24 : Ending) (w25 : World) =>
 ∃ (b26 : Bool),
 e24 = Ending.returned (Value.bool b26) ∧
 Keeps [n1] w23 w25 ∧
 ((!b26) = true → J21 (true, ()) w25) ∧
 ((!b26) = false →
 (decide (x5 > 0) = true →
 ∃ (x27 : Int),
 Reads Proofs.Try.prog [] (Instr.loadAt 2 (Value.pointer (some ad17))) w25 (Value.int IntKind.i64 x27) ∧
 ∃ (ad28 : Addr),
 Gives Proofs.Try.prog (Instr.indexAt 25 (Value.slice b_11a b_11n b_11c) (Value.int IntKind.i64 (IntKind.i64.wrap (x5 - 1))))
 (Value.pointer (some ad28)) ∧
 ∃ (x29 : Int),
 Reads Proofs.Try.prog [] (Instr.loadAt 2 (Value.pointer (some ad28))) w25 (Value.int IntKind.i64 x29) ∧
 (decide (x27 ≤ x29) = true → J21 (true, ()) w25) ∧
 (decide (x27 ≤ x29) = false →
 ∃ (x30 : Int),
 Reads Proofs.Try.prog [] (Instr.loadAt 3 (Value.pointer (some (Addr.mk ad17.block (ad17.off + 1) none)))) w25
 (Value.int IntKind.i64 x30) ∧
 (decide (x30 < 1) = true → J21 (true, ()) w25) ∧
 (decide (x30 < 1) = false →
 ∃ (x31 : Int),
 Reads Proofs.Try.prog [] (Instr.loadAt 3 (Value.pointer (some (Addr.mk ad17.block (ad17.off + 1) none)))) w25
 (Value.int IntKind.i64 x31) ∧
 (decide (x31 > 32) = true → J21 (true, ()) w25) ∧
 (decide (x31 > 32) = false →
 ∃ (x32 : Int),
 Reads Proofs.Try.prog [] (Instr.loadAt 2 (Value.pointer (some (Addr.mk ad17.block (ad17.off + 2) none)))) w25
 (Value.int IntKind.i64 x32) ∧
 (decide (x32 < 1) = true → J21 (true, ()) w25) ∧
 (decide (x32 < 1) = false →
 ∃ (x33 : Int),
 Reads Proofs.Try.prog [] (Instr.loadAt 2 (Value.pointer (some (Addr.mk ad17.block (ad17.off + 2) none)))) w25
 (Value.int IntKind.i64 x33) ∧
 (decide (x33 > 1000) = true → J21 (true, ()) w25) ∧
 (decide (x33 > 1000) = false →
 ∃ (x34 : Int),
 Reads Proofs.Try.prog [] (Instr.loadAt 2 (Value.pointer (some (Addr.mk ad17.block (ad17.off + 5) none))))
 w25 (Value.int IntKind.i64 x34) ∧
 (decide (x34 < 0) = true → J21 (true, ()) w25) ∧
 (decide (x34 < 0) = false →
 ∃ (x35 : Int),
 Reads Proofs.Try.prog []
 (Instr.loadAt 2 (Value.pointer (some (Addr.mk ad17.block (ad17.off + 5) none)))) w25
 (Value.int IntKind.i64 x35) ∧
 J21 (decide (x35 > 9007199254740992), ()) w25))))))) ∧
 (decide (x5 > 0) = false →
 ∃ (x36 : Int),
 Reads Proofs.Try.prog [] (Instr.loadAt 3 (Value.pointer (some (Addr.mk ad17.block (ad17.off + 1) none)))) w25 (Value.int IntKind.i64 x36) ∧
 (decide (x36 < 1) = true → J21 (true, ()) w25) ∧
 (decide (x36 < 1) = false →
 ∃ (x37 : Int),
 Reads Proofs.Try.prog [] (Instr.loadAt 3 (Value.pointer (some (Addr.mk ad17.block (ad17.off + 1) none)))) w25 (Value.int IntKind.i64 x37) ∧
 (decide (x37 > 32) = true → J21 (true, ()) w25) ∧
 (decide (x37 > 32) = false →
 ∃ (x38 : Int),
 Reads Proofs.Try.prog [] (Instr.loadAt 2 (Value.pointer (some (Addr.mk ad17.block (ad17.off + 2) none)))) w25
 (Value.int IntKind.i64 x38) ∧
 (decide (x38 < 1) = true → J21 (true, ()) w25) ∧
 (decide (x38 < 1) = false →
 ∃ (x39 : Int),
 Reads Proofs.Try.prog [] (Instr.loadAt 2 (Value.pointer (some (Addr.mk ad17.block (ad17.off + 2) none)))) w25
 (Value.int IntKind.i64 x39) ∧
 (decide (x39 > 1000) = true → J21 (true, ()) w25) ∧
 (decide (x39 > 1000) = false →
 ∃ (x40 : Int),
 Reads Proofs.Try.prog [] (Instr.loadAt 2 (Value.pointer (some (Addr.mk ad17.block (ad17.off + 5) none)))) w25
 (Value.int IntKind.i64 x40) ∧
 (decide (x40 < 0) = true → J21 (true, ()) w25) ∧
 (decide (x40 < 0) = false →
 ∃ (x41 : Int),
 Reads Proofs.Try.prog [] (Instr.loadAt 2 (Value.pointer (some (Addr.mk ad17.block (ad17.off + 5) none)))) w25
 (Value.int IntKind.i64 x41) ∧
 J21 (decide (x41 > 9007199254740992), ()) w25)))))))) ∧
 ∀ (b42 : Bool) (w43 : World), J21 (b42, ()) w43 → (b42 = true → R (Ending.returned (Value.bool false)) w43) ∧ (b42 = false → J20 () w43)) ∧
 ∀ (w44 : World),
 J20 () w44 →
 ∃ (J45 : Unit → World → Prop),
 (∃ (J46 : Bool × Unit → World → Prop),
 (∃ (b47 : Bool),
 Reads Proofs.Try.prog [] (Instr.loadAt 4 (Value.pointer (some (Addr.mk ad17.block (ad17.off + 3) none)))) w44 (Value.bool b47) ∧
 (b47 = true →
 ∃ (x48 : Int),
 Reads Proofs.Try.prog [] (Instr.loadAt 2 (Value.pointer (some (Addr.mk ad17.block (ad17.off + 6) none)))) w44 (Value.int IntKind.i64 x48) ∧
 ((x48 != 0) = true → J46 (true, ()) w44) ∧
 ((x48 != 0) = false →
 ∃ (x49 : Int),
 Reads Proofs.Try.prog [] (Instr.loadAt 2 (Value.pointer (some (Addr.mk ad17.block (ad17.off + 6) none)))) w44 (Value.int IntKind.i64 x49) ∧
 (decide (x49 < 0) = true → J46 (true, ()) w44) ∧
 (decide (x49 < 0) = false →
 ∃ (x50 : Int),
 Reads Proofs.Try.prog [] (Instr.loadAt 2 (Value.pointer (some (Addr.mk ad17.block (ad17.off + 6) none)))) w44 (Value.int IntKind.i64 x50) ∧
 J46 (decide (x50 > 18014398509481984), ()) w44))) ∧
 (b47 = false →
 ∃ (x51 : Int),
 Reads Proofs.Try.prog [] (Instr.loadAt 2 (Value.pointer (some (Addr.mk ad17.block (ad17.off + 6) none)))) w44 (Value.int IntKind.i64 x51) ∧
 (decide (x51 < 0) = true → J46 (true, ()) w44) ∧
 (decide (x51 < 0) = false →
 ∃ (x52 : Int),
 Reads Proofs.Try.prog [] (Instr.loadAt 2 (Value.pointer (some (Addr.mk ad17.block (ad17.off + 6) none)))) w44 (Value.int IntKind.i64 x52) ∧
 J46 (decide (x52 > 18014398509481984), ()) w44))) ∧
 ∀ (b53 : Bool) (w54 : World), J46 (b53, ()) w54 → (b53 = true → R (Ending.returned (Value.bool false)) w54) ∧ (b53 = false → J45 () w54)) ∧
 ∀ (w55 : World),
 J45 () w55 →
 ∃ (J56 : Int × Unit → World → Prop),
 ∃ (J57 : Int × Unit → World → Nat),
 J56 (0, ()) w55 ∧
 ∀ (x58 : Int) (w59 : World),
 J56 (x58, ()) w59 →
 (decide (x58 < x5) = true →
 ∃ (ad60 : Addr),
 Gives Proofs.Try.prog (Instr.indexAt 25 (Value.slice b_11a b_11n b_11c) (Value.int IntKind.i64 x58)) (Value.pointer (some ad60)) ∧
 ∃ (x61 : Int),
 Reads Proofs.Try.prog [] (Instr.loadAt 3 (Value.pointer (some (Addr.mk ad60.block (ad60.off + 1) none)))) w59 (Value.int IntKind.i64 x61) ∧
 ∃ (x62 : Int),
 Reads Proofs.Try.prog [] (Instr.loadAt 3 (Value.pointer (some (Addr.mk ad17.block (ad17.off + 1) none)))) w59 (Value.int IntKind.i64 x62) ∧
 ((x61 == x62) = true →
 ∃ (ad63 : Addr),
 Gives Proofs.Try.prog (Instr.indexAt 25 (Value.slice b_11a b_11n b_11c) (Value.int IntKind.i64 x58)) (Value.pointer (some ad63)) ∧
 ∃ (x64 : Int),
 Reads Proofs.Try.prog [] (Instr.loadAt 2 (Value.pointer (some (Addr.mk ad63.block (ad63.off + 2) none)))) w59
 (Value.int IntKind.i64 x64) ∧
 ∃ (x65 : Int),
 Reads Proofs.Try.prog [] (Instr.loadAt 2 (Value.pointer (some (Addr.mk ad17.block (ad17.off + 2) none)))) w59
 (Value.int IntKind.i64 x65) ∧
 ((x64 != x65) = true → ∀ (w66 : World), Bel w59 w66 → Under [n1] w66 → R (Ending.returned (Value.bool false)) w66) ∧
 ((x64 != x65) = false →
 ∀ (w67 : World),
 Bel w59 w67 →
 Under [n1] w67 → J56 (IntKind.i64.wrap (x58 + 1), ()) w67 ∧ J57 (IntKind.i64.wrap (x58 + 1), ()) w67 < J57 (x58, ()) w59)) ∧
 ((x61 == x62) = false →
 ∀ (w68 : World),
 Bel w59 w68 → Under [n1] w68 → J56 (IntKind.i64.wrap (x58 + 1), ()) w68 ∧ J57 (IntKind.i64.wrap (x58 + 1), ()) w68 < J57 (x58, ()) w59)) ∧
 (decide (x58 < x5) = false → J2 (IntKind.i64.wrap (x5 + 1), ()) w59 ∧ J3 (IntKind.i64.wrap (x5 + 1), ()) w59 < J3 (x5, ()) w6)) ∧
 (decide (x5 < (↑b_11n : Int)) = false → R (Ending.returned (Value.bool (decide ((↑b_11n : Int) ≤ b_4)))) w6)
theorem f30_eq (b_0 : Int) (b_1 : Int) (b_2 : Int) (b_3 : Int) (b_4 : Int) (b_5 : Int) (b_6 : Int) (b_7 : Int) (b_8 : Int) (b_9 : Int) (b_10 : Int) (b_11a : Option Addr) (b_11n : Nat) (b_11c : Nat) (b_12a : Option Addr) (b_12n : Nat) (b_12c : Nat) (b_13a : Option Addr) (b_13n : Nat) (b_13c : Nat) (b_14a : Option Addr) (b_14n : Nat) (b_14c : Nat) (b_15a : Option Addr) (b_15n : Nat) (b_15c : Nat) (w : World) (R : Ending → World → Prop) : (fnF Go.Proofs.Try.prog h30 Go.Proofs.Try.f30 [Value.agg
 #[Value.int IntKind.i64 b_0, Value.int IntKind.i64 b_1, Value.int IntKind.i64 b_2, Value.int IntKind.i64 b_3, Value.int IntKind.i64 b_4, Value.int IntKind.i64 b_5, Value.int IntKind.i64 b_6, Value.int IntKind.i64 b_7,
 Value.int IntKind.i64 b_8, Value.int IntKind.i64 b_9, Value.int IntKind.i64 b_10, Value.slice b_11a b_11n b_11c, Value.slice b_12a b_12n b_12c, Value.slice b_13a b_13n b_13c, Value.slice b_14a b_14n b_14c,
 Value.slice b_15a b_15n b_15c]] w R).den = f30_vc b_0 b_1 b_2 b_3 b_4 b_5 b_6 b_7 b_8 b_9 b_10 b_11a b_11n b_11c b_12a b_12n b_12c b_13a b_13n b_13c b_14a b_14n b_14c b_15a b_15n b_15c w R := by kernel_rfl
theorem f30_calls (b_0 : Int) (b_1 : Int) (b_2 : Int) (b_3 : Int) (b_4 : Int) (b_5 : Int) (b_6 : Int) (b_7 : Int) (b_8 : Int) (b_9 : Int) (b_10 : Int) (b_11a : Option Addr) (b_11n : Nat) (b_11c : Nat) (b_12a : Option Addr) (b_12n : Nat) (b_12c : Nat) (b_13a : Option Addr) (b_13n : Nat) (b_13c : Nat) (b_14a : Option Addr) (b_14n : Nat) (b_14c : Nat) (b_15a : Option Addr) (b_15n : Nat) (b_15c : Nat) (w : World) (R : Ending → World → Prop) (h : f30_vc b_0 b_1 b_2 b_3 b_4 b_5 b_6 b_7 b_8 b_9 b_10 b_11a b_11n b_11c b_12a b_12n b_12c b_13a b_13n b_13c b_14a b_14n b_14c b_15a b_15n b_15c w R) : Calls Go.Proofs.Try.prog 30 (List.toArray [Value.agg
 #[Value.int IntKind.i64 b_0, Value.int IntKind.i64 b_1, Value.int IntKind.i64 b_2, Value.int IntKind.i64 b_3, Value.int IntKind.i64 b_4, Value.int IntKind.i64 b_5, Value.int IntKind.i64 b_6, Value.int IntKind.i64 b_7,
 Value.int IntKind.i64 b_8, Value.int IntKind.i64 b_9, Value.int IntKind.i64 b_10, Value.slice b_11a b_11n b_11c, Value.slice b_12a b_12n b_12c, Value.slice b_13a b_13n b_13c, Value.slice b_14a b_14n b_14c,
 Value.slice b_15a b_15n b_15c]]) w R :=
 fn_sound (H := h30) (fn := Go.Proofs.Try.f30) (by kernel_rfl) (by kernel_rfl) (by kernel_rfl) ((f30_eq b_0 b_1 b_2 b_3 b_4 b_5 b_6 b_7 b_8 b_9 b_10 b_11a b_11n b_11c b_12a b_12n b_12c b_13a b_13n b_13c b_14a b_14n b_14c b_15a b_15n b_15c w R).mpr h)


/-! slices.IndexFunc[[]manciple/api.Frame,manciple/api.Frame] -/
def h59 : Hints := ⟨[], [14, 16], [9, 16], [], [], [(2, ⟨[(8, .int .i64)], []⟩)], [], [], []⟩
def f59_vc (sa : Option Addr) (sn : Nat) (sc : Nat) (f : Value) (w : World) (R : Ending → World → Prop) : Prop :=
 ∃ (J1 : Int × Unit → World → Prop),
 ∃ (J2 : Int × Unit → World → Nat),
 J1 (0, ()) w ∧
 ∀ (x3 : Int) (w4 : World),
 J1 (x3, ()) w4 →
 (decide (x3 < (↑sn : Int)) = true →
 ∃ (ad5 : Addr),
 Gives Proofs.Try.prog (Instr.indexAt 25 (Value.slice sa sn sc) (Value.int IntKind.i64 x3)) (Value.pointer (some ad5)) ∧
 ∃ (x6 : Int),
 ∃ (x7 : Int),
 ∃ (x8 : Int),
 ∃ (b9 : Bool),
 ∃ (b10 : Bool),
 ∃ (x11 : Int),
 ∃ (x12 : Int),
 Reads Proofs.Try.prog [] (Instr.loadAt 48 (Value.pointer (some ad5))) w4
 (Value.agg #[Value.int IntKind.i64 x6, Value.int IntKind.i64 x7, Value.int IntKind.i64 x8, Value.bool b9, Value.bool b10, Value.int IntKind.i64 x11, Value.int IntKind.i64 x12]) ∧
 OpW Proofs.Try.prog
 (invokeS f #[Value.agg #[Value.int IntKind.i64 x6, Value.int IntKind.i64 x7, Value.int IntKind.i64 x8, Value.bool b9, Value.bool b10, Value.int IntKind.i64 x11, Value.int IntKind.i64 x12]]) w4
 fun (v13 : Value) (w14 : World) =>
 ∃ (b15 : Bool),
 v13 = Value.bool b15 ∧
 (b15 = true → R (Ending.returned (Value.int IntKind.i64 x3)) w14) ∧ (b15 = false → J1 (IntKind.i64.wrap (x3 + 1), ()) w14 ∧ J2 (IntKind.i64.wrap (x3 + 1), ()) w14 < J2 (x3, ()) w4)) ∧
 (decide (x3 < (↑sn : Int)) = false → R (Ending.returned (Value.int IntKind.i64 (-1))) w4)
theorem f59_eq (sa : Option Addr) (sn : Nat) (sc : Nat) (f : Value) (w : World) (R : Ending → World → Prop) : (fnF Go.Proofs.Try.prog h59 Go.Proofs.Try.f59 [Value.slice sa sn sc, f] w R).den = f59_vc sa sn sc f w R := by kernel_rfl
theorem f59_calls (sa : Option Addr) (sn : Nat) (sc : Nat) (f : Value) (w : World) (R : Ending → World → Prop) (h : f59_vc sa sn sc f w R) : Calls Go.Proofs.Try.prog 59 (List.toArray [Value.slice sa sn sc, f]) w R :=
 fn_sound (H := h59) (fn := Go.Proofs.Try.f59) (by kernel_rfl) (by kernel_rfl) (by kernel_rfl) ((f59_eq sa sn sc f w R).mpr h)


/-! manciple/book.Frame$1 -/
def h60 : Hints := ⟨[2], [], [], [], [], [], [], [], []⟩
def f60_vc (f_0 : Int) (f_1 : Int) (f_2 : Int) (f_3 : Bool) (f_4 : Bool) (f_5 : Int) (f_6 : Int) (cap0 : Value) (w : World) (R : Ending → World → Prop) : Prop :=
 ∀ (n1 : Nat), w.heap.size ≤ n1 → ∃ (x2 : Int), Reads Proofs.Try.prog [] (Instr.loadAt 2 cap0) w (Value.int IntKind.i64 x2) ∧ ∀ (w3 : World), Bel w w3 → Under [n1] w3 → R (Ending.returned (Value.bool (f_0 == x2))) w3
theorem f60_eq (f_0 : Int) (f_1 : Int) (f_2 : Int) (f_3 : Bool) (f_4 : Bool) (f_5 : Int) (f_6 : Int) (cap0 : Value) (w : World) (R : Ending → World → Prop) : (fnF Go.Proofs.Try.prog h60 Go.Proofs.Try.f60 [Value.agg #[Value.int IntKind.i64 f_0, Value.int IntKind.i64 f_1, Value.int IntKind.i64 f_2, Value.bool f_3, Value.bool f_4, Value.int IntKind.i64 f_5, Value.int IntKind.i64 f_6], cap0] w R).den = f60_vc f_0 f_1 f_2 f_3 f_4 f_5 f_6 cap0 w R := by kernel_rfl
theorem f60_calls (f_0 : Int) (f_1 : Int) (f_2 : Int) (f_3 : Bool) (f_4 : Bool) (f_5 : Int) (f_6 : Int) (cap0 : Value) (w : World) (R : Ending → World → Prop) (h : f60_vc f_0 f_1 f_2 f_3 f_4 f_5 f_6 cap0 w R) : Calls Go.Proofs.Try.prog 60 (List.toArray [Value.agg #[Value.int IntKind.i64 f_0, Value.int IntKind.i64 f_1, Value.int IntKind.i64 f_2, Value.bool f_3, Value.bool f_4, Value.int IntKind.i64 f_5, Value.int IntKind.i64 f_6], cap0]) w R :=
 fn_sound (H := h60) (fn := Go.Proofs.Try.f60) (by kernel_rfl) (by kernel_rfl) (by kernel_rfl) ((f60_eq f_0 f_1 f_2 f_3 f_4 f_5 f_6 cap0 w R).mpr h)


/-! slices.IndexFunc[[]manciple/api.Agent,manciple/api.Agent] -/
def h61 : Hints := ⟨[], [14, 16], [9, 16], [], [], [(2, ⟨[(8, .int .i64)], []⟩)], [], [], []⟩
def f61_vc (sa : Option Addr) (sn : Nat) (sc : Nat) (f : Value) (w : World) (R : Ending → World → Prop) : Prop :=
 ∃ (J1 : Int × Unit → World → Prop),
 ∃ (J2 : Int × Unit → World → Nat),
 J1 (0, ()) w ∧
 ∀ (x3 : Int) (w4 : World),
 J1 (x3, ()) w4 →
 (decide (x3 < (↑sn : Int)) = true →
 ∃ (ad5 : Addr),
 Gives Proofs.Try.prog (Instr.indexAt 26 (Value.slice sa sn sc) (Value.int IntKind.i64 x3)) (Value.pointer (some ad5)) ∧
 ∃ (x6 : Int),
 ∃ (a7 : Option Addr),
 ∃ (n8 : Nat),
 ∃ (n9 : Nat),
 ∃ (a10 : Option Addr),
 ∃ (n11 : Nat),
 ∃ (n12 : Nat),
 Reads Proofs.Try.prog [] (Instr.loadAt 56 (Value.pointer (some ad5))) w4 (Value.agg #[Value.int IntKind.i64 x6, Value.slice a7 n8 n9, Value.slice a10 n11 n12]) ∧
 OpW Proofs.Try.prog (invokeS f #[Value.agg #[Value.int IntKind.i64 x6, Value.slice a7 n8 n9, Value.slice a10 n11 n12]]) w4 fun (v13 : Value) (w14 : World) =>
 ∃ (b15 : Bool),
 v13 = Value.bool b15 ∧
 (b15 = true → R (Ending.returned (Value.int IntKind.i64 x3)) w14) ∧ (b15 = false → J1 (IntKind.i64.wrap (x3 + 1), ()) w14 ∧ J2 (IntKind.i64.wrap (x3 + 1), ()) w14 < J2 (x3, ()) w4)) ∧
 (decide (x3 < (↑sn : Int)) = false → R (Ending.returned (Value.int IntKind.i64 (-1))) w4)
theorem f61_eq (sa : Option Addr) (sn : Nat) (sc : Nat) (f : Value) (w : World) (R : Ending → World → Prop) : (fnF Go.Proofs.Try.prog h61 Go.Proofs.Try.f61 [Value.slice sa sn sc, f] w R).den = f61_vc sa sn sc f w R := by kernel_rfl
theorem f61_calls (sa : Option Addr) (sn : Nat) (sc : Nat) (f : Value) (w : World) (R : Ending → World → Prop) (h : f61_vc sa sn sc f w R) : Calls Go.Proofs.Try.prog 61 (List.toArray [Value.slice sa sn sc, f]) w R :=
 fn_sound (H := h61) (fn := Go.Proofs.Try.f61) (by kernel_rfl) (by kernel_rfl) (by kernel_rfl) ((f61_eq sa sn sc f w R).mpr h)


/-! manciple/book.Agent$1 -/
def h62 : Hints := ⟨[2], [], [], [], [], [], [], [], []⟩
def f62_vc (a_0 : Int) (a_1a : Option Addr) (a_1n : Nat) (a_1c : Nat) (a_2a : Option Addr) (a_2n : Nat) (a_2c : Nat) (cap0 : Value) (w : World) (R : Ending → World → Prop) : Prop :=
 ∀ (n1 : Nat), w.heap.size ≤ n1 → ∃ (x2 : Int), Reads Proofs.Try.prog [] (Instr.loadAt 2 cap0) w (Value.int IntKind.i64 x2) ∧ ∀ (w3 : World), Bel w w3 → Under [n1] w3 → R (Ending.returned (Value.bool (a_0 == x2))) w3
theorem f62_eq (a_0 : Int) (a_1a : Option Addr) (a_1n : Nat) (a_1c : Nat) (a_2a : Option Addr) (a_2n : Nat) (a_2c : Nat) (cap0 : Value) (w : World) (R : Ending → World → Prop) : (fnF Go.Proofs.Try.prog h62 Go.Proofs.Try.f62 [Value.agg #[Value.int IntKind.i64 a_0, Value.slice a_1a a_1n a_1c, Value.slice a_2a a_2n a_2c], cap0] w R).den = f62_vc a_0 a_1a a_1n a_1c a_2a a_2n a_2c cap0 w R := by kernel_rfl
theorem f62_calls (a_0 : Int) (a_1a : Option Addr) (a_1n : Nat) (a_1c : Nat) (a_2a : Option Addr) (a_2n : Nat) (a_2c : Nat) (cap0 : Value) (w : World) (R : Ending → World → Prop) (h : f62_vc a_0 a_1a a_1n a_1c a_2a a_2n a_2c cap0 w R) : Calls Go.Proofs.Try.prog 62 (List.toArray [Value.agg #[Value.int IntKind.i64 a_0, Value.slice a_1a a_1n a_1c, Value.slice a_2a a_2n a_2c], cap0]) w R :=
 fn_sound (H := h62) (fn := Go.Proofs.Try.f62) (by kernel_rfl) (by kernel_rfl) (by kernel_rfl) ((f62_eq a_0 a_1a a_1n a_1c a_2a a_2n a_2c cap0 w R).mpr h)


/-! slices.IndexFunc[[]manciple/api.Filter,manciple/api.Filter] -/
def h72 : Hints := ⟨[], [14, 16], [9, 16], [], [], [(2, ⟨[(8, .int .i64)], []⟩)], [], [], []⟩
def f72_vc (sa : Option Addr) (sn : Nat) (sc : Nat) (f : Value) (w : World) (R : Ending → World → Prop) : Prop :=
 ∃ (J1 : Int × Unit → World → Prop),
 ∃ (J2 : Int × Unit → World → Nat),
 J1 (0, ()) w ∧
 ∀ (x3 : Int) (w4 : World),
 J1 (x3, ()) w4 →
 (decide (x3 < (↑sn : Int)) = true →
 ∃ (ad5 : Addr),
 Gives Proofs.Try.prog (Instr.indexAt 29 (Value.slice sa sn sc) (Value.int IntKind.i64 x3)) (Value.pointer (some ad5)) ∧
 ∃ (x6 : Int),
 ∃ (x7 : Int),
 ∃ (x8 : Int),
 ∃ (a9 : Option Addr),
 ∃ (n10 : Nat),
 ∃ (n11 : Nat),
 Reads Proofs.Try.prog [] (Instr.loadAt 62 (Value.pointer (some ad5))) w4 (Value.agg #[Value.int IntKind.i64 x6, Value.int IntKind.i64 x7, Value.int IntKind.i64 x8, Value.slice a9 n10 n11]) ∧
 OpW Proofs.Try.prog (invokeS f #[Value.agg #[Value.int IntKind.i64 x6, Value.int IntKind.i64 x7, Value.int IntKind.i64 x8, Value.slice a9 n10 n11]]) w4 fun (v12 : Value) (w13 : World) =>
 ∃ (b14 : Bool),
 v12 = Value.bool b14 ∧
 (b14 = true → R (Ending.returned (Value.int IntKind.i64 x3)) w13) ∧ (b14 = false → J1 (IntKind.i64.wrap (x3 + 1), ()) w13 ∧ J2 (IntKind.i64.wrap (x3 + 1), ()) w13 < J2 (x3, ()) w4)) ∧
 (decide (x3 < (↑sn : Int)) = false → R (Ending.returned (Value.int IntKind.i64 (-1))) w4)
theorem f72_eq (sa : Option Addr) (sn : Nat) (sc : Nat) (f : Value) (w : World) (R : Ending → World → Prop) : (fnF Go.Proofs.Try.prog h72 Go.Proofs.Try.f72 [Value.slice sa sn sc, f] w R).den = f72_vc sa sn sc f w R := by kernel_rfl
theorem f72_calls (sa : Option Addr) (sn : Nat) (sc : Nat) (f : Value) (w : World) (R : Ending → World → Prop) (h : f72_vc sa sn sc f w R) : Calls Go.Proofs.Try.prog 72 (List.toArray [Value.slice sa sn sc, f]) w R :=
 fn_sound (H := h72) (fn := Go.Proofs.Try.f72) (by kernel_rfl) (by kernel_rfl) (by kernel_rfl) ((f72_eq sa sn sc f w R).mpr h)


/-! (manciple/sums.Sums).Right -/
def h74 : Hints := ⟨[1], [8, 13], [16, 11], [], [(2, 5)], [], [], [], []⟩
def f74_vc (a_0 : Int) (a_1 : Int) (a_2 : Int) (a_3 : Int) (w : World) (R : Ending → World → Prop) : Prop :=
 ∀ (n1 : Nat),
 w.heap.size ≤ n1 →
 (decide (a_0 < 0) = true → ∀ (w2 : World), Bel w w2 → Under [n1] w2 → R (Ending.returned (Value.bool false)) w2) ∧
 (decide (a_0 < 0) = false →
 (decide (a_0 > 1152921504606846976) = true → ∀ (w3 : World), Bel w w3 → Under [n1] w3 → R (Ending.returned (Value.bool false)) w3) ∧
 (decide (a_0 > 1152921504606846976) = false →
 (decide (a_1 < 0) = true → ∀ (w4 : World), Bel w w4 → Under [n1] w4 → R (Ending.returned (Value.bool false)) w4) ∧
 (decide (a_1 < 0) = false →
 (decide (a_1 > 1152921504606846976) = true → ∀ (w5 : World), Bel w w5 → Under [n1] w5 → R (Ending.returned (Value.bool false)) w5) ∧
 (decide (a_1 > 1152921504606846976) = false →
 (decide (a_2 < 0) = true → ∀ (w6 : World), Bel w w6 → Under [n1] w6 → R (Ending.returned (Value.bool false)) w6) ∧
 (decide (a_2 < 0) = false →
 (decide (a_2 > 1152921504606846976) = true → ∀ (w7 : World), Bel w w7 → Under [n1] w7 → R (Ending.returned (Value.bool false)) w7) ∧
 (decide (a_2 > 1152921504606846976) = false →
 (decide (a_3 < 0) = true → ∀ (w8 : World), Bel w w8 → Under [n1] w8 → R (Ending.returned (Value.bool false)) w8) ∧
 (decide (a_3 < 0) = false →
 (decide (a_3 > 1152921504606846976) = true → ∀ (w9 : World), Bel w w9 → Under [n1] w9 → R (Ending.returned (Value.bool false)) w9) ∧
 (decide (a_3 > 1152921504606846976) = false → ∀ (w10 : World), Bel w w10 → Under [n1] w10 → R (Ending.returned (Value.bool true)) w10))))))))
theorem f74_eq (a_0 : Int) (a_1 : Int) (a_2 : Int) (a_3 : Int) (w : World) (R : Ending → World → Prop) : (fnF Go.Proofs.Try.prog h74 Go.Proofs.Try.f74 [Value.agg #[Value.int IntKind.i64 a_0, Value.int IntKind.i64 a_1, Value.int IntKind.i64 a_2, Value.int IntKind.i64 a_3]] w R).den = f74_vc a_0 a_1 a_2 a_3 w R := by kernel_rfl
theorem f74_calls (a_0 : Int) (a_1 : Int) (a_2 : Int) (a_3 : Int) (w : World) (R : Ending → World → Prop) (h : f74_vc a_0 a_1 a_2 a_3 w R) : Calls Go.Proofs.Try.prog 74 (List.toArray [Value.agg #[Value.int IntKind.i64 a_0, Value.int IntKind.i64 a_1, Value.int IntKind.i64 a_2, Value.int IntKind.i64 a_3]]) w R :=
 fn_sound (H := h74) (fn := Go.Proofs.Try.f74) (by kernel_rfl) (by kernel_rfl) (by kernel_rfl) ((f74_eq a_0 a_1 a_2 a_3 w R).mpr h)

end Vcw

/- A part of an own slice's element is stored. -/
namespace Go.Vc
open Go Go.RowKit
section
variable {α : Type} {P : Program} {w W : World} {M : Nat → Prop} {gs : List Nat} {e : TypeId} {size : Nat} {f : α → List Value} {a : Option Addr} {n c : Nat} {l : List α}

theorem part_swap {β : Type} {A X B ys : List β} {o m : Nat} (h : o + m ≤ X.length) : (A ++ X ++ B).take (A.length + o) ++ ys ++ (A ++ X ++ B).drop (A.length + o + m) = A ++ (X.take o ++ ys ++ X.drop (o + m)) ++ B := by
  have e1 : (A ++ X ++ B).take (A.length + o) = A ++ X.take o := by
    rw [List.append_assoc, List.take_append, List.take_of_length_le (by omega), Nat.add_sub_cancel_left, List.take_append_of_le_length (by omega)]
  have e2 : (A ++ X ++ B).drop (A.length + o + m) = X.drop (o + m) ++ B := by
    rw [List.append_assoc, List.drop_append, List.drop_of_length_le (by omega), List.nil_append, show A.length + o + m - A.length = o + m by omega, List.drop_append_of_le_length (by omega)]
  rw [e1, e2]
  simp only [List.append_assoc]

theorem opw_storeP {te : TypeId} {i o m : Nat} {x0 y : α} {x : Value} (hA : AtF w M gs W) (ho : OwnF w M gs W e size f (.slice a n c) l) (hf : ∀ x ∈ l, (f x).length = size) (hx : l[i]? = some x0) (hom : o + m ≤ size) (hy : f y = (f x0).take o ++ x.cells.toList ++ (f x0).drop (o + m)) (hxl : x.cells.toList.length = m) (h1 : x.cells.toList.all oneCell = true) (hsz : pureRun P (sizeOf te) = some m) {K : Value → World → Prop} {ad : Addr} (had : ∀ g, a = some ⟨g, 0, none⟩ → ad = ⟨g, i * size + o, none⟩)
    (h : ∀ w', AtF w M gs w' → Keeps gs W w' → Chg (fun b => (Value.slice a n c).ownBlock = some b) W w' → OwnF w M gs w' e size f (.slice a n c) (l.set i y) → K undef w') :
    OpW P (skipS (Instr.storeAt te (.pointer (some ad)) x)) W K := by
  have hi := (List.getElem?_eq_some_iff.1 hx).1
  obtain ⟨g, cur, rfl, hge, hg, hlc, hcm, hcs, htk⟩ := ho.ptr (by omega)
  have had := had g rfl
  subst had
  have hn := ho.len
  have hlx : (f x0).length = size := hf x0 (List.mem_of_getElem? hx)
  have hle : i * size + size ≤ l.length * size := by
    have := Nat.mul_le_mul_right size (show i + 1 ≤ l.length by omega)
    rw [Nat.add_mul] at this
    omega
  have hle2 : l.length * size ≤ cur.size := by rw [hcs]; exact Nat.mul_le_mul_right _ hlc
  have hcl : cellStore P te cur.toList (i * size + o) x = some (cur.toList.take (i * size + o) ++ x.cells.toList ++ cur.toList.drop (i * size + o + m)) := by
    unfold cellStore
    rw [hsz]
    have b1 : Nat.beq x.cells.toList.length m = true := by rw [hxl]; exact Nat.beq_refl _
    have b2 : Nat.ble (i * size + o + m) cur.toList.length = true := Nat.ble_eq_true_of_le (by rw [Array.length_toList]; omega)
    simp only [b1, b2, h1]
    rfl
  obtain ⟨W', hr, hg', hb, hs1, h2, h3, h4⟩ := run_cellStore (P := P) (t := te) (cells := cur.toList) (by simpa using hg) hcl
  have hch : Chg (fun b => (Value.slice (some ⟨g, 0, none⟩) n c).ownBlock = some b) W W' := ⟨h2, h3, h4, by omega, fun k _ hk => hb k (fun e => hk (by rw [e]; rfl)), run_drawn hr⟩
  have hsk : (skipS (Instr.storeAt te (.pointer (some ⟨g, i * size + o, none⟩)) x)).run P W = .ok .skip W' := by
    unfold skipS
    rw [run_bind_ok hr]
    rfl
  unfold OpW
  rw [hsk]
  have hlf := flatMap_len hf
  have hset : ∀ z ∈ l.set i y, (f z).length = size := fun z hz => by
    rcases List.mem_or_eq_of_mem_set hz with hz | rfl
    · exact hf z hz
    · rw [hy]
      simp only [List.length_append, List.length_take, List.length_drop, hlx, hxl]
      omega
  refine h W' (hA.step hch fun b _ hb => ho.mine b hb) (hA.keepsC hch fun x hx hb => ho.apart x hx hb) hch ⟨?_, ho.mine, ho.apart⟩
  refine ⟨flatMap_len hset, .inr ⟨g, c, _, by rw [List.length_set, hn], Nat.zero_le _, hg', by rw [List.length_set]; exact hlc, hcm, ?_, ?_⟩⟩
  · simp only [List.size_toArray, List.length_append, List.length_take, List.length_drop, Array.length_toList, hxl]
    omega
  · rw [List.length_set]
    simp only
    have htm := take_mid (cur := cur.toList) (xs := l.flatMap f) (y := x.cells.toList) (L := l.length * size) (a := i * size + o) (s := m) htk hlf hxl (by omega)
    rw [htm]
    have hsplit : l.flatMap f = (l.flatMap f).take (i * size) ++ f x0 ++ (l.flatMap f).drop (i * size + size) := by
      have hp := flatMap_part hf hx
      conv => lhs; rw [← List.take_append_drop (i * size) (l.flatMap f), ← List.take_append_drop size ((l.flatMap f).drop (i * size)), hp, List.drop_drop]
      rw [List.append_assoc]
    have hAl : ((l.flatMap f).take (i * size)).length = i * size := by
      rw [List.length_take, hlf]; omega
    have hps := part_swap (A := (l.flatMap f).take (i * size)) (X := f x0) (B := (l.flatMap f).drop (i * size + size)) (ys := x.cells.toList) (o := o) (m := m) (by omega)
    rw [← hsplit, hAl] at hps
    rw [hps, ← hy, flatMap_set hf hi]

theorem own_elt {t : TypeId} {i : Nat} {x : α} {k : IntKind} (ho : OwnF w M gs W e size f (.slice a n c) l) (hf : ∀ x ∈ l, (f x).length = size) (hx : l[i]? = some x) (ht : P.underlying t = some (.slice e)) (hz : pureRun P (sizeOf e) = some size) :
    ∃ g, a = some ⟨g, 0, none⟩ ∧ Gives P (Instr.indexAt t (.slice a n c) (.int k (i : Int))) (.pointer (some ⟨g, i * size, none⟩)) ∧ Elt W ⟨g, i * size, none⟩ (f x) := by
  have hi := (List.getElem?_eq_some_iff.1 hx).1
  obtain ⟨g, cur, rfl, _⟩ := ho.ptr (by omega)
  have hs := ho.sl hf
  have hn := ho.len
  obtain ⟨ad', cs, ha, hcl, hcs, rfl⟩ := hs.at_ hx
  cases ha
  have e1 : (⟨g, 0, none⟩ : Addr).add (i * size) = ⟨g, i * size, none⟩ := by rw [addr_add]; simp
  refine ⟨g, rfl, ?_, ?_⟩
  · have := gives_index (P := P) (t := t) (k := k) (ad := ⟨g, 0, none⟩) (len := n) (cap := c) (i := i) ht hz (by omega)
    rw [e1] at this
    exact this
  · intro j v hv
    have := hcs j v hv
    rw [e1] at this
    exact this
end
end Go.Vc

/- sums.Right, Add, Of. -/
set_option maxRecDepth 20000
namespace Go.Vc.W
open Go Go.Vc Go.Vc.V Go.RowKit Go.Proofs Vcw

abbrev arrV (a b c d : Int) : Value := .agg #[.int .i64 a, .int .i64 b, .int .i64 c, .int .i64 d]
def sumR (a b c d : Int) : Prop := (0 ≤ a ∧ a ≤ 1152921504606846976) ∧ (0 ≤ b ∧ b ≤ 1152921504606846976) ∧ (0 ≤ c ∧ c ≤ 1152921504606846976) ∧ (0 ≤ d ∧ d ≤ 1152921504606846976)
instance (a b c d : Int) : Decidable (sumR a b c d) := by unfold sumR; infer_instance
abbrev pairA (a b c d : Int) (o : Bool) : Value := .tuple #[arrV a b c d, .bool o]
theorem c74 (a b c d : Int) (w : World) : Ret Try.prog 74 #[arrV a b c d] w (.bool (decide (sumR a b c d))) := by
  intro R h
  refine f74_calls a b c d w R ?_
  unfold f74_vc
  have hA := At.refl w
  refine go_n hA fun n1 h_n1 => ?_
  have no : ¬ sumR a b c d → ∀ W, At w [n1] W → R (.returned (.bool false)) W := fun hn W hA => leaf h hA (by rw [decide_eq_false hn])
  unfold sumR at no
  refine brD (fun h1 => go_below hA fun _ hA => no (by omega) _ hA) (fun h1 => ?_)
  refine brD (fun h2 => go_below hA fun _ hA => no (by omega) _ hA) (fun h2 => ?_)
  refine brD (fun h3 => go_below hA fun _ hA => no (by omega) _ hA) (fun h3 => ?_)
  refine brD (fun h4 => go_below hA fun _ hA => no (by omega) _ hA) (fun h4 => ?_)
  refine brD (fun h5 => go_below hA fun _ hA => no (by omega) _ hA) (fun h5 => ?_)
  refine brD (fun h6 => go_below hA fun _ hA => no (by omega) _ hA) (fun h6 => ?_)
  refine brD (fun h7 => go_below hA fun _ hA => no (by omega) _ hA) (fun h7 => ?_)
  refine brD (fun h8 => go_below hA fun _ hA => no (by omega) _ hA) (fun h8 => ?_)
  refine go_below hA fun _ hA => ?_
  exact leaf h hA (by rw [decide_eq_true (show sumR a b c d by unfold sumR; omega)])


theorem arr_elt {W : World} {l : List Int} {ad : Addr} {n c : Nat} (hs : SlE W 1 one l (some ad) n c) (hsp : ad.spot = none) : Elt W ad (l.map fun x => Value.int .i64 x) := by
  intro j v hv
  rw [List.getElem?_map] at hv
  cases hx : l[j]? with
  | none => rw [hx] at hv; cases hv
  | some x =>
    rw [hx] at hv
    cases hv
    obtain ⟨ad', cs, ha, hl, hcs, rfl⟩ := hs.at_ hx
    cases ha
    have := hcs 0 _ rfl
    rw [addr_add_add _ _ _ hsp] at this
    simpa using this


theorem vec_bound {k : Int} {l : List PartT} (h : vecB l = true) : 0 ≤ sumK k l ∧ sumK k l ≤ 297237575406452736 := by
  have hs := slots_of h
  have hb := (vecB_iff.1 h)
  rw [sumK_tot k hs]
  have : ∀ n, n ≤ 33 → 0 ≤ rsum (fun r => tot (k, (r : Int)) l) n ∧ rsum (fun r => tot (k, (r : Int)) l) n ≤ 9007199254740992 * n := fun n => by
    induction n with
    | zero => intro _; simp [rsum]
    | succ n ih =>
      intro hn
      have ih := ih (by omega)
      have := amt_nonneg (s := (k, (n : Int))) hb.1
      rw [amt_tot hb.2] at this
      rw [rsum]
      omega
  have := this 33 (Nat.le_refl _)
  omega
theorem vec_take {l : List PartT} (n : Nat) (h : vecB l = true) : vecB (l.take n) = true :=
  vecB_iff.2 ⟨fun p hp => (vecB_iff.1 h).1 p (List.mem_of_mem_take hp), (vecB_iff.1 h).2.sublist (List.take_sublist n l)⟩
def sumL (l : List PartT) : List Int := [sumK 0 l, sumK 1 l, sumK 2 l, sumK 3 l]
theorem sumL_snoc {l : List PartT} {p : PartT} {k : Nat} (hp : p.1 = k) (hk : k < 4) : sumL (l ++ [p]) = (sumL l).set k (sumK p.1 l + p.2.2) ∧ (sumL l)[k]? = some (sumK p.1 l) := by
  have e : ∀ j : Int, sumK j (l ++ [p]) = sumK j l + (if p.1 = j then p.2.2 else 0) := fun j => by rw [sumK_append]; simp [sumK]
  have hc : k = 0 ∨ k = 1 ∨ k = 2 ∨ k = 3 := by omega
  unfold sumL
  simp only [e, hp]
  rcases hc with rfl | rfl | rfl | rfl <;> simp

def ofV (l : List PartT) : Value := if vecB l = true then arrV (sumK 0 l) (sumK 1 l) (sumK 2 l) (sumK 3 l) else arrV 0 0 0 0


theorem c47 {l : List PartT} {a : Option Addr} {n c : Nat} (w : World) (hs : SlE w 3 partE l a n c) : Ret Try.prog 47 #[.slice a n c] w (ofV l) := by
  intro R h
  refine f47_calls a n c w R ?_
  unfold f47_vc
  have hA := At.refl w
  have hn := hs.1
  subst hn
  have hlen := hs.len_le.2
  refine go_n hA fun n1 h_n1 => ?_
  refine go_below hA fun w2 hA => ?_
  refine opw_allocArr (n := 4) (size := 1) (f := one) (z := (0 : Int)) hA (zv := arrV 0 0 0 0) (by kernel_rfl) rfl rfl (by decide) fun w4 hA hk ho => ⟨_, rfl, hk, ?_⟩
  generalize hg : w2.heap.size = g at ho
  refine at_callb hA (c63 _ (hs.call hA.below)) (fun w7 hA hk hb => ⟨_, rfl, hk, ?_⟩)
  have ho := ho.call hb
  have rdA : ∀ {W : World} {gs : List Nat} {x0 x1 x2 x3 : Int}, OwnL w gs W 77 1 one (.slice (some ⟨g, 0, none⟩) 4 4) [x0, x1, x2, x3] → Reads Try.prog [] (Instr.loadAt 77 (.pointer (some ⟨g, 0, none⟩))) W (arrV x0 x1 x2 x3) := fun ho =>
    Elt.agg 4 (arr_elt (ho.sl (by simp)) rfl) (by kernel_rfl) (by kernel_rfl) (by simp) no_ds
  refine brNB (fun hno => ⟨_, _, _, _, rdA ho, ?_⟩) (fun hv => ?_)
  · refine go_evo hA (by intro d hd; simp at hd; omega) fun _ hA => ?_
    exact leaf h hA (by rw [ofV, if_neg (by rw [hno]; decide)])
  have hat : ∀ {W : World} {gs : List Nat} {i : Nat} {x : PartT}, At w gs W → l[i]? = some x → ∃ ad, Gives Try.prog (Instr.indexAt 33 (.slice a l.length c) (.int .i64 (i : Int))) (.pointer (some ad)) ∧ Reads Try.prog [] (Instr.loadAt 66 (.pointer (some ad))) W (partV x) := fun hA hx =>
    rd_agg (f := partE) (hs.call hA.below) hx (e := 66) (by kernel_rfl) (by kernel_rfl) (by kernel_rfl) (by kernel_rfl) (fun _ h => by cases h)
  refine ⟨fun s W => At w [n1] W ∧ ∃ k : Nat, s.1 = k ∧ k ≤ l.length ∧ OwnL w [n1] W 77 1 one (.slice (some ⟨g, 0, none⟩) 4 4) (sumL (l.take k)), fun s _ => l.length - s.1.toNat, ⟨hA, 0, rfl, Nat.zero_le _, ho⟩, ?_⟩
  intro i W ⟨hA, k, hi, hk, ho⟩
  simp only at hi
  subst hi
  refine brD (fun hlt => ?_) (fun hge => ?_)
  · obtain ⟨p, hp⟩ : ∃ x, l[k]? = some x := ⟨_, List.getElem?_eq_getElem (by omega)⟩
    obtain ⟨ad, g1, r1⟩ := hat hA hp
    have e1 : IntKind.i64.wrap ((k : Int) + 1) = ((k + 1 : Nat) : Int) := by rw [wrap_i64 (by omega) (by omega)]; rfl
    rw [e1]
    refine ⟨_, g1, _, _, _, r1, fun n22 hn22 => ?_⟩
    have hpr := (vecB_iff.1 hv).1 p (List.mem_of_getElem? hp)
    have hsl : 0 ≤ p.1 ∧ p.1 < 4 := ⟨hpr.1.1, hpr.1.2.1⟩
    obtain ⟨kk, hkk⟩ : ∃ kk : Nat, p.1 = kk := ⟨p.1.toNat, by omega⟩
    have hkk4 : kk < 4 := by omega
    obtain ⟨hset, hget⟩ := sumL_snoc (l := l.take k) hkk hkk4
    have htk : l.take k ++ [p] = l.take (k + 1) := by rw [List.take_add_one, hp]; rfl
    rw [htk] at hset
    have hb0 := vec_bound (k := p.1) (vec_take k hv)
    have hb1 := hpr.2
    have hx : Reads Try.prog [n22] (Instr.loadAt 2 (.pointer (some (Addr.add ⟨g, 0, none⟩ (kk * 1))))) W (.int .i64 (sumK p.1 (l.take k))) := by
      obtain ⟨ad', cs, ha, hl, hcs, rfl⟩ := (ho.sl (by simp)).at_ hget
      cases ha
      refine reads_one (by kernel_rfl) (fun d hd => ?_) (by have := hcs 0 _ rfl; rw [addr_add0] at this; exact this)
      simp at hd
      subst hd
      rw [add_block]
      have := World.block_lt_of_cell? W _ (hcs 0 _ rfl)
      rw [add_block, add_block] at this
      simp only at this ⊢
      omega
    have hgx : Gives Try.prog (Instr.indexAt 77 (.pointer (some ⟨g, 0, none⟩)) (.int .i64 p.1)) (.pointer (some (Addr.add ⟨g, 0, none⟩ (kk * 1)))) := by
      rw [hkk]
      exact gives_index_arr (e := 2) (by kernel_rfl) (by kernel_rfl) hkk4
    refine ⟨_, hgx, _, hx, _, hgx, ?_⟩
    have hsz := hA.size
    refine go_evo_too hA (by intro d hd; simp at hd; omega) fun w26 hA26 hev => ?_
    have ho26 := (ho.more (gs' := [n1, n22]) (by intro g' h1 h2; simp at h1 h2; omega)).evo (by intro d hd h2; simp at hd h2; omega) hev
    rw [wrap_i64 (by omega) (by omega)]
    refine opw_store (y := sumK p.1 (l.take k) + p.2.2) (i := kk) hA26 ho26 (by simp) (by simpa [sumL] using hkk4) rfl rfl rfl (by kernel_rfl) (fun w28 hA28 hk28 _ ho28 => ⟨hk28, ⟨⟨hA28.chg, fun g hg => hA28.under g (by simp at hg ⊢; omega)⟩, k + 1, rfl, by omega, ?_⟩, by show l.length - ((k + 1 : Nat) : Int).toNat < l.length - (k : Int).toNat; omega⟩) (fun g' hg' => by cases hg'; exact addr_add _ _ _ ▸ (by simp))
    rw [← hset] at ho28
    exact ho28.more (by intro g' h1 h2; simp at h1 h2; omega)
  · have hke : k = l.length := by omega
    subst hke
    rw [List.take_length] at ho
    refine ⟨_, _, _, _, rdA ho, ?_⟩
    refine go_evo hA (by intro d hd; simp at hd; omega) fun _ hA => ?_
    exact leaf h hA (by rw [ofV, if_pos hv])

/-! ### Move -/
end Go.Vc.W

/- Frames answer. -/
set_option maxRecDepth 20000
set_option maxHeartbeats 1000000
namespace Go.Vc.W
open Go Go.Vc Go.Vc.V Go.RowKit Go.Proofs Vcw

variable {w W W' : World} {M : Nat → Prop} {gs : List Nat}

theorem c30 {b : BkA} {d : BkD} (w : World) (hb : Bk w b d) : RetQ Try.prog 30 #[b.v] w fun v _ => ∃ x, v = .bool x ∧ (x = true → d.frs.length ≤ b.c4 ∧ ∀ f ∈ d.frs, 1 ≤ f.1) := by
  intro R h
  refine f30_calls _ _ _ _ _ _ _ _ _ _ _ _ _ _ _ _ _ _ _ _ _ _ _ _ _ _ w R ?_
  unfold f30_vc
  have hn := hb.fr.len_le
  have out : ∀ {gs w'}, At w gs w' → R (.returned (.bool false)) w' := fun hA => h _ _ hA.below ⟨false, rfl, fun e => by cases e⟩
  intro n1 hn1
  refine ⟨fun v W' => At w [n1] W' ∧ ∃ i : Nat, v.1 = i ∧ i ≤ d.frs.length ∧ ∀ f ∈ d.frs.take i, 1 ≤ f.1, fun v _ => (b.f.2.1 - v.1).toNat, ⟨fun w4 hb4 hu => ⟨⟨((At.refl w).call hb4).chg, hu⟩, 0, rfl, Nat.zero_le _, by simp⟩, ?_⟩⟩
  rintro x5 w6 ⟨hA, i, hi, hil, hids⟩
  simp only at hi
  subst hi
  refine brD (fun hlt => ?_) (fun hge => h _ _ hA.below ⟨_, rfl, fun e => ⟨by have := of_decide_eq_true e; omega, by rw [show i = d.frs.length by omega, List.take_length] at hids; exact hids⟩⟩)
  have hat : ∀ {k : Nat}, k < d.frs.length → ∃ ad f, Gives Try.prog (Instr.indexAt 25 (.slice b.f.1 b.f.2.1 b.f.2.2) (.int .i64 (k : Int))) (.pointer (some ad)) ∧ Elt w ad (frE f) ∧ d.frs[k]? = some f := fun {k} hk => by
    obtain ⟨f, hf⟩ : ∃ x, d.frs[k]? = some x := ⟨_, List.getElem?_eq_getElem hk⟩
    obtain ⟨ad, g1, el, _⟩ := elt_at (P := Try.prog) (k := .i64) (t := 25) hb.fr hf (e := 48) (by kernel_rfl) (by kernel_rfl)
    exact ⟨ad, f, g1, el, hf⟩
  obtain ⟨ad, f, g1, el, hfi⟩ := hat (k := i) (by omega)
  refine ⟨ad, g1, _, _, _, _, _, _, _, (el.below hA.below).agg 7 (by kernel_rfl) (by kernel_rfl) (by simp) (by simp), ?_⟩
  refine opw_allocS (frE (0, 0, 0, false, false, 0, 0)) (zv := .agg (frE (0, 0, 0, false, false, 0, 0)).toArray) (by kernel_rfl) rfl hA fun p w16 hp hA16 hk16 hb16 hpb => ⟨_, rfl, hk16, ?_⟩
  have hszA := hA.size
  have hpg : p ∉ [n1] := fun hx => by have := hA.under _ hx; omega
  refine opw_storeF hA16 hpb (.inl (by omega)) hpg (cells' := frE f) (by kernel_rfl) fun w19 hA19 hk19 hch hpb => ⟨hk19, ?_⟩
  have el0 : ∀ {W' : World}, W'.heap[p]? = some (.cells (frE f).toArray 48 (0, 0)) → Elt W' ⟨p, 0, none⟩ (frE f) := fun h => elt_cells h
  have keep : ∀ {W1 W2 : World}, Bel W1 W2 → W1.heap[p]? = some (.cells (frE f).toArray 48 (0, 0)) → W2.heap[p]? = some (.cells (frE f).toArray 48 (0, 0)) := fun hb h => by rw [hb.block (Array.getElem?_eq_some_iff.1 h).1, h]
  have r1 : ∀ {W'}, W'.heap[p]? = some (.cells (frE f).toArray 48 (0, 0)) → Reads Try.prog [] (Instr.loadAt 3 (.pointer (some ⟨p, 0 + 1, none⟩))) W' (.int .i64 f.2.1) := fun h => ((el0 h).sub (o := 1) (by decide)).one (by kernel_rfl) (by simp)
  have r2 : ∀ {W'}, W'.heap[p]? = some (.cells (frE f).toArray 48 (0, 0)) → Reads Try.prog [] (Instr.loadAt 2 (.pointer (some ⟨p, 0 + 2, none⟩))) W' (.int .i64 f.2.2.1) := fun h => ((el0 h).sub (o := 2) (by decide)).one (by kernel_rfl) (by simp)
  have r3 : ∀ {W'}, W'.heap[p]? = some (.cells (frE f).toArray 48 (0, 0)) → Reads Try.prog [] (Instr.loadAt 4 (.pointer (some ⟨p, 0 + 3, none⟩))) W' (.bool f.2.2.2.1) := fun h => ((el0 h).sub (o := 3) (by decide)).one (by kernel_rfl) (by simp)
  have r5 : ∀ {W'}, W'.heap[p]? = some (.cells (frE f).toArray 48 (0, 0)) → Reads Try.prog [] (Instr.loadAt 2 (.pointer (some ⟨p, 0 + 5, none⟩))) W' (.int .i64 f.2.2.2.2.2.1) := fun h => ((el0 h).sub (o := 5) (by decide)).one (by kernel_rfl) (by simp)
  have r6 : ∀ {W'}, W'.heap[p]? = some (.cells (frE f).toArray 48 (0, 0)) → Reads Try.prog [] (Instr.loadAt 2 (.pointer (some ⟨p, 0 + 6, none⟩))) W' (.int .i64 f.2.2.2.2.2.2) := fun h => ((el0 h).sub (o := 6) (by decide)).one (by kernel_rfl) (by simp)
  refine ⟨fun _ W' => (At w [n1] W' ∧ W'.heap[p]? = some (.cells (frE f).toArray 48 (0, 0))) ∧ 1 ≤ f.1, ⟨fun v W' => (At w [n1] W' ∧ W'.heap[p]? = some (.cells (frE f).toArray 48 (0, 0))) ∧ (v.1 = false → 1 ≤ f.1), ⟨_, (el0 hpb).one (by kernel_rfl) (by simp), ?_⟩, ?_⟩, ?_⟩
  · intro w23 hb23 hun
    have hA : At w [n1] w23 := ⟨(hA19.call hb23).chg, hun⟩
    refine at_callb hA (c67 f.1 w23) fun w25 hA hk hb25 => ⟨_, rfl, hk, ?_⟩
    have hp25 := keep (hb23.trans hb25) hpb
    have J : At w [n1] w25 ∧ w25.heap[p]? = some (.cells (frE f).toArray 48 (0, 0)) := ⟨hA, hp25⟩
    have el25 := el0 hp25
    refine brNB (fun _ => ⟨J, fun e => by cases e⟩) (fun hid => ?_)
    have hid := (of_decide_eq_true hid).1
    have J : ∀ {x : Bool}, (At w [n1] w25 ∧ w25.heap[p]? = some (.cells (frE f).toArray 48 (0, 0))) ∧ (x = false → 1 ≤ f.1) := fun {x} => ⟨J, fun _ => hid⟩
    refine brD (fun hpos => ?_) (fun _ => ?_)
    · obtain ⟨ad2, q, g2, el2, _⟩ := hat (k := i - 1) (by omega)
      rw [prev_i (by omega) (by omega)]
      refine ⟨_, el25.one (by kernel_rfl) (by simp), ad2, g2, _, (el2.below hA.below).one (by kernel_rfl) (by simp), brD (fun _ => J) (fun _ => ?_)⟩
      exact ⟨_, r1 hp25, brD (fun _ => J) (fun _ => ⟨_, r1 hp25, brD (fun _ => J) (fun _ => ⟨_, r2 hp25, brD (fun _ => J) (fun _ => ⟨_, r2 hp25, brD (fun _ => J) (fun _ => ⟨_, r5 hp25, brD (fun _ => J) (fun _ => ⟨_, r5 hp25, J⟩)⟩)⟩)⟩)⟩)⟩
    · exact ⟨_, r1 hp25, brD (fun _ => J) (fun _ => ⟨_, r1 hp25, brD (fun _ => J) (fun _ => ⟨_, r2 hp25, brD (fun _ => J) (fun _ => ⟨_, r2 hp25, brD (fun _ => J) (fun _ => ⟨_, r5 hp25, brD (fun _ => J) (fun _ => ⟨_, r5 hp25, J⟩)⟩)⟩)⟩)⟩)⟩
  · rintro b42 w43 ⟨⟨hA, hp43⟩, hid⟩
    exact brB (fun _ => out hA) (fun e => ⟨⟨hA, hp43⟩, hid e⟩)
  rintro w44 ⟨⟨hA, hp44⟩, hid⟩
  have J : At w [n1] w44 ∧ w44.heap[p]? = some (.cells (frE f).toArray 48 (0, 0)) := ⟨hA, hp44⟩
  refine ⟨fun _ W' => At w [n1] W' ∧ W'.heap[p]? = some (.cells (frE f).toArray 48 (0, 0)), ⟨fun _ W' => At w [n1] W' ∧ W'.heap[p]? = some (.cells (frE f).toArray 48 (0, 0)), ⟨_, r3 hp44, brB (fun _ => ⟨_, r6 hp44, brN (fun _ => J) (fun _ => ⟨_, r6 hp44, brD (fun _ => J) (fun _ => ⟨_, r6 hp44, J⟩)⟩)⟩) (fun _ => ⟨_, r6 hp44, brD (fun _ => J) (fun _ => ⟨_, r6 hp44, J⟩)⟩)⟩, ?_⟩, ?_⟩
  · rintro b53 w54 ⟨hA, hp54⟩
    exact brB (fun _ => out hA) (fun _ => ⟨hA, hp54⟩)
  rintro w55 ⟨hA, hp55⟩
  refine ⟨fun v W' => (At w [n1] W' ∧ W'.heap[p]? = some (.cells (frE f).toArray 48 (0, 0))) ∧ ∃ k : Nat, v.1 = k ∧ k ≤ i, fun v _ => ((i : Int) - v.1).toNat, ⟨⟨hA, hp55⟩, 0, rfl, Nat.zero_le _⟩, ?_⟩
  rintro x58 w59 ⟨⟨hA, hp59⟩, k, hk, hki⟩
  simp only at hk
  subst hk
  refine brD (fun hlt2 => ?_) (fun _ => ?_)
  · obtain ⟨ad3, q, g3, el3, _⟩ := hat (k := k) (by omega)
    have el3 := el3.below hA.below
    rw [succ_i k (by omega)]
    have go : ∀ {w'}, Bel w59 w' → Under [n1] w' → ((At w [n1] w' ∧ w'.heap[p]? = some (.cells (frE f).toArray 48 (0, 0))) ∧ ∃ j : Nat, ((k + 1 : Nat) : Int) = j ∧ j ≤ i) ∧ ((i : Int) - ((k + 1 : Nat) : Int)).toNat < ((i : Int) - (k : Int)).toNat := fun hb hu => ⟨⟨⟨⟨(hA.call hb).chg, hu⟩, keep hb hp59⟩, k + 1, rfl, by omega⟩, by omega⟩
    refine ⟨ad3, g3, _, (el3.sub (o := 1) (by decide)).one (by kernel_rfl) (by simp), _, r1 hp59, brE (fun _ => ⟨ad3, g3, _, (el3.sub (o := 2) (by decide)).one (by kernel_rfl) (by simp), _, r2 hp59, brN (fun _ w66 hb66 _ => h _ _ (hA.call hb66).below ⟨_, rfl, fun e => by cases e⟩) (fun _ w67 hb67 hu => go hb67 hu)⟩) (fun _ w68 hb68 hu => go hb68 hu)⟩
  · rw [succ_i i (by omega)]
    refine ⟨⟨hA, i + 1, rfl, by omega, fun y hy => ?_⟩, by simp only; omega⟩
    rw [List.take_add_one, hfi] at hy
    rcases List.mem_append.1 hy with hy | hy
    · exact hids y hy
    · simp at hy
      subst hy
      exact hid
end Go.Vc.W

/- ref06.Of; a configuration; most. -/
set_option maxRecDepth 20000
set_option maxHeartbeats 1000000
namespace Go.Vc.W
open Go Go.Vc Go.Vc.V Go.RowKit Go.Proofs Vcw

variable {w W W' : World} {M : Nat → Prop} {gs : List Nat}

theorem c49 {l : List PartT} {a : Option Addr} {n c : Nat} (w : World) (hs : SlE w 3 partE l a n c) : Ret Try.prog 49 #[.slice a n c] w (ofV l) := by
  intro R h
  refine f49_calls a n c w R ?_
  unfold f49_vc
  have hA := At.refl w
  have hn := hs.1
  subst hn
  have hlen := hs.len_le.2
  refine go_n hA fun n1 h_n1 => ?_
  refine go_below hA fun w2 hA => ?_
  refine opw_allocArr (n := 4) (size := 1) (f := one) (z := (0 : Int)) hA (zv := arrV 0 0 0 0) (by kernel_rfl) rfl rfl (by decide) fun w4 hA hk ho => ⟨_, rfl, hk, ?_⟩
  generalize hg : w2.heap.size = g at ho
  refine at_callb hA (c14 _ (hs.call hA.below)) (fun w7 hA hk hb => ⟨_, rfl, hk, ?_⟩)
  have ho := ho.call hb
  have rdA : ∀ {W : World} {gs : List Nat} {x0 x1 x2 x3 : Int}, OwnL w gs W 22 1 one (.slice (some ⟨g, 0, none⟩) 4 4) [x0, x1, x2, x3] → Reads Try.prog [] (Instr.loadAt 22 (.pointer (some ⟨g, 0, none⟩))) W (arrV x0 x1 x2 x3) := fun ho =>
    Elt.agg 4 (arr_elt (ho.sl (by simp)) rfl) (by kernel_rfl) (by kernel_rfl) (by simp) no_ds
  refine brNB (fun hno => ⟨_, _, _, _, rdA ho, ?_⟩) (fun hv => ?_)
  · refine go_evo hA (by intro d hd; simp at hd; omega) fun _ hA => ?_
    exact leaf h hA (by rw [ofV, if_neg (by rw [hno]; decide)])
  refine ⟨fun s W => At w [n1] W ∧ ∃ k : Nat, s.1 = k ∧ k ≤ l.length ∧ OwnL w [n1] W 22 1 one (.slice (some ⟨g, 0, none⟩) 4 4) (sumL (l.take k)), fun s _ => l.length - s.1.toNat, ⟨hA, 0, rfl, Nat.zero_le _, ho⟩, ?_⟩
  intro i W ⟨hA, k, hi, hk, ho⟩
  simp only at hi
  subst hi
  refine brD (fun hlt => ?_) (fun hge => ?_)
  · obtain ⟨p, hp⟩ : ∃ x, l[k]? = some x := ⟨_, List.getElem?_eq_getElem (by omega)⟩
    obtain ⟨ad, g1, el, _⟩ := elt_at (P := Try.prog) (k := .i64) (t := 33) hs hp (e := 66) (by kernel_rfl) (by kernel_rfl)
    have el := el.below hA.below
    have hpr := (vecB_iff.1 hv).1 p (List.mem_of_getElem? hp)
    have hsl : 0 ≤ p.1 ∧ p.1 < 4 := ⟨hpr.1.1, hpr.1.2.1⟩
    obtain ⟨kk, hkk⟩ : ∃ kk : Nat, p.1 = kk := ⟨p.1.toNat, by omega⟩
    have hkk4 : kk < 4 := by omega
    obtain ⟨hset, hget⟩ := sumL_snoc (l := l.take k) hkk hkk4
    have htk : l.take k ++ [p] = l.take (k + 1) := by rw [List.take_add_one, hp]; rfl
    rw [htk] at hset
    have hb0 := vec_bound (k := p.1) (vec_take k hv)
    have hb1 := hpr.2
    have hx : Reads Try.prog [] (Instr.loadAt 2 (.pointer (some (Addr.add ⟨g, 0, none⟩ (kk * 1))))) W (.int .i64 (sumK p.1 (l.take k))) := by
      obtain ⟨ad', cs, ha, hl, hcs, rfl⟩ := (ho.sl (by simp)).at_ hget
      cases ha
      exact reads_one (by kernel_rfl) (fun d hd => by cases hd) (by have := hcs 0 _ rfl; rw [addr_add0] at this; exact this)
    have hgx : Gives Try.prog (Instr.indexAt 22 (.pointer (some ⟨g, 0, none⟩)) (.int .i64 p.1)) (.pointer (some (Addr.add ⟨g, 0, none⟩ (kk * 1)))) := by
      rw [hkk]
      exact gives_index_arr (e := 2) (by kernel_rfl) (by kernel_rfl) hkk4
    have rk : Reads Try.prog [] (Instr.loadAt 3 (.pointer (some ad))) W (.int .i64 p.1) := el.one (by kernel_rfl) (by simp)
    refine ⟨ad, g1, _, rk, ad, g1, _, rk, _, hgx, _, hx, ad, g1, _, (el.sub (o := 2) (by decide)).one (by kernel_rfl) (by simp), _, hgx, ?_⟩
    intro w27 hb27 hun
    have hA27 : At w [n1] w27 := ⟨(hA.call hb27).chg, hun⟩
    rw [wrap_i64 (by omega) (by omega), succ_i k (by omega)]
    refine opw_store (y := sumK p.1 (l.take k) + p.2.2) (i := kk) hA27 (ho.call hb27) (by simp) (by simpa [sumL] using hkk4) rfl rfl rfl (by kernel_rfl) (fun w28 hA28 hk28 _ ho28 => ⟨hk28, ⟨hA28, k + 1, rfl, by omega, ?_⟩, by simp only; omega⟩) (fun g' hg' => by cases hg'; simp [Addr.add]; omega)
    rw [← hset] at ho28
    exact ho28
  · have hke : k = l.length := by omega
    subst hke
    rw [List.take_length] at ho
    refine ⟨_, _, _, _, rdA ho, ?_⟩
    refine go_evo hA (by intro d hd; simp at hd; omega) fun _ hA => ?_
    exact leaf h hA (by rw [ofV, if_pos hv])
end Go.Vc.W

/- most; the configuration; Rule. -/
set_option maxRecDepth 20000
set_option maxHeartbeats 1000000
namespace Go.Vc.W
open Go Go.Vc Go.Vc.V Go.RowKit Go.Proofs Vcw

variable {w W W' : World} {M : Nat → Prop} {gs : List Nat}

theorem own4 {p : Nat} {x0 x1 x2 x3 : Int} (h : W.heap[p]? = some (.cells [.int .i64 x0, .int .i64 x1, .int .i64 x2, .int .i64 x3].toArray 22 (0, 0))) (hp : w.heap.size ≤ p) (hg : p ∉ gs) : OwnL w gs W 22 1 one (.slice (some ⟨p, 0, none⟩) 4 4) [x0, x1, x2, x3] :=
  ⟨⟨rfl, .inr ⟨p, 4, _, rfl, Nat.zero_le _, h, Nat.le_refl _, by decide, rfl, rfl⟩⟩, fun k hk => .inl (by cases hk; exact hp), fun g hm e => hg (by cases e; exact hm)⟩
theorem at4 {l : List Int} {g : Nat} (ho : OwnL w gs W 22 1 one (.slice (some ⟨g, 0, none⟩) 4 4) l) {k : Nat} (hk : k < 4) : ∃ x, l[k]? = some x ∧ Gives Try.prog (Instr.indexAt 22 (.pointer (some ⟨g, 0, none⟩)) (.int .i64 (k : Int))) (.pointer (some (Addr.add ⟨g, 0, none⟩ (k * 1)))) ∧ Reads Try.prog [] (Instr.loadAt 2 (.pointer (some (Addr.add ⟨g, 0, none⟩ (k * 1))))) W (.int .i64 x) := by
  have hl := ho.len
  obtain ⟨x, hx⟩ : ∃ x, l[k]? = some x := ⟨_, List.getElem?_eq_getElem (by omega)⟩
  refine ⟨x, hx, gives_index_arr (e := 2) (by kernel_rfl) (by kernel_rfl) hk, ?_⟩
  obtain ⟨ad', cs, ha, hl, hcs, rfl⟩ := (ho.sl (by simp)).at_ hx
  cases ha
  exact reads_one (by kernel_rfl) (fun d hd => by cases hd) (by have := hcs 0 _ rfl; rw [addr_add0] at this; exact this)
theorem c32 {b : BkA} {d : BkD} (w : World) (hb : Bk w b d) : RetBool 32 #[b.v] w := by
  intro R h
  refine f32_calls _ _ _ _ _ _ _ _ _ _ _ _ _ _ _ _ _ _ _ _ _ _ _ _ _ _ w R ?_
  unfold f32_vc
  have hn := hb.ag.len_le
  have out : ∀ (x : Bool) {gs w'}, At w gs w' → R (.returned (.bool x)) w' := fun x _ w' hA => h _ _ hA.below ⟨x, rfl⟩
  intro n1 hn1 w2 hb2 hun2
  have hA : At w [n1] w2 := ⟨((At.refl w).call hb2).chg, hun2⟩
  refine opw_allocS [.int .i64 0, .int .i64 0, .int .i64 0, .int .i64 0] (zv := arrV 0 0 0 0) (by kernel_rfl) rfl hA fun p w4 hp hA4 hk4 hb4 hpb => ⟨_, rfl, hk4, ?_⟩
  have hsz := hA.size
  have hpg : p ∉ [n1] := fun hx => by have := hA.under _ hx; omega
  refine opw_storeF hA4 hpb (.inl (by omega)) hpg (cells' := [.int .i64 b.c1, .int .i64 b.c1, .int .i64 b.c1, .int .i64 b.c1]) (by kernel_rfl) fun w7 hA7 hk7 hch hpb => ⟨hk7, ?_⟩
  have hop := own4 (w := w) hpb (by omega) hpg
  refine ⟨fun v W' => At w [n1] W' ∧ (∃ l, OwnL w [n1] W' 22 1 one (.slice (some ⟨p, 0, none⟩) 4 4) l) ∧ ∃ i : Nat, v.1 = i ∧ i ≤ d.ags.length, fun v _ => (b.a.2.1 - v.1).toNat, ⟨hA7, ⟨_, hop⟩, 0, rfl, Nat.zero_le _⟩, ?_⟩
  rintro x10 w11 ⟨hA, ⟨l, ho⟩, i, hi, hil⟩
  simp only at hi
  subst hi
  refine brD (fun hlt => ?_) (fun _ => out _ hA)
  obtain ⟨q, hq⟩ : ∃ x, d.ags[i]? = some x := ⟨_, List.getElem?_eq_getElem (by omega)⟩
  obtain ⟨ad, cs, g1, el, a1, m1, c1, a2, m2, c2, rfl, s1, s2⟩ := rel_at (t := 26) hb.ag hq (e := 56) (by kernel_rfl) (by kernel_rfl)
  refine ⟨ad, g1, _, _, _, ((el.below hA.below).sub (o := 1) (by decide)).one (by kernel_rfl) (by simp), ?_⟩
  have e49 : ∃ z0 z1 z2 z3, ofV q.2.1 = arrV z0 z1 z2 z3 := by
    unfold ofV
    split
    · exact ⟨_, _, _, _, rfl⟩
    · exact ⟨_, _, _, _, rfl⟩
  obtain ⟨z0, z1, z2, z3, e49⟩ := e49
  have k49 := c49 w11 (s1.call hA.below)
  rw [e49] at k49
  refine at_callb hA k49 fun w17 hA17 hk17 hb17 => ⟨_, _, _, _, rfl, hk17, ?_⟩
  refine opw_allocS [.int .i64 0, .int .i64 0, .int .i64 0, .int .i64 0] (zv := arrV 0 0 0 0) (by kernel_rfl) rfl hA17 fun p2 w23 hp2 hA23 hk23 hb23 hpb2 => ⟨_, rfl, hk23, ?_⟩
  have hsz17 := hA17.size
  have hpg2 : p2 ∉ [n1] := fun hx => by have := hA17.under _ hx; omega
  refine opw_storeF hA23 hpb2 (.inl (by omega)) hpg2 (cells' := [.int .i64 z0, .int .i64 z1, .int .i64 z2, .int .i64 z3]) (by kernel_rfl) fun w26 hA26 hk26 hch2 hpb2 => ⟨hk26, ?_⟩
  have ho2 := own4 (w := w) hpb2 (by omega) hpg2
  have hpp : p < p2 := by
    have := ho.lt p rfl
    have := hb17.size
    omega
  have ho : OwnL w [n1] w26 22 1 one (.slice (some ⟨p, 0, none⟩) 4 4) l := ((ho.call hb17).call hb23).chg hch2 fun k hk e => by
    have : p = k := by cases hk; rfl
    omega
  refine ⟨fun v W' => At w [n1] W' ∧ (∃ l, OwnL w [n1] W' 22 1 one (.slice (some ⟨p, 0, none⟩) 4 4) l) ∧ OwnL w [n1] W' 22 1 one (.slice (some ⟨p2, 0, none⟩) 4 4) [z0, z1, z2, z3] ∧ ∃ k : Nat, v.1 = k ∧ k ≤ 4, fun v _ => ((4 : Int) - v.1).toNat, ⟨hA26, ⟨_, ho⟩, ho2, 0, rfl, Nat.zero_le _⟩, ?_⟩
  rintro x29 w30 ⟨hA, ⟨l, ho⟩, ho2, k, hk, hk4⟩
  simp only at hk
  subst hk
  refine brD (fun hlt2 => ?_) (fun _ => ?_)
  · have hk3 : k < 4 := by omega
    obtain ⟨x, hx, gx, rx⟩ := at4 ho hk3
    obtain ⟨y, _, gy, ry⟩ := at4 ho2 hk3
    refine ⟨_, gx, _, rx, _, gy, _, ry, _, gx, ?_⟩
    intro w36 hb36 hun36
    have hA36 : At w [n1] w36 := ⟨(hA.call hb36).chg, hun36⟩
    have hll := ho.len
    refine opw_store (y := IntKind.i64.wrap (x - y)) (i := k) hA36 (ho.call hb36) (fun _ _ => rfl) (by omega) rfl rfl rfl (by kernel_rfl) (fun w38 hA38 hk38 hg38 ho38 => ⟨hk38, ?_⟩) (fun g' hg' => by cases hg'; simp [Addr.add]; omega)
    obtain ⟨x2, _, gx2, rx2⟩ := at4 ho38 hk3
    have ho2' := (ho2.call hb36).grown hg38 (.inr fun e => by
      have : p2 = p := by cases e; rfl
      omega)
    rw [succ_i k (by omega)]
    exact ⟨_, gx2, _, rx2, brD (fun _ => out _ hA38) (fun _ => ⟨⟨hA38, ⟨_, ho38⟩, ho2', k + 1, rfl, by omega⟩, by simp only; omega⟩)⟩
  · rw [succ_i i (by omega)]
    exact ⟨⟨hA, ⟨_, ho⟩, i + 1, rfl, by omega⟩, by simp only; omega⟩
end Go.Vc.W

/- The configuration; Rule. -/
set_option maxRecDepth 20000
set_option maxHeartbeats 1000000
namespace Go.Vc.W
open Go Go.Vc Go.Vc.V Go.RowKit Go.Proofs Vcw

variable {w W W' : World} {M : Nat → Prop} {gs : List Nat}

def inQ (n : Int) : Prop := 0 ≤ n ∧ n ≤ 9007199254740992
instance (n : Int) : Decidable (inQ n) := by unfold inQ; infer_instance
theorem c29 (c0 c1 c2 c3 c4 c5 c6 c7 c8 : Int) (w : World) : RetQ Try.prog 29 #[.agg #[.int .i64 c0, .int .i64 c1, .int .i64 c2, .int .i64 c3, .int .i64 c4, .int .i64 c5, .int .i64 c6, .int .i64 c7, .int .i64 c8]] w fun v _ => ∃ b, v = .bool b ∧ (b = true → (inQ c5 ∧ inQ c6 ∧ inQ c7 ∧ inQ c8) ∧ c4 ≤ 4096) := by
  intro R h
  refine f29_calls c0 c1 c2 c3 c4 c5 c6 c7 c8 w R ?_
  unfold f29_vc
  refine opw_boxS (At.refl w) fun p w2 hp hA _ hb2 hpb => ⟨_, rfl, ?_⟩
  have hel : ∀ {W'}, Bel w2 W' → Elt W' ⟨p, 0, none⟩ [.int .i64 c0, .int .i64 c1, .int .i64 c2, .int .i64 c3, .int .i64 c4, .int .i64 c5, .int .i64 c6, .int .i64 c7, .int .i64 c8] := fun {W'} hb => elt_cells (ty := 24) (by rw [hb.block (Array.getElem?_eq_some_iff.1 hpb).1, hpb]; rfl)
  have no : ∀ {gs w'}, At w gs w' → R (.returned (.bool false)) w' := fun hA => h _ _ hA.below ⟨false, rfl, fun e => by cases e⟩
  refine ⟨fun v W' => At w [] W' ∧ Bel w2 W' ∧ ∃ k : Nat, v.1 = k ∧ k ≤ 4 ∧ ∀ j x, j < k → [c5, c6, c7, c8][j]? = some x → inQ x, fun v _ => ((4 : Int) - v.1).toNat, ⟨hA, (At.refl w2).below, 0, rfl, Nat.zero_le _, fun j x hj => by omega⟩, ?_⟩
  rintro x6 w7 ⟨hA, hb, k, hk, hk4, hall⟩
  simp only at hk
  subst hk
  refine brD (fun hlt => ?_) (fun _ => ?_)
  · have hk3 : k < 4 := by omega
    obtain ⟨x, hx⟩ : ∃ x, [c5, c6, c7, c8][k]? = some x := ⟨_, List.getElem?_eq_getElem (by simpa using hk3)⟩
    have hcell := ((hel hb).sub (o := 5) (by decide)) k (.int .i64 x) (by
      have : k = 0 ∨ k = 1 ∨ k = 2 ∨ k = 3 := by omega
      rcases this with rfl | rfl | rfl | rfl <;> (simp at hx; subst hx; rfl))
    refine ⟨Addr.add ⟨p, 0 + 5, none⟩ (k * 1), gives_index_arr (e := 2) (by kernel_rfl) (by kernel_rfl) hk3, x, reads_one (by kernel_rfl) (fun d hd => by cases hd) (by rw [Nat.mul_one]; exact hcell), ?_⟩
    refine at_callb hA (c66 x 0 9007199254740992 w7) fun w11 hA _ hb11 => ⟨_, rfl, brNB (fun _ => no hA) (fun hin => ?_)⟩
    rw [succ_i k (by omega)]
    refine ⟨⟨hA, hb.trans hb11, k + 1, rfl, by omega, fun j y hj hy => ?_⟩, by simp only; omega⟩
    by_cases hjk : j = k
    · subst hjk
      rw [hx] at hy
      cases hy
      exact of_decide_eq_true hin
    · exact hall j y (by omega) hy
  · have hk4' : k = 4 := by omega
    subst hk4'
    have good : inQ c5 ∧ inQ c6 ∧ inQ c7 ∧ inQ c8 := ⟨hall 0 _ (by decide) rfl, hall 1 _ (by decide) rfl, hall 2 _ (by decide) rfl, hall 3 _ (by decide) rfl⟩
    have fin : ∀ {w'}, At w [] w' → R (.returned (.bool false)) w' := no
    refine ⟨_, (hel hb).one (by kernel_rfl) (by simp), ?_⟩
    refine at_callb hA (c66 _ _ _ w7) fun w15 hA _ hb15 => ⟨_, rfl, brB (fun _ => ?_) (fun _ => fin hA)⟩
    have hb := hb.trans hb15
    refine ⟨_, ((hel hb).sub (o := 1) (by decide)).one (by kernel_rfl) (by simp), ?_⟩
    refine at_callb hA (c66 _ _ _ w15) fun w19 hA _ hb19 => ⟨_, rfl, brB (fun _ => ?_) (fun _ => fin hA)⟩
    have hb := hb.trans hb19
    refine ⟨_, ((hel hb).sub (o := 2) (by decide)).one (by kernel_rfl) (by simp), ?_⟩
    refine at_callb hA (c66 _ _ _ w19) fun w23 hA _ hb23 => ⟨_, rfl, brB (fun _ => ?_) (fun _ => fin hA)⟩
    have hb := hb.trans hb23
    refine ⟨_, ((hel hb).sub (o := 3) (by decide)).one (by kernel_rfl) (by simp), ?_⟩
    refine at_callb hA (c66 _ _ _ w23) fun w27 hA _ hb27 => ⟨_, rfl, brB (fun _ => ?_) (fun _ => fin hA)⟩
    have hb := hb.trans hb27
    exact ⟨_, ((hel hb).sub (o := 4) (by decide)).one (by kernel_rfl) (by simp), brD (fun _ => ⟨_, ((hel hb).sub (o := 4) (by decide)).one (by kernel_rfl) (by simp), h _ _ hA.below ⟨_, rfl, fun e => ⟨good, of_decide_eq_true e⟩⟩⟩) (fun _ => fin hA)⟩
end Go.Vc.W

/- Rule. -/
set_option maxRecDepth 20000
set_option maxHeartbeats 1000000
namespace Go.Vc.W
open Go Go.Vc Go.Vc.V Go.RowKit Go.Proofs Vcw

variable {w W W' : World} {M : Nat → Prop} {gs : List Nat}

def minQ (b : BkA) : Prop := inQ b.c5 ∧ inQ b.c6 ∧ inQ b.c7 ∧ inQ b.c8
abbrev boolE (x : Bool) : List Value := [.bool x]
theorem c7 {b : BkA} {d : BkD} (w : World) (hb : Bk w b d) : RetQ Try.prog 7 #[b.v] w fun v _ => ∃ n, v = .int .i64 n ∧ (n = 0 → minQ b ∧ d.frs.length ≤ 4096 ∧ ∀ f ∈ d.frs, 1 ≤ f.1) := by
  intro R h
  refine f7_calls _ _ _ _ _ _ _ _ _ _ _ _ _ _ _ _ _ _ _ _ _ _ _ _ _ _ w R ?_
  unfold f7_vc
  have out : ∀ (n : Int) {gs w'}, At w gs w' → n ≠ 0 → R (.returned (.int .i64 n)) w' := fun n _ w' hA hn => h _ _ hA.below ⟨n, rfl, fun e => absurd e hn⟩
  intro n1 hn1 w2 hb2 hun2
  have hA : At w [n1] w2 := ⟨((At.refl w).call hb2).chg, hun2⟩
  refine at_callq hA (c29 _ _ _ _ _ _ _ _ _ w2) fun v w4 hA hk _ ⟨x, e, hgood⟩ => ?_
  subst e
  refine ⟨_, rfl, hk, brNB (fun _ => out _ hA (by decide)) (fun hx => brD (fun _ => out _ hA (by decide)) (fun _ => brD (fun _ => out _ hA (by decide)) (fun _ => brD (fun _ => out _ hA (by decide)) (fun _ => brD (fun _ => out _ hA (by decide)) (fun _ => ?_)))))⟩
  obtain ⟨hm, hcap⟩ : minQ b ∧ b.c4 ≤ 4096 := hgood hx
  intro w6 hb6 hun6
  have hA : At w [n1] w6 := ⟨(hA.call hb6).chg, hun6⟩
  refine at_callq hA (c30 w6 (hb.call hA.below)) fun v w8 hA hk _ ⟨x9, e, hfr⟩ => ?_
  subst e
  refine ⟨_, rfl, hk, ?_⟩
  refine at_callq hA (c31 w8 (hb.call hA.below)) fun v w11 hA hk _ ⟨x12, e⟩ => ?_
  subst e
  refine ⟨_, rfl, hk, brB (fun _ => ?_) (fun _ => ?_)⟩
  · refine at_callq hA (c30 w11 (hb.call hA.below)) fun v w14 hA hk _ ⟨x15, e, _⟩ => ?_
    subst e
    refine ⟨_, rfl, hk, ?_⟩
    refine opw_litL (e' := 4) (f := boolE) (size := 1) (l := [x9, x15]) hA rfl (fun _ _ => rfl) (by decide) (by kernel_rfl) fun g w17 _ hA hk _ ho => ⟨_, _, _, rfl, hk, ?_⟩
    have hs := ho.sl fun _ _ => rfl
    refine ⟨fun v W' => At w [n1] W' ∧ Bel w17 W' ∧ v.1 = 0, ⟨hA, (At.refl w17).below, rfl⟩, ?_⟩
    rintro x22 w23 ⟨hA, hbb, hx0⟩
    simp only at hx0
    subst hx0
    refine ⟨fun v W' => At w [n1] W' ∧ Bel w17 W' ∧ ∃ k : Nat, v.1 = k ∧ k ≤ 2 ∧ (0 < k → x9 = true), fun v _ => ((2 : Int) - v.1).toNat, ⟨hA, hbb, 0, rfl, by decide, fun hh => absurd hh (by decide)⟩, ?_⟩
    rintro x26 w27 ⟨hA, hbb, k, hk', hk2, hk9⟩
    simp only at hk'
    subst hk'
    refine brD (fun hlt => ?_) (fun _ => ?_)
    · obtain ⟨y, hy⟩ : ∃ y, [x9, x15][k]? = some y := ⟨_, List.getElem?_eq_getElem (by simp; omega)⟩
      obtain ⟨ad, g1, r1⟩ := rd_one (P := Try.prog) (k := .i64) (t := 64) (te := 4) (e := 4) (ds := []) (hs.call hbb) hy rfl (by kernel_rfl) (by kernel_rfl) (by kernel_rfl) (fun _ h => by cases h)
      rw [succ_i k (by omega), wrap_i64 (x := (k : Int) + 2) (by omega) (by omega)]
      exact ⟨ad, g1, _, r1, brNB (fun _ => out _ hA (by omega)) (fun hy1 => ⟨⟨hA, hbb, k + 1, rfl, by omega, fun _ => by
        rcases Nat.eq_zero_or_pos k with h0 | h0
        · subst h0
          simp at hy
          rw [hy, hy1]
        · exact hk9 h0⟩, by simp only; omega⟩)⟩
    · refine at_callq hA (c32 w27 (hb.call hA.below)) fun v w31 hA hk _ ⟨_, e⟩ => ?_
      subst e
      refine ⟨_, rfl, hk, brNB (fun _ => out _ hA (by decide)) (fun _ => ?_)⟩
      refine at_callq hA (c33 w31 (hb.call hA.below)) fun v w34 hA hk _ ⟨_, e⟩ => ?_
      subst e
      refine ⟨_, rfl, hk, brNB (fun _ => out _ hA (by decide)) (fun _ => ?_)⟩
      refine at_callq hA (c34 w34 (hb.call hA.below)) fun v w37 hA hk _ ⟨_, e⟩ => ?_
      subst e
      refine ⟨_, rfl, hk, brNB (fun _ => out _ hA (by decide)) (fun _ => ?_)⟩
      refine at_callq hA (c35 w37 (hb.call hA.below)) fun v w40 hA hk _ ⟨_, e⟩ => ?_
      subst e
      refine ⟨_, rfl, hk, brNB (fun _ => out _ hA (by decide)) (fun _ => ?_)⟩
      refine at_callq hA (c36 w40 (hb.call hA.below)) fun v w43 hA hk _ ⟨_, e⟩ => ?_
      subst e
      exact ⟨_, rfl, hk, brNB (fun _ => out _ hA (by decide)) (fun _ => h _ _ hA.below ⟨0, rfl, fun _ => ⟨hm, by have := (hfr (hk9 (by omega))).1; omega, (hfr (hk9 (by omega))).2⟩⟩)⟩
  · refine opw_litL (e' := 4) (f := boolE) (size := 1) (l := [x9, false]) hA rfl (fun _ _ => rfl) (by decide) (by kernel_rfl) fun g w17 _ hA hk _ ho => ⟨_, _, _, rfl, hk, ?_⟩
    have hs := ho.sl fun _ _ => rfl
    refine ⟨fun v W' => At w [n1] W' ∧ Bel w17 W' ∧ v.1 = 0, ⟨hA, (At.refl w17).below, rfl⟩, ?_⟩
    rintro x22 w23 ⟨hA, hbb, hx0⟩
    simp only at hx0
    subst hx0
    refine ⟨fun v W' => At w [n1] W' ∧ Bel w17 W' ∧ ∃ k : Nat, v.1 = k ∧ k ≤ 2 ∧ (0 < k → x9 = true), fun v _ => ((2 : Int) - v.1).toNat, ⟨hA, hbb, 0, rfl, by decide, fun hh => absurd hh (by decide)⟩, ?_⟩
    rintro x26 w27 ⟨hA, hbb, k, hk', hk2, hk9⟩
    simp only at hk'
    subst hk'
    refine brD (fun hlt => ?_) (fun _ => ?_)
    · obtain ⟨y, hy⟩ : ∃ y, [x9, false][k]? = some y := ⟨_, List.getElem?_eq_getElem (by simp; omega)⟩
      obtain ⟨ad, g1, r1⟩ := rd_one (P := Try.prog) (k := .i64) (t := 64) (te := 4) (e := 4) (ds := []) (hs.call hbb) hy rfl (by kernel_rfl) (by kernel_rfl) (by kernel_rfl) (fun _ h => by cases h)
      rw [succ_i k (by omega), wrap_i64 (x := (k : Int) + 2) (by omega) (by omega)]
      exact ⟨ad, g1, _, r1, brNB (fun _ => out _ hA (by omega)) (fun hy1 => ⟨⟨hA, hbb, k + 1, rfl, by omega, fun _ => by
        rcases Nat.eq_zero_or_pos k with h0 | h0
        · subst h0
          simp at hy
          rw [hy, hy1]
        · exact hk9 h0⟩, by simp only; omega⟩)⟩
    · refine at_callq hA (c32 w27 (hb.call hA.below)) fun v w31 hA hk _ ⟨_, e⟩ => ?_
      subst e
      refine ⟨_, rfl, hk, brNB (fun _ => out _ hA (by decide)) (fun _ => ?_)⟩
      refine at_callq hA (c33 w31 (hb.call hA.below)) fun v w34 hA hk _ ⟨_, e⟩ => ?_
      subst e
      refine ⟨_, rfl, hk, brNB (fun _ => out _ hA (by decide)) (fun _ => ?_)⟩
      refine at_callq hA (c34 w34 (hb.call hA.below)) fun v w37 hA hk _ ⟨_, e⟩ => ?_
      subst e
      refine ⟨_, rfl, hk, brNB (fun _ => out _ hA (by decide)) (fun _ => ?_)⟩
      refine at_callq hA (c35 w37 (hb.call hA.below)) fun v w40 hA hk _ ⟨_, e⟩ => ?_
      subst e
      refine ⟨_, rfl, hk, brNB (fun _ => out _ hA (by decide)) (fun _ => ?_)⟩
      refine at_callq hA (c36 w40 (hb.call hA.below)) fun v w43 hA hk _ ⟨_, e⟩ => ?_
      subst e
      exact ⟨_, rfl, hk, brNB (fun _ => out _ hA (by decide)) (fun _ => h _ _ hA.below ⟨0, rfl, fun _ => ⟨hm, by have := (hfr (hk9 (by omega))).1; omega, (hfr (hk9 (by omega))).2⟩⟩)⟩
end Go.Vc.W

