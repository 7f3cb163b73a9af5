/- Own texts of this claim, laid together: FA2, Jq5, Jq6, Jq7, QArg, FA3, Jr1, FA4, Jr2. -/
import Derived.Test.YthfagnpgiciphaaMg7d9b2195
import Derived.Test.YthfagnpgiciphaaProg

/- The formulas of functions, printed by a program (VcTool.lean): each is what the generator's formula comes to, by the kernel's reckoning; whoever proves one has the function's contract. -/
set_option maxRecDepth 100000
set_option maxHeartbeats 1000000
set_option linter.unusedVariables false
namespace Vct
open Go Go.Vc Go.RowKit
/-! manciple/manciplelaw22.works -/
def h47 : Hints := ⟨[], [], [35, 39, 43, 47, 51, 57, 63, 69], [], [], [], [], [], []⟩
def f47_vc  (w : World) (R : Ending → World → Prop) : Prop :=
 Calls Proofs.Try.prog 39 #[Value.int IntKind.i64 2, Value.int IntKind.i64 9] w fun (e1 : Ending) (w2 : World) =>
 ∃ (a3 : Option Addr),
 e1 = Ending.returned (Value.pointer a3) ∧
 OpW Proofs.Try.prog (valueS (Instr.buildSlice 23 1 #[(0, Value.agg #[Value.int IntKind.i64 0, Value.int IntKind.i64 0, Value.int IntKind.i64 4])])) w2 fun (v4 : Value) (w5 : World) =>
 ∃ (a6 : Option Addr),
 ∃ (n7 : Nat),
 ∃ (n8 : Nat),
 v4 = Value.slice a6 n7 n8 ∧
 OpW Proofs.Try.prog (valueS (Instr.buildSlice 23 1 #[(0, Value.agg #[Value.int IntKind.i64 0, Value.int IntKind.i64 0, Value.int IntKind.i64 3])])) w5 fun (v9 : Value) (w10 : World) =>
 ∃ (a11 : Option Addr),
 ∃ (n12 : Nat),
 ∃ (n13 : Nat),
 v9 = Value.slice a11 n12 n13 ∧
 Calls Proofs.Try.prog 44 #[Value.pointer a3, Value.int IntKind.i64 1, Value.slice a6 n7 n8] w10 fun (e14 : Ending) (w15 : World) =>
 ∃ (b16 : Bool),
 ∃ (x17 : Int),
 e14 = Ending.returned (Value.tuple #[Value.bool b16, Value.int IntKind.i64 x17]) ∧
 Calls Proofs.Try.prog 44 #[Value.pointer a3, Value.int IntKind.i64 1, Value.slice a6 n7 n8] w15 fun (e18 : Ending) (w19 : World) =>
 ∃ (b20 : Bool),
 ∃ (x21 : Int),
 e18 = Ending.returned (Value.tuple #[Value.bool b20, Value.int IntKind.i64 x21]) ∧
 OpW Proofs.Try.prog (valueS (Instr.buildSlice 23 1 #[(0, Value.agg #[Value.int IntKind.i64 0, Value.int IntKind.i64 0, Value.int IntKind.i64 6])])) w19 fun (v22 : Value) (w23 : World) =>
 ∃ (a24 : Option Addr),
 ∃ (n25 : Nat),
 ∃ (n26 : Nat),
 v22 = Value.slice a24 n25 n26 ∧
 Calls Proofs.Try.prog 44 #[Value.pointer a3, Value.int IntKind.i64 2, Value.slice a24 n25 n26] w23 fun (e27 : Ending) (w28 : World) =>
 ∃ (b29 : Bool),
 ∃ (x30 : Int),
 e27 = Ending.returned (Value.tuple #[Value.bool b29, Value.int IntKind.i64 x30]) ∧
 (b16 = true →
 ((x17 == 0) = true →
 ((!b20) = true →
 ((x21 == 0) = true →
 ((x30 == 31) = true →
 Calls Proofs.Try.prog 45 #[Value.pointer a3, Value.int IntKind.i64 1, Value.slice a11 n12 n13] w28 fun (e31 : Ending) (w32 : World) =>
 ∃ (x33 : Int),
 e31 = Ending.returned (Value.int IntKind.i64 x33) ∧
 ((x33 == 0) = true →
 Calls Proofs.Try.prog 51 #[Value.pointer a3, Value.int IntKind.i64 1, Value.slice a6 n7 n8] w32 fun (e34 : Ending) (w35 : World) =>
 ∃ (x36 : Int),
 e34 = Ending.returned (Value.int IntKind.i64 x36) ∧
 ((x36 == 31) = true →
 Calls Proofs.Try.prog 40 #[Value.pointer a3] w35 fun (e37 : Ending) (w38 : World) =>
 ∃ (x39 : Int),
 ∃ (x40 : Int),
 ∃ (x41 : Int),
 ∃ (x42 : Int),
 e37 =
 Ending.returned
 (Value.agg #[Value.int IntKind.i64 x39, Value.int IntKind.i64 x40, Value.int IntKind.i64 x41, Value.int IntKind.i64 x42]) ∧
 ((x39 == 4 && (x40 == 0 && (x41 == 0 && (x42 == 0 && true)))) = true →
 Calls Proofs.Try.prog 48 #[Value.pointer a3] w38 fun (e43 : Ending) (w44 : World) =>
 ∃ (x45 : Int),
 ∃ (x46 : Int),
 ∃ (x47 : Int),
 ∃ (x48 : Int),
 e43 =
 Ending.returned
 (Value.agg
 #[Value.int IntKind.i64 x45, Value.int IntKind.i64 x46, Value.int IntKind.i64 x47,
 Value.int IntKind.i64 x48]) ∧
 R (Ending.returned (Value.bool (x45 == 1 && (x46 == 0 && (x47 == 0 && (x48 == 0 && true)))))) w44) ∧
 ((x39 == 4 && (x40 == 0 && (x41 == 0 && (x42 == 0 && true)))) = false → R (Ending.returned (Value.bool false)) w38)) ∧
 ((x36 == 31) = false → R (Ending.returned (Value.bool false)) w35)) ∧
 ((x33 == 0) = false → R (Ending.returned (Value.bool false)) w32)) ∧
 ((x30 == 31) = false → R (Ending.returned (Value.bool false)) w28)) ∧
 ((x21 == 0) = false → R (Ending.returned (Value.bool false)) w28)) ∧
 ((!b20) = false → R (Ending.returned (Value.bool false)) w28)) ∧
 ((x17 == 0) = false → R (Ending.returned (Value.bool false)) w28)) ∧
 (b16 = false → R (Ending.returned (Value.bool false)) w28)
theorem f47_eq  (w : World) (R : Ending → World → Prop) : (fnF Go.Proofs.Try.prog h47 Go.Proofs.Try.f47 [] w R).den = f47_vc  w R := by kernel_rfl
theorem f47_calls  (w : World) (R : Ending → World → Prop) (h : f47_vc  w R) : Calls Go.Proofs.Try.prog 47 (List.toArray []) w R :=
 fn_sound (H := h47) (fn := Go.Proofs.Try.f47) (by kernel_rfl) (by kernel_rfl) (by kernel_rfl) ((f47_eq  w R).mpr h)


/-! (manciple/mancipleref22.M).Do -/
def h53 : Hints := ⟨[2, 3, 4, 8, 10], [53, 67], [19, 32, 42, 47, 62, 109, 120, 124, 142, 102, 136, 81, 87, 96], [(10, [0, 1, 2, 3, 4, 5, 6, 7, 8, 9, 10]), (17, [0, 1, 2, 3, 4, 5, 6, 7, 8, 9, 10, 12, 13, 11, 14, 15, 16, 17, 18, 19, 20, 21, 22, 23])], [], [(7, ⟨[(9, .int .i64)], [(8, .cons (.int .i64) (.cons (.int .i64) (.cons (.sl) (.nil))))]⟩)], [], [], []⟩
def f53_vc (m_0 : Int) (m_1 : Int) (m_2a : Option Addr) (m_2n : Nat) (m_2c : Nat) (a_0 : Int) (a_1 : Int) (a_2a : Option Addr) (a_2n : Nat) (a_2c : Nat) (a_3a : Option Addr) (a_3n : Nat) (a_3c : Nat) (w : World) (R : Ending → World → Prop) : Prop :=
 ∀ (n1 : Nat),
 w.heap.size ≤ n1 →
 ∀ (n2 : Nat),
 w.heap.size ≤ n2 →
 ∀ (n3 : Nat),
 w.heap.size ≤ n3 →
 ((a_0 == 0) = true →
 ∀ (w4 : World),
 Bel w w4 →
 Under [n1, n2, n3] w4 →
 Calls Proofs.Try.prog 103
 #[Value.agg #[Value.int IntKind.i64 m_0, Value.int IntKind.i64 m_1, Value.slice m_2a m_2n m_2c],
 Value.agg #[Value.int IntKind.i64 a_0, Value.int IntKind.i64 a_1, Value.slice a_2a a_2n a_2c, Value.slice a_3a a_3n a_3c]]
 w4 fun (e5 : Ending) (w6 : World) =>
 ∃ (x7 : Int),
 ∃ (x8 : Int),
 ∃ (a9 : Option Addr),
 ∃ (n10 : Nat),
 ∃ (n11 : Nat),
 ∃ (b12 : Bool),
 ∃ (x13 : Int),
 e5 = Ending.returned (Value.tuple #[Value.agg #[Value.int IntKind.i64 x7, Value.int IntKind.i64 x8, Value.slice a9 n10 n11], Value.bool b12, Value.int IntKind.i64 x13]) ∧
 Keeps [n1, n2, n3] w4 w6 ∧
 ∀ (w14 : World),
 Evo [n3] w6 w14 →
 Under [n1, n2, n3] w14 →
 R (Ending.returned (Value.tuple #[Value.agg #[Value.int IntKind.i64 x7, Value.int IntKind.i64 x8, Value.slice a9 n10 n11], Value.bool b12, Value.int IntKind.i64 x13])) w14) ∧
 ((a_0 == 0) = false →
 ∀ (w15 : World),
 Bel w w15 →
 Under [n1, n2, n3] w15 →
 Calls Proofs.Try.prog 55 #[Value.agg #[Value.int IntKind.i64 m_0, Value.int IntKind.i64 m_1, Value.slice m_2a m_2n m_2c], Value.int IntKind.i64 a_1] w15 fun (e16 : Ending) (w17 : World) =>
 ∃ (x18 : Int),
 e16 = Ending.returned (Value.int IntKind.i64 x18) ∧
 Keeps [n1, n2, n3] w15 w17 ∧
 ((a_0 == 1) = true →
 ∀ (n19 : Nat),
 w17.heap.size ≤ n19 →
 ∃ (J20 : Int × Int × Int × (Option Addr × Nat × Nat) × Unit → World → Prop),
 ∃ (J21 : Int × Int × Int × (Option Addr × Nat × Nat) × Unit → World → Nat),
 (∀ (w22 : World), Evo [n19] w17 w22 → Under [n1, n2, n3, n19] w22 → J20 (0, m_0, m_1, (none, 0, 0), ()) w22) ∧
 ∀ (x23 x24 x25 : Int) (a26 : Option Addr) (n27 n28 : Nat) (w29 : World),
 J20 (x23, x24, x25, (a26, n27, n28), ()) w29 →
 (decide (x23 < (↑m_2n : Int)) = true →
 ((x23 != x18) = true →
 ∃ (ad30 : Addr),
 Gives Proofs.Try.prog (Instr.indexAt 81 (Value.slice m_2a m_2n m_2c) (Value.int IntKind.i64 x23)) (Value.pointer (some ad30)) ∧
 ∃ (x31 : Int),
 ∃ (a32 : Option Addr),
 ∃ (n33 : Nat),
 ∃ (n34 : Nat),
 ∃ (a35 : Option Addr),
 ∃ (n36 : Nat),
 ∃ (n37 : Nat),
 Reads Proofs.Try.prog [] (Instr.loadAt 89 (Value.pointer (some ad30))) w29
 (Value.agg #[Value.int IntKind.i64 x31, Value.slice a32 n33 n34, Value.slice a35 n36 n37]) ∧
 ∀ (w38 : World),
 Bel w29 w38 →
 Under [n1, n2, n3, n19] w38 →
 OpW Proofs.Try.prog (valueS (Instr.buildSlice 81 1 #[(0, Value.agg #[Value.int IntKind.i64 x31, Value.slice a32 n33 n34, Value.slice a35 n36 n37])])) w38
 fun (v39 : Value) (w40 : World) =>
 ∃ (a41 : Option Addr),
 ∃ (n42 : Nat),
 ∃ (n43 : Nat),
 v39 = Value.slice a41 n42 n43 ∧
 Keeps [n1, n2, n3, n19] w38 w40 ∧
 OpW Proofs.Try.prog (builtin Builtin.append #[81, 81] 81 #[false, false] #[Value.slice a26 n27 n28, Value.slice a41 n42 n43]) w40
 fun (v44 : Value) (w45 : World) =>
 ∃ (a46 : Option Addr),
 ∃ (n47 : Nat),
 ∃ (n48 : Nat),
 v44 = Value.slice a46 n47 n48 ∧
 Keeps [n1, n2, n3, n19] w40 w45 ∧
 ∀ (w49 : World),
 Evo [n19] w45 w49 →
 Under [n1, n2, n3, n19] w49 →
 J20 (IntKind.i64.wrap (x23 + 1), x24, x25, (a46, n47, n48), ()) w49 ∧
 J21 (IntKind.i64.wrap (x23 + 1), x24, x25, (a46, n47, n48), ()) w49 < J21 (x23, x24, x25, (a26, n27, n28), ()) w29) ∧
 ((x23 != x18) = false →
 J20 (IntKind.i64.wrap (x23 + 1), x24, x25, (a26, n27, n28), ()) w29 ∧
 J21 (IntKind.i64.wrap (x23 + 1), x24, x25, (a26, n27, n28), ()) w29 < J21 (x23, x24, x25, (a26, n27, n28), ()) w29)) ∧
 (decide (x23 < (↑m_2n : Int)) = false →
 ∀ (w50 : World),
 Evo [n3] w29 w50 →
 Under [n1, n2, n3, n19] w50 →
 R
 (Ending.returned
 (Value.tuple #[Value.agg #[Value.int IntKind.i64 x24, Value.int IntKind.i64 x25, Value.slice a26 n27 n28], Value.bool (decide (x18 ≥ 0)), Value.int IntKind.i64 0]))
 w50)) ∧
 ((a_0 == 1) = false →
 (decide (x18 < 0) = true →
 ∀ (w51 : World),
 Evo [n3] w17 w51 →
 Under [n1, n2, n3] w51 →
 R (Ending.returned (Value.tuple #[Value.agg #[Value.int IntKind.i64 m_0, Value.int IntKind.i64 m_1, Value.slice m_2a m_2n m_2c], Value.bool false, Value.int IntKind.i64 43])) w51) ∧
 (decide (x18 < 0) = false →
 ∃ (ad52 : Addr),
 Gives Proofs.Try.prog (Instr.indexAt 81 (Value.slice m_2a m_2n m_2c) (Value.int IntKind.i64 x18)) (Value.pointer (some ad52)) ∧
 ∃ (x53 : Int),
 ∃ (a54 : Option Addr),
 ∃ (n55 : Nat),
 ∃ (n56 : Nat),
 ∃ (a57 : Option Addr),
 ∃ (n58 : Nat),
 ∃ (n59 : Nat),
 Reads Proofs.Try.prog [] (Instr.loadAt 89 (Value.pointer (some ad52))) w17 (Value.agg #[Value.int IntKind.i64 x53, Value.slice a54 n55 n56, Value.slice a57 n58 n59]) ∧
 ∀ (n60 : Nat),
 w17.heap.size ≤ n60 →
 ((a_0 == 2) = true →
 ∀ (w61 : World),
 Evo [n60] w17 w61 →
 Under [n1, n2, n3, n60] w61 →
 Calls Proofs.Try.prog 104 #[Value.slice a57 n58 n59, Value.slice a_2a a_2n a_2c] w61 fun (e62 : Ending) (w63 : World) =>
 ∃ (a64 : Option Addr),
 ∃ (n65 : Nat),
 ∃ (n66 : Nat),
 ∃ (b67 : Bool),
 e62 = Ending.returned (Value.tuple #[Value.slice a64 n65 n66, Value.bool b67]) ∧
 Keeps [n1, n2, n3, n60] w61 w63 ∧
 ((!b67) = true →
 ∀ (w68 : World),
 Evo [n3] w63 w68 →
 Under [n1, n2, n3, n60] w68 →
 R
 (Ending.returned
 (Value.tuple
 #[Value.agg #[Value.int IntKind.i64 m_0, Value.int IntKind.i64 m_1, Value.slice m_2a m_2n m_2c], Value.bool false,
 Value.int IntKind.i64 30]))
 w68) ∧
 ((!b67) = false →
 ∀ (w69 : World),
 Evo [n60] w63 w69 →
 Under [n1, n2, n3, n60] w69 →
 Calls Proofs.Try.prog 107
 #[Value.agg #[Value.int IntKind.i64 m_0, Value.int IntKind.i64 m_1, Value.slice m_2a m_2n m_2c],
 Value.agg #[Value.int IntKind.i64 x53, Value.slice a54 n55 n56, Value.slice a64 n65 n66]]
 w69 fun (e70 : Ending) (w71 : World) =>
 ∃ (x72 : Int),
 ∃ (x73 : Int),
 ∃ (a74 : Option Addr),
 ∃ (n75 : Nat),
 ∃ (n76 : Nat),
 e70 = Ending.returned (Value.agg #[Value.int IntKind.i64 x72, Value.int IntKind.i64 x73, Value.slice a74 n75 n76]) ∧
 Keeps [n1, n2, n3, n60] w69 w71 ∧
 ∀ (w77 : World),
 Evo [n3] w71 w77 →
 Under [n1, n2, n3, n60] w77 →
 R
 (Ending.returned
 (Value.tuple
 #[Value.agg #[Value.int IntKind.i64 x72, Value.int IntKind.i64 x73, Value.slice a74 n75 n76], Value.bool false,
 Value.int IntKind.i64 0]))
 w77)) ∧
 ((a_0 == 2) = false →
 ((a_0 == 3) = true →
 ∀ (w78 : World),
 Evo [n60] w17 w78 →
 Under [n1, n2, n3, n60] w78 →
 Calls Proofs.Try.prog 105 #[Value.slice a57 n58 n59, Value.slice a_2a a_2n a_2c] w78 fun (e79 : Ending) (w80 : World) =>
 ∃ (a81 : Option Addr),
 ∃ (n82 : Nat),
 ∃ (n83 : Nat),
 ∃ (b84 : Bool),
 e79 = Ending.returned (Value.tuple #[Value.slice a81 n82 n83, Value.bool b84]) ∧
 Keeps [n1, n2, n3, n60] w78 w80 ∧
 ((!b84) = true →
 ∀ (w85 : World),
 Evo [n3] w80 w85 →
 Under [n1, n2, n3, n60] w85 →
 R
 (Ending.returned
 (Value.tuple
 #[Value.agg #[Value.int IntKind.i64 m_0, Value.int IntKind.i64 m_1, Value.slice m_2a m_2n m_2c], Value.bool false,
 Value.int IntKind.i64 31]))
 w85) ∧
 ((!b84) = false →
 Calls Proofs.Try.prog 106 #[Value.slice a54 n55 n56, Value.slice a81 n82 n83] w80 fun (e86 : Ending) (w87 : World) =>
 ∃ (b88 : Bool),
 e86 = Ending.returned (Value.bool b88) ∧
 Keeps [n1, n2, n3, n60] w80 w87 ∧
 ((!b88) = true →
 ∀ (w89 : World),
 Evo [n3] w87 w89 →
 Under [n1, n2, n3, n60] w89 →
 R
 (Ending.returned
 (Value.tuple
 #[Value.agg #[Value.int IntKind.i64 m_0, Value.int IntKind.i64 m_1, Value.slice m_2a m_2n m_2c], Value.bool false,
 Value.int IntKind.i64 31]))
 w89) ∧
 ((!b88) = false →
 ∀ (w90 : World),
 Evo [n60] w87 w90 →
 Under [n1, n2, n3, n60] w90 →
 Calls Proofs.Try.prog 107
 #[Value.agg #[Value.int IntKind.i64 m_0, Value.int IntKind.i64 m_1, Value.slice m_2a m_2n m_2c],
 Value.agg #[Value.int IntKind.i64 x53, Value.slice a54 n55 n56, Value.slice a81 n82 n83]]
 w90 fun (e91 : Ending) (w92 : World) =>
 ∃ (x93 : Int),
 ∃ (x94 : Int),
 ∃ (a95 : Option Addr),
 ∃ (n96 : Nat),
 ∃ (n97 : Nat),
 e91 = Ending.returned (Value.agg #[Value.int IntKind.i64 x93, Value.int IntKind.i64 x94, Value.slice a95 n96 n97]) ∧
 Keeps [n1, n2, n3, n60] w90 w92 ∧
 ∀ (w98 : World),
 Evo [n3] w92 w98 →
 Under [n1, n2, n3, n60] w98 →
 R
 (Ending.returned
 (Value.tuple
 #[Value.agg #[Value.int IntKind.i64 x93, Value.int IntKind.i64 x94, Value.slice a95 n96 n97],
 Value.bool false, Value.int IntKind.i64 0]))
 w98))) ∧
 ((a_0 == 3) = false →
 ∀ (w99 : World),
 Evo [n60] w17 w99 →
 Under [n1, n2, n3, n60] w99 →
 Calls Proofs.Try.prog 105 #[Value.slice a57 n58 n59, Value.slice a_3a a_3n a_3c] w99 fun (e100 : Ending) (w101 : World) =>
 ∃ (a102 : Option Addr),
 ∃ (n103 : Nat),
 ∃ (n104 : Nat),
 ∃ (b105 : Bool),
 e100 = Ending.returned (Value.tuple #[Value.slice a102 n103 n104, Value.bool b105]) ∧
 Keeps [n1, n2, n3, n60] w99 w101 ∧
 ((!b105) = true →
 ∀ (w106 : World),
 Evo [n3] w101 w106 →
 Under [n1, n2, n3, n60] w106 →
 R
 (Ending.returned
 (Value.tuple
 #[Value.agg #[Value.int IntKind.i64 m_0, Value.int IntKind.i64 m_1, Value.slice m_2a m_2n m_2c], Value.bool false,
 Value.int IntKind.i64 41]))
 w106) ∧
 ((!b105) = false →
 ∀ (w107 : World),
 Bel w101 w107 →
 Under [n1, n2, n3, n60] w107 →
 Calls Proofs.Try.prog 83 #[Value.slice a_2a a_2n a_2c] w107 fun (e108 : Ending) (w109 : World) =>
 ∃ (b110 : Bool),
 e108 = Ending.returned (Value.bool b110) ∧
 Keeps [n1, n2, n3, n60] w107 w109 ∧
 ((!b110) = true →
 ∀ (w111 : World),
 Evo [n3] w109 w111 →
 Under [n1, n2, n3, n60] w111 →
 R
 (Ending.returned
 (Value.tuple
 #[Value.agg #[Value.int IntKind.i64 m_0, Value.int IntKind.i64 m_1, Value.slice m_2a m_2n m_2c], Value.bool false,
 Value.int IntKind.i64 41]))
 w111) ∧
 ((!b110) = false →
 Calls Proofs.Try.prog 89 #[Value.slice a_2a a_2n a_2c] w109 fun (e112 : Ending) (w113 : World) =>
 ∃ (x114 : Int),
 ∃ (x115 : Int),
 ∃ (x116 : Int),
 ∃ (x117 : Int),
 e112 =
 Ending.returned
 (Value.agg
 #[Value.int IntKind.i64 x114, Value.int IntKind.i64 x115, Value.int IntKind.i64 x116,
 Value.int IntKind.i64 x117]) ∧
 Keeps [n1, n2, n3, n60] w109 w113 ∧
 Calls Proofs.Try.prog 89 #[Value.slice a54 n55 n56] w113 fun (e118 : Ending) (w119 : World) =>
 ∃ (x120 : Int),
 ∃ (x121 : Int),
 ∃ (x122 : Int),
 ∃ (x123 : Int),
 e118 =
 Ending.returned
 (Value.agg
 #[Value.int IntKind.i64 x120, Value.int IntKind.i64 x121, Value.int IntKind.i64 x122,
 Value.int IntKind.i64 x123]) ∧
 Keeps [n1, n2, n3, n60] w113 w119 ∧
 ((!(x114 == x120 && (x115 == x121 && (x116 == x122 && (x117 == x123 && true))))) = true →
 ∀ (w124 : World),
 Evo [n3] w119 w124 →
 Under [n1, n2, n3, n60] w124 →
 R
 (Ending.returned
 (Value.tuple
 #[Value.agg
 #[Value.int IntKind.i64 m_0, Value.int IntKind.i64 m_1,
 Value.slice m_2a m_2n m_2c],
 Value.bool false, Value.int IntKind.i64 41]))
 w124) ∧
 ((!(x114 == x120 && (x115 == x121 && (x116 == x122 && (x117 == x123 && true))))) = false →
 Calls Proofs.Try.prog 106 #[Value.slice a_2a a_2n a_2c, Value.slice a102 n103 n104] w119
 fun (e125 : Ending) (w126 : World) =>
 ∃ (b127 : Bool),
 e125 = Ending.returned (Value.bool b127) ∧
 Keeps [n1, n2, n3, n60] w119 w126 ∧
 ((!b127) = true →
 ∀ (w128 : World),
 Evo [n3] w126 w128 →
 Under [n1, n2, n3, n60] w128 →
 R
 (Ending.returned
 (Value.tuple
 #[Value.agg
 #[Value.int IntKind.i64 m_0, Value.int IntKind.i64 m_1,
 Value.slice m_2a m_2n m_2c],
 Value.bool false, Value.int IntKind.i64 41]))
 w128) ∧
 ((!b127) = false →
 ∀ (w129 : World),
 Evo [n60, n60] w126 w129 →
 Under [n1, n2, n3, n60] w129 →
 Calls Proofs.Try.prog 107
 #[Value.agg
 #[Value.int IntKind.i64 m_0, Value.int IntKind.i64 m_1,
 Value.slice m_2a m_2n m_2c],
 Value.agg
 #[Value.int IntKind.i64 x53, Value.slice a_2a a_2n a_2c,
 Value.slice a102 n103 n104]]
 w129 fun (e130 : Ending) (w131 : World) =>
 ∃ (x132 : Int),
 ∃ (x133 : Int),
 ∃ (a134 : Option Addr),
 ∃ (n135 : Nat),
 ∃ (n136 : Nat),
 e130 =
 Ending.returned
 (Value.agg
 #[Value.int IntKind.i64 x132, Value.int IntKind.i64 x133,
 Value.slice a134 n135 n136]) ∧
 Keeps [n1, n2, n3, n60] w129 w131 ∧
 ∀ (w137 : World),
 Evo [n3] w131 w137 →
 Under [n1, n2, n3, n60] w137 →
 R
 (Ending.returned
 (Value.tuple
 #[Value.agg
 #[Value.int IntKind.i64 x132,
 Value.int IntKind.i64 x133,
 Value.slice a134 n135 n136],
 Value.bool false, Value.int IntKind.i64 0]))
 w137)))))))))
theorem f53_eq (m_0 : Int) (m_1 : Int) (m_2a : Option Addr) (m_2n : Nat) (m_2c : Nat) (a_0 : Int) (a_1 : Int) (a_2a : Option Addr) (a_2n : Nat) (a_2c : Nat) (a_3a : Option Addr) (a_3n : Nat) (a_3c : Nat) (w : World) (R : Ending → World → Prop) : (fnF Go.Proofs.Try.prog h53 Go.Proofs.Try.f53 [Value.agg #[Value.int IntKind.i64 m_0, Value.int IntKind.i64 m_1, Value.slice m_2a m_2n m_2c], Value.agg #[Value.int IntKind.i64 a_0, Value.int IntKind.i64 a_1, Value.slice a_2a a_2n a_2c, Value.slice a_3a a_3n a_3c]] w R).den = f53_vc m_0 m_1 m_2a m_2n m_2c a_0 a_1 a_2a a_2n a_2c a_3a a_3n a_3c w R := by kernel_rfl
theorem f53_calls (m_0 : Int) (m_1 : Int) (m_2a : Option Addr) (m_2n : Nat) (m_2c : Nat) (a_0 : Int) (a_1 : Int) (a_2a : Option Addr) (a_2n : Nat) (a_2c : Nat) (a_3a : Option Addr) (a_3n : Nat) (a_3c : Nat) (w : World) (R : Ending → World → Prop) (h : f53_vc m_0 m_1 m_2a m_2n m_2c a_0 a_1 a_2a a_2n a_2c a_3a a_3n a_3c w R) : Calls Go.Proofs.Try.prog 53 (List.toArray [Value.agg #[Value.int IntKind.i64 m_0, Value.int IntKind.i64 m_1, Value.slice m_2a m_2n m_2c], Value.agg #[Value.int IntKind.i64 a_0, Value.int IntKind.i64 a_1, Value.slice a_2a a_2n a_2c, Value.slice a_3a a_3n a_3c]]) w R :=
 fn_sound (H := h53) (fn := Go.Proofs.Try.f53) (by kernel_rfl) (by kernel_rfl) (by kernel_rfl) ((f53_eq m_0 m_1 m_2a m_2n m_2c a_0 a_1 a_2a a_2n a_2c a_3a a_3n a_3c w R).mpr h)


/-! (manciple/mancipleref22.M).Sum -/
def h56 : Hints := ⟨[2, 4, 5], [20, 32], [11, 14], [(6, [0, 1, 2, 3, 4, 5, 6, 7, 8, 9, 10, 11, 12]), (7, [0, 1, 2, 3, 4, 5, 6, 7, 8, 9, 10, 11, 12])], [], [(3, ⟨[(6, .int .i64)], [(5, .cons (.int .i64) (.cons (.int .i64) (.cons (.int .i64) (.cons (.int .i64) (.nil)))))]⟩)], [], [], []⟩
def f56_vc (m_0 : Int) (m_1 : Int) (m_2a : Option Addr) (m_2n : Nat) (m_2c : Nat) (free : Bool) (w : World) (R : Ending → World → Prop) : Prop :=
 ∀ (n1 : Nat),
 w.heap.size ≤ n1 →
 ∀ (n2 : Nat),
 w.heap.size ≤ n2 →
 ∀ (n3 : Nat),
 w.heap.size ≤ n3 →
 ∃ (J4 : Int × Int × Int × Int × Int × Unit → World → Prop),
 ∃ (J5 : Int × Int × Int × Int × Int × Unit → World → Nat),
 (∀ (w6 : World), Bel w w6 → Under [n1, n2, n3] w6 → J4 (0, 0, 0, 0, 0, ()) w6) ∧
 ∀ (x7 x8 x9 x10 x11 : Int) (w12 : World),
 J4 (x7, x8, x9, x10, x11, ()) w12 →
 (decide (x7 < (↑m_2n : Int)) = true →
 (free = true →
 ∃ (ad13 : Addr),
 Gives Proofs.Try.prog (Instr.indexAt 81 (Value.slice m_2a m_2n m_2c) (Value.int IntKind.i64 x7)) (Value.pointer (some ad13)) ∧
 ∃ (a14 : Option Addr),
 ∃ (n15 : Nat),
 ∃ (n16 : Nat),
 Reads Proofs.Try.prog [] (Instr.loadAt 23 (Value.pointer (some (Addr.mk ad13.block (ad13.off + 2) none)))) w12 (Value.slice a14 n15 n16) ∧
 ∀ (w17 : World),
 Bel w12 w17 →
 Under [n1, n2, n3] w17 →
 Calls Proofs.Try.prog 89 #[Value.slice a14 n15 n16] w17 fun (e18 : Ending) (w19 : World) =>
 ∃ (x20 : Int),
 ∃ (x21 : Int),
 ∃ (x22 : Int),
 ∃ (x23 : Int),
 e18 = Ending.returned (Value.agg #[Value.int IntKind.i64 x20, Value.int IntKind.i64 x21, Value.int IntKind.i64 x22, Value.int IntKind.i64 x23]) ∧
 Keeps [n1, n2, n3] w17 w19 ∧
 Calls Proofs.Try.prog 88
 #[Value.agg #[Value.int IntKind.i64 x8, Value.int IntKind.i64 x9, Value.int IntKind.i64 x10, Value.int IntKind.i64 x11],
 Value.agg #[Value.int IntKind.i64 x20, Value.int IntKind.i64 x21, Value.int IntKind.i64 x22, Value.int IntKind.i64 x23]]
 w19 fun (e24 : Ending) (w25 : World) =>
 ∃ (x26 : Int),
 ∃ (x27 : Int),
 ∃ (x28 : Int),
 ∃ (x29 : Int),
 ∃ (b30 : Bool),
 e24 =
 Ending.returned
 (Value.tuple #[Value.agg #[Value.int IntKind.i64 x26, Value.int IntKind.i64 x27, Value.int IntKind.i64 x28, Value.int IntKind.i64 x29], Value.bool b30]) ∧
 Keeps [n1, n2, n3] w19 w25 ∧
 ∀ (w31 : World),
 Evo [n3] w25 w31 →
 Under [n1, n2, n3] w31 →
 J4 (IntKind.i64.wrap (x7 + 1), x26, x27, x28, x29, ()) w31 ∧
 J5 (IntKind.i64.wrap (x7 + 1), x26, x27, x28, x29, ()) w31 < J5 (x7, x8, x9, x10, x11, ()) w12) ∧
 (free = false →
 ∃ (ad32 : Addr),
 Gives Proofs.Try.prog (Instr.indexAt 81 (Value.slice m_2a m_2n m_2c) (Value.int IntKind.i64 x7)) (Value.pointer (some ad32)) ∧
 ∃ (a33 : Option Addr),
 ∃ (n34 : Nat),
 ∃ (n35 : Nat),
 Reads Proofs.Try.prog [] (Instr.loadAt 23 (Value.pointer (some (Addr.mk ad32.block (ad32.off + 1) none)))) w12 (Value.slice a33 n34 n35) ∧
 ∀ (w36 : World),
 Bel w12 w36 →
 Under [n1, n2, n3] w36 →
 Calls Proofs.Try.prog 89 #[Value.slice a33 n34 n35] w36 fun (e37 : Ending) (w38 : World) =>
 ∃ (x39 : Int),
 ∃ (x40 : Int),
 ∃ (x41 : Int),
 ∃ (x42 : Int),
 e37 = Ending.returned (Value.agg #[Value.int IntKind.i64 x39, Value.int IntKind.i64 x40, Value.int IntKind.i64 x41, Value.int IntKind.i64 x42]) ∧
 Keeps [n1, n2, n3] w36 w38 ∧
 Calls Proofs.Try.prog 88
 #[Value.agg #[Value.int IntKind.i64 x8, Value.int IntKind.i64 x9, Value.int IntKind.i64 x10, Value.int IntKind.i64 x11],
 Value.agg #[Value.int IntKind.i64 x39, Value.int IntKind.i64 x40, Value.int IntKind.i64 x41, Value.int IntKind.i64 x42]]
 w38 fun (e43 : Ending) (w44 : World) =>
 ∃ (x45 : Int),
 ∃ (x46 : Int),
 ∃ (x47 : Int),
 ∃ (x48 : Int),
 ∃ (b49 : Bool),
 e43 =
 Ending.returned
 (Value.tuple #[Value.agg #[Value.int IntKind.i64 x45, Value.int IntKind.i64 x46, Value.int IntKind.i64 x47, Value.int IntKind.i64 x48], Value.bool b49]) ∧
 Keeps [n1, n2, n3] w38 w44 ∧
 ∀ (w50 : World),
 Evo [n3] w44 w50 →
 Under [n1, n2, n3] w50 →
 J4 (IntKind.i64.wrap (x7 + 1), x45, x46, x47, x48, ()) w50 ∧
 J5 (IntKind.i64.wrap (x7 + 1), x45, x46, x47, x48, ()) w50 < J5 (x7, x8, x9, x10, x11, ()) w12)) ∧
 (decide (x7 < (↑m_2n : Int)) = false →
 ∀ (w51 : World), Evo [n2] w12 w51 → Under [n1, n2, n3] w51 → R (Ending.returned (Value.agg #[Value.int IntKind.i64 x8, Value.int IntKind.i64 x9, Value.int IntKind.i64 x10, Value.int IntKind.i64 x11])) w51)
theorem f56_eq (m_0 : Int) (m_1 : Int) (m_2a : Option Addr) (m_2n : Nat) (m_2c : Nat) (free : Bool) (w : World) (R : Ending → World → Prop) : (fnF Go.Proofs.Try.prog h56 Go.Proofs.Try.f56 [Value.agg #[Value.int IntKind.i64 m_0, Value.int IntKind.i64 m_1, Value.slice m_2a m_2n m_2c], Value.bool free] w R).den = f56_vc m_0 m_1 m_2a m_2n m_2c free w R := by kernel_rfl
theorem f56_calls (m_0 : Int) (m_1 : Int) (m_2a : Option Addr) (m_2n : Nat) (m_2c : Nat) (free : Bool) (w : World) (R : Ending → World → Prop) (h : f56_vc m_0 m_1 m_2a m_2n m_2c free w R) : Calls Go.Proofs.Try.prog 56 (List.toArray [Value.agg #[Value.int IntKind.i64 m_0, Value.int IntKind.i64 m_1, Value.slice m_2a m_2n m_2c], Value.bool free]) w R :=
 fn_sound (H := h56) (fn := Go.Proofs.Try.f56) (by kernel_rfl) (by kernel_rfl) (by kernel_rfl) ((f56_eq m_0 m_1 m_2a m_2n m_2c free w R).mpr h)


/-! (manciple/mancipleref22.M).register -/
def h103 : Hints := ⟨[2, 3, 4], [36, 54, 59], [25, 32, 41, 50, 62, 69, 14, 20], [(5, [0, 1, 2, 3, 4, 5, 6, 7, 8]), (12, [0, 1, 2, 3, 4, 5, 6, 7, 8, 9])], [], [(10, ⟨[(10, .int .i64)], [(4, .cons (.int .i64) (.cons (.int .i64) (.cons (.sl) (.nil))))]⟩)], [], [], [(8, (.op 0 (.op 2 (.op 3 (.alt (.op 1 (.alt (.op 4 (.alt (.op 5 (.op 6 (.op 7 (.op 8 .nil)))) (.op 6 (.op 5 (.op 7 (.op 8 .nil)))))) (.alt (.op 5 (.alt (.op 4 (.op 6 (.op 7 (.op 8 .nil)))) (.op 6 (.op 4 (.op 7 (.op 8 .nil)))))) (.op 6 (.alt (.op 4 (.op 5 (.op 7 (.op 8 .nil)))) (.op 5 (.op 4 (.op 7 (.op 8 .nil))))))))) (.alt (.op 5 (.alt (.op 1 (.alt (.op 4 (.op 6 (.op 7 (.op 8 .nil)))) (.op 6 (.op 4 (.op 7 (.op 8 .nil)))))) (.op 6 (.op 1 (.op 4 (.op 7 (.op 8 .nil))))))) (.op 6 (.alt (.op 1 (.alt (.op 4 (.op 5 (.op 7 (.op 8 .nil)))) (.op 5 (.op 4 (.op 7 (.op 8 .nil)))))) (.op 5 (.op 1 (.op 4 (.op 7 (.op 8 .nil)))))))))))))]⟩
def f103_vc (m_0 : Int) (m_1 : Int) (m_2a : Option Addr) (m_2n : Nat) (m_2c : Nat) (a_0 : Int) (a_1 : Int) (a_2a : Option Addr) (a_2n : Nat) (a_2c : Nat) (a_3a : Option Addr) (a_3n : Nat) (a_3c : Nat) (w : World) (R : Ending → World → Prop) : Prop :=
 ∀ (n1 : Nat),
 w.heap.size ≤ n1 →
 ∀ (n2 : Nat),
 w.heap.size ≤ n2 →
 ∀ (n3 : Nat),
 w.heap.size ≤ n3 →
 (decide (a_1 < 1) = true →
 ∀ (w4 : World),
 Evo [n3] w w4 → Under [n1, n2, n3] w4 → R (Ending.returned (Value.tuple #[Value.agg #[Value.int IntKind.i64 m_0, Value.int IntKind.i64 m_1, Value.slice m_2a m_2n m_2c], Value.bool false, Value.int IntKind.i64 41])) w4) ∧
 (decide (a_1 < 1) = false →
 (((↑a_2n : Int) == 0) = true →
 ∀ (w5 : World),
 Evo [n3] w w5 →
 Under [n1, n2, n3] w5 → R (Ending.returned (Value.tuple #[Value.agg #[Value.int IntKind.i64 m_0, Value.int IntKind.i64 m_1, Value.slice m_2a m_2n m_2c], Value.bool false, Value.int IntKind.i64 41])) w5) ∧
 (((↑a_2n : Int) == 0) = false →
 ∀ (w6 : World),
 Bel w w6 →
 Under [n1, n2, n3] w6 →
 Calls Proofs.Try.prog 83 #[Value.slice a_2a a_2n a_2c] w6 fun (e7 : Ending) (w8 : World) =>
 ∃ (b9 : Bool),
 e7 = Ending.returned (Value.bool b9) ∧
 Keeps [n1, n2, n3] w6 w8 ∧
 ((!b9) = true →
 ∀ (w10 : World),
 Evo [n3] w8 w10 →
 Under [n1, n2, n3] w10 →
 R (Ending.returned (Value.tuple #[Value.agg #[Value.int IntKind.i64 m_0, Value.int IntKind.i64 m_1, Value.slice m_2a m_2n m_2c], Value.bool false, Value.int IntKind.i64 41])) w10) ∧
 ((!b9) = false →
 Calls Proofs.Try.prog 55 #[Value.agg #[Value.int IntKind.i64 m_0, Value.int IntKind.i64 m_1, Value.slice m_2a m_2n m_2c], Value.int IntKind.i64 a_1] w8 fun (e11 : Ending) (w12 : World) =>
 ∃ (x13 : Int),
 e11 = Ending.returned (Value.int IntKind.i64 x13) ∧
 Keeps [n1, n2, n3] w8 w12 ∧
 (decide (x13 ≥ 0) = true →
 ∃ (ad14 : Addr),
 Gives Proofs.Try.prog (Instr.indexAt 81 (Value.slice m_2a m_2n m_2c) (Value.int IntKind.i64 x13)) (Value.pointer (some ad14)) ∧
 ∃ (a15 : Option Addr),
 ∃ (n16 : Nat),
 ∃ (n17 : Nat),
 Reads Proofs.Try.prog [] (Instr.loadAt 23 (Value.pointer (some (Addr.mk ad14.block (ad14.off + 1) none)))) w12 (Value.slice a15 n16 n17) ∧
 ∀ (w18 : World),
 Bel w12 w18 →
 Under [n1, n2, n3] w18 →
 Calls Proofs.Try.prog 82 #[Value.slice a15 n16 n17, Value.slice a_2a a_2n a_2c] w18 fun (e19 : Ending) (w20 : World) =>
 ∃ (b21 : Bool),
 e19 = Ending.returned (Value.bool b21) ∧
 Keeps [n1, n2, n3] w18 w20 ∧
 (b21 = true →
 ∀ (w22 : World),
 Evo [n3] w20 w22 →
 Under [n1, n2, n3] w22 →
 R
 (Ending.returned
 (Value.tuple
 #[Value.agg #[Value.int IntKind.i64 m_0, Value.int IntKind.i64 m_1, Value.slice m_2a m_2n m_2c], Value.bool false, Value.int IntKind.i64 0]))
 w22) ∧
 (b21 = false →
 ∀ (w23 : World),
 Evo [n3] w20 w23 →
 Under [n1, n2, n3] w23 →
 R
 (Ending.returned
 (Value.tuple
 #[Value.agg #[Value.int IntKind.i64 m_0, Value.int IntKind.i64 m_1, Value.slice m_2a m_2n m_2c], Value.bool false, Value.int IntKind.i64 20]))
 w23)) ∧
 (decide (x13 ≥ 0) = false →
 (∀ (w24 : World),
 Bel w12 w24 →
 Under [n1, n2, n3] w24 →
 Calls Proofs.Try.prog 56 #[Value.agg #[Value.int IntKind.i64 m_0, Value.int IntKind.i64 m_1, Value.slice m_2a m_2n m_2c], Value.bool false] w24 fun (e25 : Ending) (w26 : World) =>
 ∃ (x27 : Int),
 ∃ (x28 : Int),
 ∃ (x29 : Int),
 ∃ (x30 : Int),
 e25 = Ending.returned (Value.agg #[Value.int IntKind.i64 x27, Value.int IntKind.i64 x28, Value.int IntKind.i64 x29, Value.int IntKind.i64 x30]) ∧
 Keeps [n1, n2, n3] w24 w26 ∧
 (Calls Proofs.Try.prog 89 #[Value.slice a_2a a_2n a_2c] w26 fun (e31 : Ending) (w32 : World) =>
 ∃ (x33 : Int),
 ∃ (x34 : Int),
 ∃ (x35 : Int),
 ∃ (x36 : Int),
 e31 = Ending.returned (Value.agg #[Value.int IntKind.i64 x33, Value.int IntKind.i64 x34, Value.int IntKind.i64 x35, Value.int IntKind.i64 x36]) ∧
 Keeps [n1, n2, n3] w26 w32 ∧
 (OpW Proofs.Try.prog (valueS (Instr.alloc 64 true (Value.tuple #[]))) w32 fun (v37 : Value) (w38 : World) =>
 ∃ (ad39 : Addr),
 v37 = Value.pointer (some ad39) ∧
 Keeps [n1, n2, n3] w32 w38 ∧
 OpW Proofs.Try.prog (valueS (Instr.alloc 64 true (Value.tuple #[]))) w38 fun (v40 : Value) (w41 : World) =>
 ∃ (ad42 : Addr),
 v40 = Value.pointer (some ad42) ∧
 Keeps [n1, n2, n3] w38 w41 ∧
 OpW Proofs.Try.prog
 (skipS
 (Instr.storeAt 64 (Value.pointer (some ad39))
 (Value.agg #[Value.int IntKind.i64 x27, Value.int IntKind.i64 x28, Value.int IntKind.i64 x29, Value.int IntKind.i64 x30])))
 w41 fun (v43 : Value) (w44 : World) =>
 Keeps [n1, n2, n3] w41 w44 ∧
 OpW Proofs.Try.prog
 (skipS
 (Instr.storeAt 64 (Value.pointer (some ad42))
 (Value.agg #[Value.int IntKind.i64 x33, Value.int IntKind.i64 x34, Value.int IntKind.i64 x35, Value.int IntKind.i64 x36])))
 w44 fun (v45 : Value) (w46 : World) =>
 Keeps [n1, n2, n3] w44 w46 ∧
 ∃ (J47 : Int × Int × Int × (Option Addr × Nat × Nat) × Unit → World → Prop),
 ∃ (J48 : Int × Int × Int × (Option Addr × Nat × Nat) × Unit → World → Nat),
 J47 (0, 0, 0, (none, 0, 0), ()) w46 ∧
 ∀ (x49 x50 x51 : Int) (a52 : Option Addr) (n53 n54 : Nat) (w55 : World),
 J47 (x49, x50, x51, (a52, n53, n54), ()) w55 →
 (decide (x49 < 4) = true →
 ∃ (ad56 : Addr),
 Gives Proofs.Try.prog (Instr.indexAt 64 (Value.pointer (some ad42)) (Value.int IntKind.i64 x49))
 (Value.pointer (some ad56)) ∧
 ∃ (x57 : Int),
 Reads Proofs.Try.prog [] (Instr.loadAt 2 (Value.pointer (some ad56))) w55 (Value.int IntKind.i64 x57) ∧
 ∃ (ad58 : Addr),
 Gives Proofs.Try.prog (Instr.indexAt 64 (Value.pointer (some ad39)) (Value.int IntKind.i64 x49))
 (Value.pointer (some ad58)) ∧
 ∃ (x59 : Int),
 Reads Proofs.Try.prog [] (Instr.loadAt 2 (Value.pointer (some ad58))) w55
 (Value.int IntKind.i64 x59) ∧
 (decide (x57 > IntKind.i64.wrap (m_1 - x59)) = true →
 ∀ (w60 : World),
 Evo [n3] w55 w60 →
 Under [n1, n2, n3] w60 →
 R
 (Ending.returned
 (Value.tuple
 #[Value.agg
 #[Value.int IntKind.i64 m_0, Value.int IntKind.i64 m_1,
 Value.slice m_2a m_2n m_2c],
 Value.bool false, Value.int IntKind.i64 31]))
 w60) ∧
 (decide (x57 > IntKind.i64.wrap (m_1 - x59)) = false →
 ∀ (w61 : World),
 Bel w55 w61 →
 Under [n1, n2, n3] w61 →
 J47 (IntKind.i64.wrap (x49 + 1), x50, x51, (a52, n53, n54), ()) w61 ∧
 J48 (IntKind.i64.wrap (x49 + 1), x50, x51, (a52, n53, n54), ()) w61 <
 J48 (x49, x50, x51, (a52, n53, n54), ()) w55)) ∧
 (decide (x49 < 4) = false →
 (decide ((↑m_2n : Int) ≥ m_0) = true →
 ∀ (w62 : World),
 Evo [n3] w55 w62 →
 Under [n1, n2, n3] w62 →
 R
 (Ending.returned
 (Value.tuple
 #[Value.agg #[Value.int IntKind.i64 m_0, Value.int IntKind.i64 m_1, Value.slice m_2a m_2n m_2c],
 Value.bool false, Value.int IntKind.i64 32]))
 w62) ∧
 (decide ((↑m_2n : Int) ≥ m_0) = false →
 Calls Proofs.Try.prog 107
 #[Value.agg #[Value.int IntKind.i64 m_0, Value.int IntKind.i64 m_1, Value.slice m_2a m_2n m_2c],
 Value.agg #[Value.int IntKind.i64 a_1, Value.slice a_2a a_2n a_2c, Value.slice a_2a a_2n a_2c]]
 w55 fun (e63 : Ending) (w64 : World) =>
 ∃ (x65 : Int),
 ∃ (x66 : Int),
 ∃ (a67 : Option Addr),
 ∃ (n68 : Nat),
 ∃ (n69 : Nat),
 e63 =
 Ending.returned
 (Value.agg
 #[Value.int IntKind.i64 x65, Value.int IntKind.i64 x66, Value.slice a67 n68 n69]) ∧
 Keeps [n1, n2, n3] w55 w64 ∧
 ∀ (w70 : World),
 Evo [n3] w64 w70 →
 Under [n1, n2, n3] w70 →
 R
 (Ending.returned
 (Value.tuple
 #[Value.agg
 #[Value.int IntKind.i64 x65, Value.int IntKind.i64 x66,
 Value.slice a67 n68 n69],
 Value.bool true, Value.int IntKind.i64 0]))
 w70))) ∧
 OpW Proofs.Try.prog (valueS (Instr.alloc 64 true (Value.tuple #[]))) w32 fun (v71 : Value) (w72 : World) =>
 ∃ (ad73 : Addr),
 v71 = Value.pointer (some ad73) ∧
 Keeps [n1, n2, n3] w32 w72 ∧
 OpW Proofs.Try.prog (valueS (Instr.alloc 64 true (Value.tuple #[]))) w72 fun (v74 : Value) (w75 : World) =>
 ∃ (ad76 : Addr),
 v74 = Value.pointer (some ad76) ∧
 Keeps [n1, n2, n3] w72 w75 ∧
 OpW Proofs.Try.prog
 (skipS
 (Instr.storeAt 64 (Value.pointer (some ad76))
 (Value.agg #[Value.int IntKind.i64 x27, Value.int IntKind.i64 x28, Value.int IntKind.i64 x29, Value.int IntKind.i64 x30])))
 w75 fun (v77 : Value) (w78 : World) =>
 Keeps [n1, n2, n3] w75 w78 ∧
 OpW Proofs.Try.prog
 (skipS
 (Instr.storeAt 64 (Value.pointer (some ad73))
 (Value.agg #[Value.int IntKind.i64 x33, Value.int IntKind.i64 x34, Value.int IntKind.i64 x35, Value.int IntKind.i64 x36])))
 w78 fun (v79 : Value) (w80 : World) =>
 Keeps [n1, n2, n3] w78 w80 ∧
 ∃ (J81 : Int × Int × Int × (Option Addr × Nat × Nat) × Unit → World → Prop),
 ∃ (J82 : Int × Int × Int × (Option Addr × Nat × Nat) × Unit → World → Nat),
 J81 (0, 0, 0, (none, 0, 0), ()) w80 ∧
 ∀ (x83 x84 x85 : Int) (a86 : Option Addr) (n87 n88 : Nat) (w89 : World),
 J81 (x83, x84, x85, (a86, n87, n88), ()) w89 →
 (decide (x83 < 4) = true →
 ∃ (ad90 : Addr),
 Gives Proofs.Try.prog (Instr.indexAt 64 (Value.pointer (some ad73)) (Value.int IntKind.i64 x83))
 (Value.pointer (some ad90)) ∧
 ∃ (x91 : Int),
 Reads Proofs.Try.prog [] (Instr.loadAt 2 (Value.pointer (some ad90))) w89 (Value.int IntKind.i64 x91) ∧
 ∃ (ad92 : Addr),
 Gives Proofs.Try.prog (Instr.indexAt 64 (Value.pointer (some ad76)) (Value.int IntKind.i64 x83))
 (Value.pointer (some ad92)) ∧
 ∃ (x93 : Int),
 Reads Proofs.Try.prog [] (Instr.loadAt 2 (Value.pointer (some ad92))) w89
 (Value.int IntKind.i64 x93) ∧
 (decide (x91 > IntKind.i64.wrap (m_1 - x93)) = true →
 ∀ (w94 : World),
 Evo [n3] w89 w94 →
 Under [n1, n2, n3] w94 →
 R
 (Ending.returned
 (Value.tuple
 #[Value.agg
 #[Value.int IntKind.i64 m_0, Value.int IntKind.i64 m_1,
 Value.slice m_2a m_2n m_2c],
 Value.bool false, Value.int IntKind.i64 31]))
 w94) ∧
 (decide (x91 > IntKind.i64.wrap (m_1 - x93)) = false →
 ∀ (w95 : World),
 Bel w89 w95 →
 Under [n1, n2, n3] w95 →
 J81 (IntKind.i64.wrap (x83 + 1), x84, x85, (a86, n87, n88), ()) w95 ∧
 J82 (IntKind.i64.wrap (x83 + 1), x84, x85, (a86, n87, n88), ()) w95 <
 J82 (x83, x84, x85, (a86, n87, n88), ()) w89)) ∧
 (decide (x83 < 4) = false →
 (decide ((↑m_2n : Int) ≥ m_0) = true →
 ∀ (w96 : World),
 Evo [n3] w89 w96 →
 Under [n1, n2, n3] w96 →
 R
 (Ending.returned
 (Value.tuple
 #[Value.agg #[Value.int IntKind.i64 m_0, Value.int IntKind.i64 m_1, Value.slice m_2a m_2n m_2c],
 Value.bool false, Value.int IntKind.i64 32]))
 w96) ∧
 (decide ((↑m_2n : Int) ≥ m_0) = false →
 Calls Proofs.Try.prog 107
 #[Value.agg #[Value.int IntKind.i64 m_0, Value.int IntKind.i64 m_1, Value.slice m_2a m_2n m_2c],
 Value.agg #[Value.int IntKind.i64 a_1, Value.slice a_2a a_2n a_2c, Value.slice a_2a a_2n a_2c]]
 w89 fun (e97 : Ending) (w98 : World) =>
 ∃ (x99 : Int),
 ∃ (x100 : Int),
 ∃ (a101 : Option Addr),
 ∃ (n102 : Nat),
 ∃ (n103 : Nat),
 e97 =
 Ending.returned
 (Value.agg
 #[Value.int IntKind.i64 x99, Value.int IntKind.i64 x100, Value.slice a101 n102 n103]) ∧
 Keeps [n1, n2, n3] w89 w98 ∧
 ∀ (w104 : World),
 Evo [n3] w98 w104 →
 Under [n1, n2, n3] w104 →
 R
 (Ending.returned
 (Value.tuple
 #[Value.agg
 #[Value.int IntKind.i64 x99, Value.int IntKind.i64 x100,
 Value.slice a101 n102 n103],
 Value.bool true, Value.int IntKind.i64 0]))
 w104))) ∧
 (OpW Proofs.Try.prog (valueS (Instr.alloc 64 true (Value.tuple #[]))) w26 fun (v105 : Value) (w106 : World) =>
 ∃ (ad107 : Addr),
 v105 = Value.pointer (some ad107) ∧
 Keeps [n1, n2, n3] w26 w106 ∧
 (Calls Proofs.Try.prog 89 #[Value.slice a_2a a_2n a_2c] w106 fun (e108 : Ending) (w109 : World) =>
 ∃ (x110 : Int),
 ∃ (x111 : Int),
 ∃ (x112 : Int),
 ∃ (x113 : Int),
 e108 =
 Ending.returned
 (Value.agg #[Value.int IntKind.i64 x110, Value.int IntKind.i64 x111, Value.int IntKind.i64 x112, Value.int IntKind.i64 x113]) ∧
 Keeps [n1, n2, n3] w106 w109 ∧
 OpW Proofs.Try.prog (valueS (Instr.alloc 64 true (Value.tuple #[]))) w109 fun (v114 : Value) (w115 : World) =>
 ∃ (ad116 : Addr),
 v114 = Value.pointer (some ad116) ∧
 Keeps [n1, n2, n3] w109 w115 ∧
 OpW Proofs.Try.prog
 (skipS
 (Instr.storeAt 64 (Value.pointer (some ad107))
 (Value.agg #[Value.int IntKind.i64 x27, Value.int IntKind.i64 x28, Value.int IntKind.i64 x29, Value.int IntKind.i64 x30])))
 w115 fun (v117 : Value) (w118 : World) =>
 Keeps [n1, n2, n3] w115 w118 ∧
 OpW Proofs.Try.prog
 (skipS
 (Instr.storeAt 64 (Value.pointer (some ad116))
 (Value.agg
 #[Value.int IntKind.i64 x110, Value.int IntKind.i64 x111, Value.int IntKind.i64 x112, Value.int IntKind.i64 x113])))
 w118 fun (v119 : Value) (w120 : World) =>
 Keeps [n1, n2, n3] w118 w120 ∧
 ∃ (J121 : Int × Int × Int × (Option Addr × Nat × Nat) × Unit → World → Prop),
 ∃ (J122 : Int × Int × Int × (Option Addr × Nat × Nat) × Unit → World → Nat),
 J121 (0, 0, 0, (none, 0, 0), ()) w120 ∧
 ∀ (x123 x124 x125 : Int) (a126 : Option Addr) (n127 n128 : Nat) (w129 : World),
 J121 (x123, x124, x125, (a126, n127, n128), ()) w129 →
 (decide (x123 < 4) = true →
 ∃ (ad130 : Addr),
 Gives Proofs.Try.prog (Instr.indexAt 64 (Value.pointer (some ad116)) (Value.int IntKind.i64 x123))
 (Value.pointer (some ad130)) ∧
 ∃ (x131 : Int),
 Reads Proofs.Try.prog [] (Instr.loadAt 2 (Value.pointer (some ad130))) w129
 (Value.int IntKind.i64 x131) ∧
 ∃ (ad132 : Addr),
 Gives Proofs.Try.prog (Instr.indexAt 64 (Value.pointer (some ad107)) (Value.int IntKind.i64 x123))
 (Value.pointer (some ad132)) ∧
 ∃ (x133 : Int),
 Reads Proofs.Try.prog [] (Instr.loadAt 2 (Value.pointer (some ad132))) w129
 (Value.int IntKind.i64 x133) ∧
 (decide (x131 > IntKind.i64.wrap (m_1 - x133)) = true →
 ∀ (w134 : World),
 Evo [n3] w129 w134 →
 Under [n1, n2, n3] w134 →
 R
 (Ending.returned
 (Value.tuple
 #[Value.agg
 #[Value.int IntKind.i64 m_0, Value.int IntKind.i64 m_1,
 Value.slice m_2a m_2n m_2c],
 Value.bool false, Value.int IntKind.i64 31]))
 w134) ∧
 (decide (x131 > IntKind.i64.wrap (m_1 - x133)) = false →
 ∀ (w135 : World),
 Bel w129 w135 →
 Under [n1, n2, n3] w135 →
 J121 (IntKind.i64.wrap (x123 + 1), x124, x125, (a126, n127, n128), ()) w135 ∧
 J122 (IntKind.i64.wrap (x123 + 1), x124, x125, (a126, n127, n128), ()) w135 <
 J122 (x123, x124, x125, (a126, n127, n128), ()) w129)) ∧
 (decide (x123 < 4) = false →
 (decide ((↑m_2n : Int) ≥ m_0) = true →
 ∀ (w136 : World),
 Evo [n3] w129 w136 →
 Under [n1, n2, n3] w136 →
 R
 (Ending.returned
 (Value.tuple
 #[Value.agg
 #[Value.int IntKind.i64 m_0, Value.int IntKind.i64 m_1, Value.slice m_2a m_2n m_2c],
 Value.bool false, Value.int IntKind.i64 32]))
 w136) ∧
 (decide ((↑m_2n : Int) ≥ m_0) = false →
 Calls Proofs.Try.prog 107
 #[Value.agg #[Value.int IntKind.i64 m_0, Value.int IntKind.i64 m_1, Value.slice m_2a m_2n m_2c],
 Value.agg #[Value.int IntKind.i64 a_1, Value.slice a_2a a_2n a_2c, Value.slice a_2a a_2n a_2c]]
 w129 fun (e137 : Ending) (w138 : World) =>
 ∃ (x139 : Int),
 ∃ (x140 : Int),
 ∃ (a141 : Option Addr),
 ∃ (n142 : Nat),
 ∃ (n143 : Nat),
 e137 =
 Ending.returned
 (Value.agg
 #[Value.int IntKind.i64 x139, Value.int IntKind.i64 x140,
 Value.slice a141 n142 n143]) ∧
 Keeps [n1, n2, n3] w129 w138 ∧
 ∀ (w144 : World),
 Evo [n3] w138 w144 →
 Under [n1, n2, n3] w144 →
 R
 (Ending.returned
 (Value.tuple
 #[Value.agg
 #[Value.int IntKind.i64 x139, Value.int IntKind.i64 x140,
 Value.slice a141 n142 n143],
 Value.bool true, Value.int IntKind.i64 0]))
 w144))) ∧
 OpW Proofs.Try.prog (valueS (Instr.alloc 64 true (Value.tuple #[]))) w106 fun (v145 : Value) (w146 : World) =>
 ∃ (ad147 : Addr),
 v145 = Value.pointer (some ad147) ∧
 Keeps [n1, n2, n3] w106 w146 ∧
 Calls Proofs.Try.prog 89 #[Value.slice a_2a a_2n a_2c] w146 fun (e148 : Ending) (w149 : World) =>
 ∃ (x150 : Int),
 ∃ (x151 : Int),
 ∃ (x152 : Int),
 ∃ (x153 : Int),
 e148 =
 Ending.returned
 (Value.agg #[Value.int IntKind.i64 x150, Value.int IntKind.i64 x151, Value.int IntKind.i64 x152, Value.int IntKind.i64 x153]) ∧
 Keeps [n1, n2, n3] w146 w149 ∧
 OpW Proofs.Try.prog
 (skipS
 (Instr.storeAt 64 (Value.pointer (some ad107))
 (Value.agg #[Value.int IntKind.i64 x27, Value.int IntKind.i64 x28, Value.int IntKind.i64 x29, Value.int IntKind.i64 x30])))
 w149 fun (v154 : Value) (w155 : World) =>
 Keeps [n1, n2, n3] w149 w155 ∧
 OpW Proofs.Try.prog
 (skipS
 (Instr.storeAt 64 (Value.pointer (some ad147))
 (Value.agg
 #[Value.int IntKind.i64 x150, Value.int IntKind.i64 x151, Value.int IntKind.i64 x152, Value.int IntKind.i64 x153])))
 w155 fun (v156 : Value) (w157 : World) =>
 Keeps [n1, n2, n3] w155 w157 ∧
 ∃ (J158 : Int × Int × Int × (Option Addr × Nat × Nat) × Unit → World → Prop),
 ∃ (J159 : Int × Int × Int × (Option Addr × Nat × Nat) × Unit → World → Nat),
 J158 (0, 0, 0, (none, 0, 0), ()) w157 ∧
 ∀ (x160 x161 x162 : Int) (a163 : Option Addr) (n164 n165 : Nat) (w166 : World),
 J158 (x160, x161, x162, (a163, n164, n165), ()) w166 →
 (decide (x160 < 4) = true →
 ∃ (ad167 : Addr),
 Gives Proofs.Try.prog (Instr.indexAt 64 (Value.pointer (some ad147)) (Value.int IntKind.i64 x160))
 (Value.pointer (some ad167)) ∧
 ∃ (x168 : Int),
 Reads Proofs.Try.prog [] (Instr.loadAt 2 (Value.pointer (some ad167))) w166
 (Value.int IntKind.i64 x168) ∧
 ∃ (ad169 : Addr),
 Gives Proofs.Try.prog (Instr.indexAt 64 (Value.pointer (some ad107)) (Value.int IntKind.i64 x160))
 (Value.pointer (some ad169)) ∧
 ∃ (x170 : Int),
 Reads Proofs.Try.prog [] (Instr.loadAt 2 (Value.pointer (some ad169))) w166
 (Value.int IntKind.i64 x170) ∧
 (decide (x168 > IntKind.i64.wrap (m_1 - x170)) = true →
 ∀ (w171 : World),
 Evo [n3] w166 w171 →
 Under [n1, n2, n3] w171 →
 R
 (Ending.returned
 (Value.tuple
 #[Value.agg
 #[Value.int IntKind.i64 m_0, Value.int IntKind.i64 m_1,
 Value.slice m_2a m_2n m_2c],
 Value.bool false, Value.int IntKind.i64 31]))
 w171) ∧
 (decide (x168 > IntKind.i64.wrap (m_1 - x170)) = false →
 ∀ (w172 : World),
 Bel w166 w172 →
 Under [n1, n2, n3] w172 →
 J158 (IntKind.i64.wrap (x160 + 1), x161, x162, (a163, n164, n165), ()) w172 ∧
 J159 (IntKind.i64.wrap (x160 + 1), x161, x162, (a163, n164, n165), ()) w172 <
 J159 (x160, x161, x162, (a163, n164, n165), ()) w166)) ∧
 (decide (x160 < 4) = false →
 (decide ((↑m_2n : Int) ≥ m_0) = true →
 ∀ (w173 : World),
 Evo [n3] w166 w173 →
 Under [n1, n2, n3] w173 →
 R
 (Ending.returned
 (Value.tuple
 #[Value.agg
 #[Value.int IntKind.i64 m_0, Value.int IntKind.i64 m_1, Value.slice m_2a m_2n m_2c],
 Value.bool false, Value.int IntKind.i64 32]))
 w173) ∧
 (decide ((↑m_2n : Int) ≥ m_0) = false →
 Calls Proofs.Try.prog 107
 #[Value.agg #[Value.int IntKind.i64 m_0, Value.int IntKind.i64 m_1, Value.slice m_2a m_2n m_2c],
 Value.agg #[Value.int IntKind.i64 a_1, Value.slice a_2a a_2n a_2c, Value.slice a_2a a_2n a_2c]]
 w166 fun (e174 : Ending) (w175 : World) =>
 ∃ (x176 : Int),
 ∃ (x177 : Int),
 ∃ (a178 : Option Addr),
 ∃ (n179 : Nat),
 ∃ (n180 : Nat),
 e174 =
 Ending.returned
 (Value.agg
 #[Value.int IntKind.i64 x176, Value.int IntKind.i64 x177,
 Value.slice a178 n179 n180]) ∧
 Keeps [n1, n2, n3] w166 w175 ∧
 ∀ (w181 : World),
 Evo [n3] w175 w181 →
 Under [n1, n2, n3] w181 →
 R
 (Ending.returned
 (Value.tuple
 #[Value.agg
 #[Value.int IntKind.i64 x176, Value.int IntKind.i64 x177,
 Value.slice a178 n179 n180],
 Value.bool true, Value.int IntKind.i64 0]))
 w181))) ∧
 OpW Proofs.Try.prog (valueS (Instr.alloc 64 true (Value.tuple #[]))) w26 fun (v182 : Value) (w183 : World) =>
 ∃ (ad184 : Addr),
 v182 = Value.pointer (some ad184) ∧
 Keeps [n1, n2, n3] w26 w183 ∧
 (Calls Proofs.Try.prog 89 #[Value.slice a_2a a_2n a_2c] w183 fun (e185 : Ending) (w186 : World) =>
 ∃ (x187 : Int),
 ∃ (x188 : Int),
 ∃ (x189 : Int),
 ∃ (x190 : Int),
 e185 =
 Ending.returned
 (Value.agg #[Value.int IntKind.i64 x187, Value.int IntKind.i64 x188, Value.int IntKind.i64 x189, Value.int IntKind.i64 x190]) ∧
 Keeps [n1, n2, n3] w183 w186 ∧
 OpW Proofs.Try.prog (valueS (Instr.alloc 64 true (Value.tuple #[]))) w186 fun (v191 : Value) (w192 : World) =>
 ∃ (ad193 : Addr),
 v191 = Value.pointer (some ad193) ∧
 Keeps [n1, n2, n3] w186 w192 ∧
 OpW Proofs.Try.prog
 (skipS
 (Instr.storeAt 64 (Value.pointer (some ad193))
 (Value.agg #[Value.int IntKind.i64 x27, Value.int IntKind.i64 x28, Value.int IntKind.i64 x29, Value.int IntKind.i64 x30])))
 w192 fun (v194 : Value) (w195 : World) =>
 Keeps [n1, n2, n3] w192 w195 ∧
 OpW Proofs.Try.prog
 (skipS
 (Instr.storeAt 64 (Value.pointer (some ad184))
 (Value.agg
 #[Value.int IntKind.i64 x187, Value.int IntKind.i64 x188, Value.int IntKind.i64 x189, Value.int IntKind.i64 x190])))
 w195 fun (v196 : Value) (w197 : World) =>
 Keeps [n1, n2, n3] w195 w197 ∧
 ∃ (J198 : Int × Int × Int × (Option Addr × Nat × Nat) × Unit → World → Prop),
 ∃ (J199 : Int × Int × Int × (Option Addr × Nat × Nat) × Unit → World → Nat),
 J198 (0, 0, 0, (none, 0, 0), ()) w197 ∧
 ∀ (x200 x201 x202 : Int) (a203 : Option Addr) (n204 n205 : Nat) (w206 : World),
 J198 (x200, x201, x202, (a203, n204, n205), ()) w206 →
 (decide (x200 < 4) = true →
 ∃ (ad207 : Addr),
 Gives Proofs.Try.prog (Instr.indexAt 64 (Value.pointer (some ad184)) (Value.int IntKind.i64 x200))
 (Value.pointer (some ad207)) ∧
 ∃ (x208 : Int),
 Reads Proofs.Try.prog [] (Instr.loadAt 2 (Value.pointer (some ad207))) w206
 (Value.int IntKind.i64 x208) ∧
 ∃ (ad209 : Addr),
 Gives Proofs.Try.prog (Instr.indexAt 64 (Value.pointer (some ad193)) (Value.int IntKind.i64 x200))
 (Value.pointer (some ad209)) ∧
 ∃ (x210 : Int),
 Reads Proofs.Try.prog [] (Instr.loadAt 2 (Value.pointer (some ad209))) w206
 (Value.int IntKind.i64 x210) ∧
 (decide (x208 > IntKind.i64.wrap (m_1 - x210)) = true →
 ∀ (w211 : World),
 Evo [n3] w206 w211 →
 Under [n1, n2, n3] w211 →
 R
 (Ending.returned
 (Value.tuple
 #[Value.agg
 #[Value.int IntKind.i64 m_0, Value.int IntKind.i64 m_1,
 Value.slice m_2a m_2n m_2c],
 Value.bool false, Value.int IntKind.i64 31]))
 w211) ∧
 (decide (x208 > IntKind.i64.wrap (m_1 - x210)) = false →
 ∀ (w212 : World),
 Bel w206 w212 →
 Under [n1, n2, n3] w212 →
 J198 (IntKind.i64.wrap (x200 + 1), x201, x202, (a203, n204, n205), ()) w212 ∧
 J199 (IntKind.i64.wrap (x200 + 1), x201, x202, (a203, n204, n205), ()) w212 <
 J199 (x200, x201, x202, (a203, n204, n205), ()) w206)) ∧
 (decide (x200 < 4) = false →
 (decide ((↑m_2n : Int) ≥ m_0) = true →
 ∀ (w213 : World),
 Evo [n3] w206 w213 →
 Under [n1, n2, n3] w213 →
 R
 (Ending.returned
 (Value.tuple
 #[Value.agg
 #[Value.int IntKind.i64 m_0, Value.int IntKind.i64 m_1, Value.slice m_2a m_2n m_2c],
 Value.bool false, Value.int IntKind.i64 32]))
 w213) ∧
 (decide ((↑m_2n : Int) ≥ m_0) = false →
 Calls Proofs.Try.prog 107
 #[Value.agg #[Value.int IntKind.i64 m_0, Value.int IntKind.i64 m_1, Value.slice m_2a m_2n m_2c],
 Value.agg #[Value.int IntKind.i64 a_1, Value.slice a_2a a_2n a_2c, Value.slice a_2a a_2n a_2c]]
 w206 fun (e214 : Ending) (w215 : World) =>
 ∃ (x216 : Int),
 ∃ (x217 : Int),
 ∃ (a218 : Option Addr),
 ∃ (n219 : Nat),
 ∃ (n220 : Nat),
 e214 =
 Ending.returned
 (Value.agg
 #[Value.int IntKind.i64 x216, Value.int IntKind.i64 x217,
 Value.slice a218 n219 n220]) ∧
 Keeps [n1, n2, n3] w206 w215 ∧
 ∀ (w221 : World),
 Evo [n3] w215 w221 →
 Under [n1, n2, n3] w221 →
 R
 (Ending.returned
 (Value.tuple
 #[Value.agg
 #[Value.int IntKind.i64 x216, Value.int IntKind.i64 x217,
 Value.slice a218 n219 n220],
 Value.bool true, Value.int IntKind.i64 0]))
 w221))) ∧
 OpW Proofs.Try.prog (valueS (Instr.alloc 64 true (Value.tuple #[]))) w183 fun (v222 : Value) (w223 : World) =>
 ∃ (ad224 : Addr),
 v222 = Value.pointer (some ad224) ∧
 Keeps [n1, n2, n3] w183 w223 ∧
 Calls Proofs.Try.prog 89 #[Value.slice a_2a a_2n a_2c] w223 fun (e225 : Ending) (w226 : World) =>
 ∃ (x227 : Int),
 ∃ (x228 : Int),
 ∃ (x229 : Int),
 ∃ (x230 : Int),
 e225 =
 Ending.returned
 (Value.agg #[Value.int IntKind.i64 x227, Value.int IntKind.i64 x228, Value.int IntKind.i64 x229, Value.int IntKind.i64 x230]) ∧
 Keeps [n1, n2, n3] w223 w226 ∧
 OpW Proofs.Try.prog
 (skipS
 (Instr.storeAt 64 (Value.pointer (some ad224))
 (Value.agg #[Value.int IntKind.i64 x27, Value.int IntKind.i64 x28, Value.int IntKind.i64 x29, Value.int IntKind.i64 x30])))
 w226 fun (v231 : Value) (w232 : World) =>
 Keeps [n1, n2, n3] w226 w232 ∧
 OpW Proofs.Try.prog
 (skipS
 (Instr.storeAt 64 (Value.pointer (some ad184))
 (Value.agg
 #[Value.int IntKind.i64 x227, Value.int IntKind.i64 x228, Value.int IntKind.i64 x229, Value.int IntKind.i64 x230])))
 w232 fun (v233 : Value) (w234 : World) =>
 Keeps [n1, n2, n3] w232 w234 ∧
 ∃ (J235 : Int × Int × Int × (Option Addr × Nat × Nat) × Unit → World → Prop),
 ∃ (J236 : Int × Int × Int × (Option Addr × Nat × Nat) × Unit → World → Nat),
 J235 (0, 0, 0, (none, 0, 0), ()) w234 ∧
 ∀ (x237 x238 x239 : Int) (a240 : Option Addr) (n241 n242 : Nat) (w243 : World),
 J235 (x237, x238, x239, (a240, n241, n242), ()) w243 →
 (decide (x237 < 4) = true →
 ∃ (ad244 : Addr),
 Gives Proofs.Try.prog (Instr.indexAt 64 (Value.pointer (some ad184)) (Value.int IntKind.i64 x237))
 (Value.pointer (some ad244)) ∧
 ∃ (x245 : Int),
 Reads Proofs.Try.prog [] (Instr.loadAt 2 (Value.pointer (some ad244))) w243
 (Value.int IntKind.i64 x245) ∧
 ∃ (ad246 : Addr),
 Gives Proofs.Try.prog (Instr.indexAt 64 (Value.pointer (some ad224)) (Value.int IntKind.i64 x237))
 (Value.pointer (some ad246)) ∧
 ∃ (x247 : Int),
 Reads Proofs.Try.prog [] (Instr.loadAt 2 (Value.pointer (some ad246))) w243
 (Value.int IntKind.i64 x247) ∧
 (decide (x245 > IntKind.i64.wrap (m_1 - x247)) = true →
 ∀ (w248 : World),
 Evo [n3] w243 w248 →
 Under [n1, n2, n3] w248 →
 R
 (Ending.returned
 (Value.tuple
 #[Value.agg
 #[Value.int IntKind.i64 m_0, Value.int IntKind.i64 m_1,
 Value.slice m_2a m_2n m_2c],
 Value.bool false, Value.int IntKind.i64 31]))
 w248) ∧
 (decide (x245 > IntKind.i64.wrap (m_1 - x247)) = false →
 ∀ (w249 : World),
 Bel w243 w249 →
 Under [n1, n2, n3] w249 →
 J235 (IntKind.i64.wrap (x237 + 1), x238, x239, (a240, n241, n242), ()) w249 ∧
 J236 (IntKind.i64.wrap (x237 + 1), x238, x239, (a240, n241, n242), ()) w249 <
 J236 (x237, x238, x239, (a240, n241, n242), ()) w243)) ∧
 (decide (x237 < 4) = false →
 (decide ((↑m_2n : Int) ≥ m_0) = true →
 ∀ (w250 : World),
 Evo [n3] w243 w250 →
 Under [n1, n2, n3] w250 →
 R
 (Ending.returned
 (Value.tuple
 #[Value.agg
 #[Value.int IntKind.i64 m_0, Value.int IntKind.i64 m_1, Value.slice m_2a m_2n m_2c],
 Value.bool false, Value.int IntKind.i64 32]))
 w250) ∧
 (decide ((↑m_2n : Int) ≥ m_0) = false →
 Calls Proofs.Try.prog 107
 #[Value.agg #[Value.int IntKind.i64 m_0, Value.int IntKind.i64 m_1, Value.slice m_2a m_2n m_2c],
 Value.agg #[Value.int IntKind.i64 a_1, Value.slice a_2a a_2n a_2c, Value.slice a_2a a_2n a_2c]]
 w243 fun (e251 : Ending) (w252 : World) =>
 ∃ (x253 : Int),
 ∃ (x254 : Int),
 ∃ (a255 : Option Addr),
 ∃ (n256 : Nat),
 ∃ (n257 : Nat),
 e251 =
 Ending.returned
 (Value.agg
 #[Value.int IntKind.i64 x253, Value.int IntKind.i64 x254,
 Value.slice a255 n256 n257]) ∧
 Keeps [n1, n2, n3] w243 w252 ∧
 ∀ (w258 : World),
 Evo [n3] w252 w258 →
 Under [n1, n2, n3] w258 →
 R
 (Ending.returned
 (Value.tuple
 #[Value.agg
 #[Value.int IntKind.i64 x253, Value.int IntKind.i64 x254,
 Value.slice a255 n256 n257],
 Value.bool true, Value.int IntKind.i64 0]))
 w258))) ∧
 (∀ (w259 : World),
 Bel w12 w259 →
 Under [n1, n2, n3] w259 →
 OpW Proofs.Try.prog (valueS (Instr.alloc 64 true (Value.tuple #[]))) w259 fun (v260 : Value) (w261 : World) =>
 ∃ (ad262 : Addr),
 v260 = Value.pointer (some ad262) ∧
 Keeps [n1, n2, n3] w259 w261 ∧
 (Calls Proofs.Try.prog 56 #[Value.agg #[Value.int IntKind.i64 m_0, Value.int IntKind.i64 m_1, Value.slice m_2a m_2n m_2c], Value.bool false] w261
 fun (e263 : Ending) (w264 : World) =>
 ∃ (x265 : Int),
 ∃ (x266 : Int),
 ∃ (x267 : Int),
 ∃ (x268 : Int),
 e263 = Ending.returned (Value.agg #[Value.int IntKind.i64 x265, Value.int IntKind.i64 x266, Value.int IntKind.i64 x267, Value.int IntKind.i64 x268]) ∧
 Keeps [n1, n2, n3] w261 w264 ∧
 (Calls Proofs.Try.prog 89 #[Value.slice a_2a a_2n a_2c] w264 fun (e269 : Ending) (w270 : World) =>
 ∃ (x271 : Int),
 ∃ (x272 : Int),
 ∃ (x273 : Int),
 ∃ (x274 : Int),
 e269 =
 Ending.returned
 (Value.agg #[Value.int IntKind.i64 x271, Value.int IntKind.i64 x272, Value.int IntKind.i64 x273, Value.int IntKind.i64 x274]) ∧
 Keeps [n1, n2, n3] w264 w270 ∧
 OpW Proofs.Try.prog (valueS (Instr.alloc 64 true (Value.tuple #[]))) w270 fun (v275 : Value) (w276 : World) =>
 ∃ (ad277 : Addr),
 v275 = Value.pointer (some ad277) ∧
 Keeps [n1, n2, n3] w270 w276 ∧
 OpW Proofs.Try.prog
 (skipS
 (Instr.storeAt 64 (Value.pointer (some ad262))
 (Value.agg
 #[Value.int IntKind.i64 x265, Value.int IntKind.i64 x266, Value.int IntKind.i64 x267, Value.int IntKind.i64 x268])))
 w276 fun (v278 : Value) (w279 : World) =>
 Keeps [n1, n2, n3] w276 w279 ∧
 OpW Proofs.Try.prog
 (skipS
 (Instr.storeAt 64 (Value.pointer (some ad277))
 (Value.agg
 #[Value.int IntKind.i64 x271, Value.int IntKind.i64 x272, Value.int IntKind.i64 x273, Value.int IntKind.i64 x274])))
 w279 fun (v280 : Value) (w281 : World) =>
 Keeps [n1, n2, n3] w279 w281 ∧
 ∃ (J282 : Int × Int × Int × (Option Addr × Nat × Nat) × Unit → World → Prop),
 ∃ (J283 : Int × Int × Int × (Option Addr × Nat × Nat) × Unit → World → Nat),
 J282 (0, 0, 0, (none, 0, 0), ()) w281 ∧
 ∀ (x284 x285 x286 : Int) (a287 : Option Addr) (n288 n289 : Nat) (w290 : World),
 J282 (x284, x285, x286, (a287, n288, n289), ()) w290 →
 (decide (x284 < 4) = true →
 ∃ (ad291 : Addr),
 Gives Proofs.Try.prog (Instr.indexAt 64 (Value.pointer (some ad277)) (Value.int IntKind.i64 x284))
 (Value.pointer (some ad291)) ∧
 ∃ (x292 : Int),
 Reads Proofs.Try.prog [] (Instr.loadAt 2 (Value.pointer (some ad291))) w290
 (Value.int IntKind.i64 x292) ∧
 ∃ (ad293 : Addr),
 Gives Proofs.Try.prog (Instr.indexAt 64 (Value.pointer (some ad262)) (Value.int IntKind.i64 x284))
 (Value.pointer (some ad293)) ∧
 ∃ (x294 : Int),
 Reads Proofs.Try.prog [] (Instr.loadAt 2 (Value.pointer (some ad293))) w290
 (Value.int IntKind.i64 x294) ∧
 (decide (x292 > IntKind.i64.wrap (m_1 - x294)) = true →
 ∀ (w295 : World),
 Evo [n3] w290 w295 →
 Under [n1, n2, n3] w295 →
 R
 (Ending.returned
 (Value.tuple
 #[Value.agg
 #[Value.int IntKind.i64 m_0, Value.int IntKind.i64 m_1,
 Value.slice m_2a m_2n m_2c],
 Value.bool false, Value.int IntKind.i64 31]))
 w295) ∧
 (decide (x292 > IntKind.i64.wrap (m_1 - x294)) = false →
 ∀ (w296 : World),
 Bel w290 w296 →
 Under [n1, n2, n3] w296 →
 J282 (IntKind.i64.wrap (x284 + 1), x285, x286, (a287, n288, n289), ()) w296 ∧
 J283 (IntKind.i64.wrap (x284 + 1), x285, x286, (a287, n288, n289), ()) w296 <
 J283 (x284, x285, x286, (a287, n288, n289), ()) w290)) ∧
 (decide (x284 < 4) = false →
 (decide ((↑m_2n : Int) ≥ m_0) = true →
 ∀ (w297 : World),
 Evo [n3] w290 w297 →
 Under [n1, n2, n3] w297 →
 R
 (Ending.returned
 (Value.tuple
 #[Value.agg
 #[Value.int IntKind.i64 m_0, Value.int IntKind.i64 m_1, Value.slice m_2a m_2n m_2c],
 Value.bool false, Value.int IntKind.i64 32]))
 w297) ∧
 (decide ((↑m_2n : Int) ≥ m_0) = false →
 Calls Proofs.Try.prog 107
 #[Value.agg #[Value.int IntKind.i64 m_0, Value.int IntKind.i64 m_1, Value.slice m_2a m_2n m_2c],
 Value.agg #[Value.int IntKind.i64 a_1, Value.slice a_2a a_2n a_2c, Value.slice a_2a a_2n a_2c]]
 w290 fun (e298 : Ending) (w299 : World) =>
 ∃ (x300 : Int),
 ∃ (x301 : Int),
 ∃ (a302 : Option Addr),
 ∃ (n303 : Nat),
 ∃ (n304 : Nat),
 e298 =
 Ending.returned
 (Value.agg
 #[Value.int IntKind.i64 x300, Value.int IntKind.i64 x301,
 Value.slice a302 n303 n304]) ∧
 Keeps [n1, n2, n3] w290 w299 ∧
 ∀ (w305 : World),
 Evo [n3] w299 w305 →
 Under [n1, n2, n3] w305 →
 R
 (Ending.returned
 (Value.tuple
 #[Value.agg
 #[Value.int IntKind.i64 x300, Value.int IntKind.i64 x301,
 Value.slice a302 n303 n304],
 Value.bool true, Value.int IntKind.i64 0]))
 w305))) ∧
 OpW Proofs.Try.prog (valueS (Instr.alloc 64 true (Value.tuple #[]))) w264 fun (v306 : Value) (w307 : World) =>
 ∃ (ad308 : Addr),
 v306 = Value.pointer (some ad308) ∧
 Keeps [n1, n2, n3] w264 w307 ∧
 Calls Proofs.Try.prog 89 #[Value.slice a_2a a_2n a_2c] w307 fun (e309 : Ending) (w310 : World) =>
 ∃ (x311 : Int),
 ∃ (x312 : Int),
 ∃ (x313 : Int),
 ∃ (x314 : Int),
 e309 =
 Ending.returned
 (Value.agg #[Value.int IntKind.i64 x311, Value.int IntKind.i64 x312, Value.int IntKind.i64 x313, Value.int IntKind.i64 x314]) ∧
 Keeps [n1, n2, n3] w307 w310 ∧
 OpW Proofs.Try.prog
 (skipS
 (Instr.storeAt 64 (Value.pointer (some ad262))
 (Value.agg
 #[Value.int IntKind.i64 x265, Value.int IntKind.i64 x266, Value.int IntKind.i64 x267, Value.int IntKind.i64 x268])))
 w310 fun (v315 : Value) (w316 : World) =>
 Keeps [n1, n2, n3] w310 w316 ∧
 OpW Proofs.Try.prog
 (skipS
 (Instr.storeAt 64 (Value.pointer (some ad308))
 (Value.agg
 #[Value.int IntKind.i64 x311, Value.int IntKind.i64 x312, Value.int IntKind.i64 x313, Value.int IntKind.i64 x314])))
 w316 fun (v317 : Value) (w318 : World) =>
 Keeps [n1, n2, n3] w316 w318 ∧
 ∃ (J319 : Int × Int × Int × (Option Addr × Nat × Nat) × Unit → World → Prop),
 ∃ (J320 : Int × Int × Int × (Option Addr × Nat × Nat) × Unit → World → Nat),
 J319 (0, 0, 0, (none, 0, 0), ()) w318 ∧
 ∀ (x321 x322 x323 : Int) (a324 : Option Addr) (n325 n326 : Nat) (w327 : World),
 J319 (x321, x322, x323, (a324, n325, n326), ()) w327 →
 (decide (x321 < 4) = true →
 ∃ (ad328 : Addr),
 Gives Proofs.Try.prog (Instr.indexAt 64 (Value.pointer (some ad308)) (Value.int IntKind.i64 x321))
 (Value.pointer (some ad328)) ∧
 ∃ (x329 : Int),
 Reads Proofs.Try.prog [] (Instr.loadAt 2 (Value.pointer (some ad328))) w327
 (Value.int IntKind.i64 x329) ∧
 ∃ (ad330 : Addr),
 Gives Proofs.Try.prog (Instr.indexAt 64 (Value.pointer (some ad262)) (Value.int IntKind.i64 x321))
 (Value.pointer (some ad330)) ∧
 ∃ (x331 : Int),
 Reads Proofs.Try.prog [] (Instr.loadAt 2 (Value.pointer (some ad330))) w327
 (Value.int IntKind.i64 x331) ∧
 (decide (x329 > IntKind.i64.wrap (m_1 - x331)) = true →
 ∀ (w332 : World),
 Evo [n3] w327 w332 →
 Under [n1, n2, n3] w332 →
 R
 (Ending.returned
 (Value.tuple
 #[Value.agg
 #[Value.int IntKind.i64 m_0, Value.int IntKind.i64 m_1,
 Value.slice m_2a m_2n m_2c],
 Value.bool false, Value.int IntKind.i64 31]))
 w332) ∧
 (decide (x329 > IntKind.i64.wrap (m_1 - x331)) = false →
 ∀ (w333 : World),
 Bel w327 w333 →
 Under [n1, n2, n3] w333 →
 J319 (IntKind.i64.wrap (x321 + 1), x322, x323, (a324, n325, n326), ()) w333 ∧
 J320 (IntKind.i64.wrap (x321 + 1), x322, x323, (a324, n325, n326), ()) w333 <
 J320 (x321, x322, x323, (a324, n325, n326), ()) w327)) ∧
 (decide (x321 < 4) = false →
 (decide ((↑m_2n : Int) ≥ m_0) = true →
 ∀ (w334 : World),
 Evo [n3] w327 w334 →
 Under [n1, n2, n3] w334 →
 R
 (Ending.returned
 (Value.tuple
 #[Value.agg
 #[Value.int IntKind.i64 m_0, Value.int IntKind.i64 m_1, Value.slice m_2a m_2n m_2c],
 Value.bool false, Value.int IntKind.i64 32]))
 w334) ∧
 (decide ((↑m_2n : Int) ≥ m_0) = false →
 Calls Proofs.Try.prog 107
 #[Value.agg #[Value.int IntKind.i64 m_0, Value.int IntKind.i64 m_1, Value.slice m_2a m_2n m_2c],
 Value.agg #[Value.int IntKind.i64 a_1, Value.slice a_2a a_2n a_2c, Value.slice a_2a a_2n a_2c]]
 w327 fun (e335 : Ending) (w336 : World) =>
 ∃ (x337 : Int),
 ∃ (x338 : Int),
 ∃ (a339 : Option Addr),
 ∃ (n340 : Nat),
 ∃ (n341 : Nat),
 e335 =
 Ending.returned
 (Value.agg
 #[Value.int IntKind.i64 x337, Value.int IntKind.i64 x338,
 Value.slice a339 n340 n341]) ∧
 Keeps [n1, n2, n3] w327 w336 ∧
 ∀ (w342 : World),
 Evo [n3] w336 w342 →
 Under [n1, n2, n3] w342 →
 R
 (Ending.returned
 (Value.tuple
 #[Value.agg
 #[Value.int IntKind.i64 x337, Value.int IntKind.i64 x338,
 Value.slice a339 n340 n341],
 Value.bool true, Value.int IntKind.i64 0]))
 w342))) ∧
 OpW Proofs.Try.prog (valueS (Instr.alloc 64 true (Value.tuple #[]))) w261 fun (v343 : Value) (w344 : World) =>
 ∃ (ad345 : Addr),
 v343 = Value.pointer (some ad345) ∧
 Keeps [n1, n2, n3] w261 w344 ∧
 Calls Proofs.Try.prog 56 #[Value.agg #[Value.int IntKind.i64 m_0, Value.int IntKind.i64 m_1, Value.slice m_2a m_2n m_2c], Value.bool false] w344
 fun (e346 : Ending) (w347 : World) =>
 ∃ (x348 : Int),
 ∃ (x349 : Int),
 ∃ (x350 : Int),
 ∃ (x351 : Int),
 e346 = Ending.returned (Value.agg #[Value.int IntKind.i64 x348, Value.int IntKind.i64 x349, Value.int IntKind.i64 x350, Value.int IntKind.i64 x351]) ∧
 Keeps [n1, n2, n3] w344 w347 ∧
 Calls Proofs.Try.prog 89 #[Value.slice a_2a a_2n a_2c] w347 fun (e352 : Ending) (w353 : World) =>
 ∃ (x354 : Int),
 ∃ (x355 : Int),
 ∃ (x356 : Int),
 ∃ (x357 : Int),
 e352 =
 Ending.returned
 (Value.agg #[Value.int IntKind.i64 x354, Value.int IntKind.i64 x355, Value.int IntKind.i64 x356, Value.int IntKind.i64 x357]) ∧
 Keeps [n1, n2, n3] w347 w353 ∧
 OpW Proofs.Try.prog
 (skipS
 (Instr.storeAt 64 (Value.pointer (some ad262))
 (Value.agg #[Value.int IntKind.i64 x348, Value.int IntKind.i64 x349, Value.int IntKind.i64 x350, Value.int IntKind.i64 x351])))
 w353 fun (v358 : Value) (w359 : World) =>
 Keeps [n1, n2, n3] w353 w359 ∧
 OpW Proofs.Try.prog
 (skipS
 (Instr.storeAt 64 (Value.pointer (some ad345))
 (Value.agg
 #[Value.int IntKind.i64 x354, Value.int IntKind.i64 x355, Value.int IntKind.i64 x356, Value.int IntKind.i64 x357])))
 w359 fun (v360 : Value) (w361 : World) =>
 Keeps [n1, n2, n3] w359 w361 ∧
 ∃ (J362 : Int × Int × Int × (Option Addr × Nat × Nat) × Unit → World → Prop),
 ∃ (J363 : Int × Int × Int × (Option Addr × Nat × Nat) × Unit → World → Nat),
 J362 (0, 0, 0, (none, 0, 0), ()) w361 ∧
 ∀ (x364 x365 x366 : Int) (a367 : Option Addr) (n368 n369 : Nat) (w370 : World),
 J362 (x364, x365, x366, (a367, n368, n369), ()) w370 →
 (decide (x364 < 4) = true →
 ∃ (ad371 : Addr),
 Gives Proofs.Try.prog (Instr.indexAt 64 (Value.pointer (some ad345)) (Value.int IntKind.i64 x364))
 (Value.pointer (some ad371)) ∧
 ∃ (x372 : Int),
 Reads Proofs.Try.prog [] (Instr.loadAt 2 (Value.pointer (some ad371))) w370 (Value.int IntKind.i64 x372) ∧
 ∃ (ad373 : Addr),
 Gives Proofs.Try.prog (Instr.indexAt 64 (Value.pointer (some ad262)) (Value.int IntKind.i64 x364))
 (Value.pointer (some ad373)) ∧
 ∃ (x374 : Int),
 Reads Proofs.Try.prog [] (Instr.loadAt 2 (Value.pointer (some ad373))) w370
 (Value.int IntKind.i64 x374) ∧
 (decide (x372 > IntKind.i64.wrap (m_1 - x374)) = true →
 ∀ (w375 : World),
 Evo [n3] w370 w375 →
 Under [n1, n2, n3] w375 →
 R
 (Ending.returned
 (Value.tuple
 #[Value.agg
 #[Value.int IntKind.i64 m_0, Value.int IntKind.i64 m_1,
 Value.slice m_2a m_2n m_2c],
 Value.bool false, Value.int IntKind.i64 31]))
 w375) ∧
 (decide (x372 > IntKind.i64.wrap (m_1 - x374)) = false →
 ∀ (w376 : World),
 Bel w370 w376 →
 Under [n1, n2, n3] w376 →
 J362 (IntKind.i64.wrap (x364 + 1), x365, x366, (a367, n368, n369), ()) w376 ∧
 J363 (IntKind.i64.wrap (x364 + 1), x365, x366, (a367, n368, n369), ()) w376 <
 J363 (x364, x365, x366, (a367, n368, n369), ()) w370)) ∧
 (decide (x364 < 4) = false →
 (decide ((↑m_2n : Int) ≥ m_0) = true →
 ∀ (w377 : World),
 Evo [n3] w370 w377 →
 Under [n1, n2, n3] w377 →
 R
 (Ending.returned
 (Value.tuple
 #[Value.agg #[Value.int IntKind.i64 m_0, Value.int IntKind.i64 m_1, Value.slice m_2a m_2n m_2c],
 Value.bool false, Value.int IntKind.i64 32]))
 w377) ∧
 (decide ((↑m_2n : Int) ≥ m_0) = false →
 Calls Proofs.Try.prog 107
 #[Value.agg #[Value.int IntKind.i64 m_0, Value.int IntKind.i64 m_1, Value.slice m_2a m_2n m_2c],
 Value.agg #[Value.int IntKind.i64 a_1, Value.slice a_2a a_2n a_2c, Value.slice a_2a a_2n a_2c]]
 w370 fun (e378 : Ending) (w379 : World) =>
 ∃ (x380 : Int),
 ∃ (x381 : Int),
 ∃ (a382 : Option Addr),
 ∃ (n383 : Nat),
 ∃ (n384 : Nat),
 e378 =
 Ending.returned
 (Value.agg
 #[Value.int IntKind.i64 x380, Value.int IntKind.i64 x381, Value.slice a382 n383 n384]) ∧
 Keeps [n1, n2, n3] w370 w379 ∧
 ∀ (w385 : World),
 Evo [n3] w379 w385 →
 Under [n1, n2, n3] w385 →
 R
 (Ending.returned
 (Value.tuple
 #[Value.agg
 #[Value.int IntKind.i64 x380, Value.int IntKind.i64 x381,
 Value.slice a382 n383 n384],
 Value.bool true, Value.int IntKind.i64 0]))
 w385))) ∧
 ∀ (w386 : World),
 Bel w12 w386 →
 Under [n1, n2, n3] w386 →
 OpW Proofs.Try.prog (valueS (Instr.alloc 64 true (Value.tuple #[]))) w386 fun (v387 : Value) (w388 : World) =>
 ∃ (ad389 : Addr),
 v387 = Value.pointer (some ad389) ∧
 Keeps [n1, n2, n3] w386 w388 ∧
 (Calls Proofs.Try.prog 56 #[Value.agg #[Value.int IntKind.i64 m_0, Value.int IntKind.i64 m_1, Value.slice m_2a m_2n m_2c], Value.bool false] w388
 fun (e390 : Ending) (w391 : World) =>
 ∃ (x392 : Int),
 ∃ (x393 : Int),
 ∃ (x394 : Int),
 ∃ (x395 : Int),
 e390 = Ending.returned (Value.agg #[Value.int IntKind.i64 x392, Value.int IntKind.i64 x393, Value.int IntKind.i64 x394, Value.int IntKind.i64 x395]) ∧
 Keeps [n1, n2, n3] w388 w391 ∧
 (Calls Proofs.Try.prog 89 #[Value.slice a_2a a_2n a_2c] w391 fun (e396 : Ending) (w397 : World) =>
 ∃ (x398 : Int),
 ∃ (x399 : Int),
 ∃ (x400 : Int),
 ∃ (x401 : Int),
 e396 =
 Ending.returned
 (Value.agg #[Value.int IntKind.i64 x398, Value.int IntKind.i64 x399, Value.int IntKind.i64 x400, Value.int IntKind.i64 x401]) ∧
 Keeps [n1, n2, n3] w391 w397 ∧
 OpW Proofs.Try.prog (valueS (Instr.alloc 64 true (Value.tuple #[]))) w397 fun (v402 : Value) (w403 : World) =>
 ∃ (ad404 : Addr),
 v402 = Value.pointer (some ad404) ∧
 Keeps [n1, n2, n3] w397 w403 ∧
 OpW Proofs.Try.prog
 (skipS
 (Instr.storeAt 64 (Value.pointer (some ad404))
 (Value.agg
 #[Value.int IntKind.i64 x392, Value.int IntKind.i64 x393, Value.int IntKind.i64 x394, Value.int IntKind.i64 x395])))
 w403 fun (v405 : Value) (w406 : World) =>
 Keeps [n1, n2, n3] w403 w406 ∧
 OpW Proofs.Try.prog
 (skipS
 (Instr.storeAt 64 (Value.pointer (some ad389))
 (Value.agg
 #[Value.int IntKind.i64 x398, Value.int IntKind.i64 x399, Value.int IntKind.i64 x400, Value.int IntKind.i64 x401])))
 w406 fun (v407 : Value) (w408 : World) =>
 Keeps [n1, n2, n3] w406 w408 ∧
 ∃ (J409 : Int × Int × Int × (Option Addr × Nat × Nat) × Unit → World → Prop),
 ∃ (J410 : Int × Int × Int × (Option Addr × Nat × Nat) × Unit → World → Nat),
 J409 (0, 0, 0, (none, 0, 0), ()) w408 ∧
 ∀ (x411 x412 x413 : Int) (a414 : Option Addr) (n415 n416 : Nat) (w417 : World),
 J409 (x411, x412, x413, (a414, n415, n416), ()) w417 →
 (decide (x411 < 4) = true →
 ∃ (ad418 : Addr),
 Gives Proofs.Try.prog (Instr.indexAt 64 (Value.pointer (some ad389)) (Value.int IntKind.i64 x411))
 (Value.pointer (some ad418)) ∧
 ∃ (x419 : Int),
 Reads Proofs.Try.prog [] (Instr.loadAt 2 (Value.pointer (some ad418))) w417
 (Value.int IntKind.i64 x419) ∧
 ∃ (ad420 : Addr),
 Gives Proofs.Try.prog (Instr.indexAt 64 (Value.pointer (some ad404)) (Value.int IntKind.i64 x411))
 (Value.pointer (some ad420)) ∧
 ∃ (x421 : Int),
 Reads Proofs.Try.prog [] (Instr.loadAt 2 (Value.pointer (some ad420))) w417
 (Value.int IntKind.i64 x421) ∧
 (decide (x419 > IntKind.i64.wrap (m_1 - x421)) = true →
 ∀ (w422 : World),
 Evo [n3] w417 w422 →
 Under [n1, n2, n3] w422 →
 R
 (Ending.returned
 (Value.tuple
 #[Value.agg
 #[Value.int IntKind.i64 m_0, Value.int IntKind.i64 m_1,
 Value.slice m_2a m_2n m_2c],
 Value.bool false, Value.int IntKind.i64 31]))
 w422) ∧
 (decide (x419 > IntKind.i64.wrap (m_1 - x421)) = false →
 ∀ (w423 : World),
 Bel w417 w423 →
 Under [n1, n2, n3] w423 →
 J409 (IntKind.i64.wrap (x411 + 1), x412, x413, (a414, n415, n416), ()) w423 ∧
 J410 (IntKind.i64.wrap (x411 + 1), x412, x413, (a414, n415, n416), ()) w423 <
 J410 (x411, x412, x413, (a414, n415, n416), ()) w417)) ∧
 (decide (x411 < 4) = false →
 (decide ((↑m_2n : Int) ≥ m_0) = true →
 ∀ (w424 : World),
 Evo [n3] w417 w424 →
 Under [n1, n2, n3] w424 →
 R
 (Ending.returned
 (Value.tuple
 #[Value.agg
 #[Value.int IntKind.i64 m_0, Value.int IntKind.i64 m_1, Value.slice m_2a m_2n m_2c],
 Value.bool false, Value.int IntKind.i64 32]))
 w424) ∧
 (decide ((↑m_2n : Int) ≥ m_0) = false →
 Calls Proofs.Try.prog 107
 #[Value.agg #[Value.int IntKind.i64 m_0, Value.int IntKind.i64 m_1, Value.slice m_2a m_2n m_2c],
 Value.agg #[Value.int IntKind.i64 a_1, Value.slice a_2a a_2n a_2c, Value.slice a_2a a_2n a_2c]]
 w417 fun (e425 : Ending) (w426 : World) =>
 ∃ (x427 : Int),
 ∃ (x428 : Int),
 ∃ (a429 : Option Addr),
 ∃ (n430 : Nat),
 ∃ (n431 : Nat),
 e425 =
 Ending.returned
 (Value.agg
 #[Value.int IntKind.i64 x427, Value.int IntKind.i64 x428,
 Value.slice a429 n430 n431]) ∧
 Keeps [n1, n2, n3] w417 w426 ∧
 ∀ (w432 : World),
 Evo [n3] w426 w432 →
 Under [n1, n2, n3] w432 →
 R
 (Ending.returned
 (Value.tuple
 #[Value.agg
 #[Value.int IntKind.i64 x427, Value.int IntKind.i64 x428,
 Value.slice a429 n430 n431],
 Value.bool true, Value.int IntKind.i64 0]))
 w432))) ∧
 OpW Proofs.Try.prog (valueS (Instr.alloc 64 true (Value.tuple #[]))) w391 fun (v433 : Value) (w434 : World) =>
 ∃ (ad435 : Addr),
 v433 = Value.pointer (some ad435) ∧
 Keeps [n1, n2, n3] w391 w434 ∧
 Calls Proofs.Try.prog 89 #[Value.slice a_2a a_2n a_2c] w434 fun (e436 : Ending) (w437 : World) =>
 ∃ (x438 : Int),
 ∃ (x439 : Int),
 ∃ (x440 : Int),
 ∃ (x441 : Int),
 e436 =
 Ending.returned
 (Value.agg #[Value.int IntKind.i64 x438, Value.int IntKind.i64 x439, Value.int IntKind.i64 x440, Value.int IntKind.i64 x441]) ∧
 Keeps [n1, n2, n3] w434 w437 ∧
 OpW Proofs.Try.prog
 (skipS
 (Instr.storeAt 64 (Value.pointer (some ad435))
 (Value.agg
 #[Value.int IntKind.i64 x392, Value.int IntKind.i64 x393, Value.int IntKind.i64 x394, Value.int IntKind.i64 x395])))
 w437 fun (v442 : Value) (w443 : World) =>
 Keeps [n1, n2, n3] w437 w443 ∧
 OpW Proofs.Try.prog
 (skipS
 (Instr.storeAt 64 (Value.pointer (some ad389))
 (Value.agg
 #[Value.int IntKind.i64 x438, Value.int IntKind.i64 x439, Value.int IntKind.i64 x440, Value.int IntKind.i64 x441])))
 w443 fun (v444 : Value) (w445 : World) =>
 Keeps [n1, n2, n3] w443 w445 ∧
 ∃ (J446 : Int × Int × Int × (Option Addr × Nat × Nat) × Unit → World → Prop),
 ∃ (J447 : Int × Int × Int × (Option Addr × Nat × Nat) × Unit → World → Nat),
 J446 (0, 0, 0, (none, 0, 0), ()) w445 ∧
 ∀ (x448 x449 x450 : Int) (a451 : Option Addr) (n452 n453 : Nat) (w454 : World),
 J446 (x448, x449, x450, (a451, n452, n453), ()) w454 →
 (decide (x448 < 4) = true →
 ∃ (ad455 : Addr),
 Gives Proofs.Try.prog (Instr.indexAt 64 (Value.pointer (some ad389)) (Value.int IntKind.i64 x448))
 (Value.pointer (some ad455)) ∧
 ∃ (x456 : Int),
 Reads Proofs.Try.prog [] (Instr.loadAt 2 (Value.pointer (some ad455))) w454
 (Value.int IntKind.i64 x456) ∧
 ∃ (ad457 : Addr),
 Gives Proofs.Try.prog (Instr.indexAt 64 (Value.pointer (some ad435)) (Value.int IntKind.i64 x448))
 (Value.pointer (some ad457)) ∧
 ∃ (x458 : Int),
 Reads Proofs.Try.prog [] (Instr.loadAt 2 (Value.pointer (some ad457))) w454
 (Value.int IntKind.i64 x458) ∧
 (decide (x456 > IntKind.i64.wrap (m_1 - x458)) = true →
 ∀ (w459 : World),
 Evo [n3] w454 w459 →
 Under [n1, n2, n3] w459 →
 R
 (Ending.returned
 (Value.tuple
 #[Value.agg
 #[Value.int IntKind.i64 m_0, Value.int IntKind.i64 m_1,
 Value.slice m_2a m_2n m_2c],
 Value.bool false, Value.int IntKind.i64 31]))
 w459) ∧
 (decide (x456 > IntKind.i64.wrap (m_1 - x458)) = false →
 ∀ (w460 : World),
 Bel w454 w460 →
 Under [n1, n2, n3] w460 →
 J446 (IntKind.i64.wrap (x448 + 1), x449, x450, (a451, n452, n453), ()) w460 ∧
 J447 (IntKind.i64.wrap (x448 + 1), x449, x450, (a451, n452, n453), ()) w460 <
 J447 (x448, x449, x450, (a451, n452, n453), ()) w454)) ∧
 (decide (x448 < 4) = false →
 (decide ((↑m_2n : Int) ≥ m_0) = true →
 ∀ (w461 : World),
 Evo [n3] w454 w461 →
 Under [n1, n2, n3] w461 →
 R
 (Ending.returned
 (Value.tuple
 #[Value.agg
 #[Value.int IntKind.i64 m_0, Value.int IntKind.i64 m_1, Value.slice m_2a m_2n m_2c],
 Value.bool false, Value.int IntKind.i64 32]))
 w461) ∧
 (decide ((↑m_2n : Int) ≥ m_0) = false →
 Calls Proofs.Try.prog 107
 #[Value.agg #[Value.int IntKind.i64 m_0, Value.int IntKind.i64 m_1, Value.slice m_2a m_2n m_2c],
 Value.agg #[Value.int IntKind.i64 a_1, Value.slice a_2a a_2n a_2c, Value.slice a_2a a_2n a_2c]]
 w454 fun (e462 : Ending) (w463 : World) =>
 ∃ (x464 : Int),
 ∃ (x465 : Int),
 ∃ (a466 : Option Addr),
 ∃ (n467 : Nat),
 ∃ (n468 : Nat),
 e462 =
 Ending.returned
 (Value.agg
 #[Value.int IntKind.i64 x464, Value.int IntKind.i64 x465,
 Value.slice a466 n467 n468]) ∧
 Keeps [n1, n2, n3] w454 w463 ∧
 ∀ (w469 : World),
 Evo [n3] w463 w469 →
 Under [n1, n2, n3] w469 →
 R
 (Ending.returned
 (Value.tuple
 #[Value.agg
 #[Value.int IntKind.i64 x464, Value.int IntKind.i64 x465,
 Value.slice a466 n467 n468],
 Value.bool true, Value.int IntKind.i64 0]))
 w469))) ∧
 OpW Proofs.Try.prog (valueS (Instr.alloc 64 true (Value.tuple #[]))) w388 fun (v470 : Value) (w471 : World) =>
 ∃ (ad472 : Addr),
 v470 = Value.pointer (some ad472) ∧
 Keeps [n1, n2, n3] w388 w471 ∧
 Calls Proofs.Try.prog 56 #[Value.agg #[Value.int IntKind.i64 m_0, Value.int IntKind.i64 m_1, Value.slice m_2a m_2n m_2c], Value.bool false] w471
 fun (e473 : Ending) (w474 : World) =>
 ∃ (x475 : Int),
 ∃ (x476 : Int),
 ∃ (x477 : Int),
 ∃ (x478 : Int),
 e473 = Ending.returned (Value.agg #[Value.int IntKind.i64 x475, Value.int IntKind.i64 x476, Value.int IntKind.i64 x477, Value.int IntKind.i64 x478]) ∧
 Keeps [n1, n2, n3] w471 w474 ∧
 Calls Proofs.Try.prog 89 #[Value.slice a_2a a_2n a_2c] w474 fun (e479 : Ending) (w480 : World) =>
 ∃ (x481 : Int),
 ∃ (x482 : Int),
 ∃ (x483 : Int),
 ∃ (x484 : Int),
 e479 =
 Ending.returned
 (Value.agg #[Value.int IntKind.i64 x481, Value.int IntKind.i64 x482, Value.int IntKind.i64 x483, Value.int IntKind.i64 x484]) ∧
 Keeps [n1, n2, n3] w474 w480 ∧
 OpW Proofs.Try.prog
 (skipS
 (Instr.storeAt 64 (Value.pointer (some ad472))
 (Value.agg #[Value.int IntKind.i64 x475, Value.int IntKind.i64 x476, Value.int IntKind.i64 x477, Value.int IntKind.i64 x478])))
 w480 fun (v485 : Value) (w486 : World) =>
 Keeps [n1, n2, n3] w480 w486 ∧
 OpW Proofs.Try.prog
 (skipS
 (Instr.storeAt 64 (Value.pointer (some ad389))
 (Value.agg
 #[Value.int IntKind.i64 x481, Value.int IntKind.i64 x482, Value.int IntKind.i64 x483, Value.int IntKind.i64 x484])))
 w486 fun (v487 : Value) (w488 : World) =>
 Keeps [n1, n2, n3] w486 w488 ∧
 ∃ (J489 : Int × Int × Int × (Option Addr × Nat × Nat) × Unit → World → Prop),
 ∃ (J490 : Int × Int × Int × (Option Addr × Nat × Nat) × Unit → World → Nat),
 J489 (0, 0, 0, (none, 0, 0), ()) w488 ∧
 ∀ (x491 x492 x493 : Int) (a494 : Option Addr) (n495 n496 : Nat) (w497 : World),
 J489 (x491, x492, x493, (a494, n495, n496), ()) w497 →
 (decide (x491 < 4) = true →
 ∃ (ad498 : Addr),
 Gives Proofs.Try.prog (Instr.indexAt 64 (Value.pointer (some ad389)) (Value.int IntKind.i64 x491))
 (Value.pointer (some ad498)) ∧
 ∃ (x499 : Int),
 Reads Proofs.Try.prog [] (Instr.loadAt 2 (Value.pointer (some ad498))) w497 (Value.int IntKind.i64 x499) ∧
 ∃ (ad500 : Addr),
 Gives Proofs.Try.prog (Instr.indexAt 64 (Value.pointer (some ad472)) (Value.int IntKind.i64 x491))
 (Value.pointer (some ad500)) ∧
 ∃ (x501 : Int),
 Reads Proofs.Try.prog [] (Instr.loadAt 2 (Value.pointer (some ad500))) w497
 (Value.int IntKind.i64 x501) ∧
 (decide (x499 > IntKind.i64.wrap (m_1 - x501)) = true →
 ∀ (w502 : World),
 Evo [n3] w497 w502 →
 Under [n1, n2, n3] w502 →
 R
 (Ending.returned
 (Value.tuple
 #[Value.agg
 #[Value.int IntKind.i64 m_0, Value.int IntKind.i64 m_1,
 Value.slice m_2a m_2n m_2c],
 Value.bool false, Value.int IntKind.i64 31]))
 w502) ∧
 (decide (x499 > IntKind.i64.wrap (m_1 - x501)) = false →
 ∀ (w503 : World),
 Bel w497 w503 →
 Under [n1, n2, n3] w503 →
 J489 (IntKind.i64.wrap (x491 + 1), x492, x493, (a494, n495, n496), ()) w503 ∧
 J490 (IntKind.i64.wrap (x491 + 1), x492, x493, (a494, n495, n496), ()) w503 <
 J490 (x491, x492, x493, (a494, n495, n496), ()) w497)) ∧
 (decide (x491 < 4) = false →
 (decide ((↑m_2n : Int) ≥ m_0) = true →
 ∀ (w504 : World),
 Evo [n3] w497 w504 →
 Under [n1, n2, n3] w504 →
 R
 (Ending.returned
 (Value.tuple
 #[Value.agg #[Value.int IntKind.i64 m_0, Value.int IntKind.i64 m_1, Value.slice m_2a m_2n m_2c],
 Value.bool false, Value.int IntKind.i64 32]))
 w504) ∧
 (decide ((↑m_2n : Int) ≥ m_0) = false →
 Calls Proofs.Try.prog 107
 #[Value.agg #[Value.int IntKind.i64 m_0, Value.int IntKind.i64 m_1, Value.slice m_2a m_2n m_2c],
 Value.agg #[Value.int IntKind.i64 a_1, Value.slice a_2a a_2n a_2c, Value.slice a_2a a_2n a_2c]]
 w497 fun (e505 : Ending) (w506 : World) =>
 ∃ (x507 : Int),
 ∃ (x508 : Int),
 ∃ (a509 : Option Addr),
 ∃ (n510 : Nat),
 ∃ (n511 : Nat),
 e505 =
 Ending.returned
 (Value.agg
 #[Value.int IntKind.i64 x507, Value.int IntKind.i64 x508, Value.slice a509 n510 n511]) ∧
 Keeps [n1, n2, n3] w497 w506 ∧
 ∀ (w512 : World),
 Evo [n3] w506 w512 →
 Under [n1, n2, n3] w512 →
 R
 (Ending.returned
 (Value.tuple
 #[Value.agg
 #[Value.int IntKind.i64 x507, Value.int IntKind.i64 x508,
 Value.slice a509 n510 n511],
 Value.bool true, Value.int IntKind.i64 0]))
 w512))))))
theorem f103_eq (m_0 : Int) (m_1 : Int) (m_2a : Option Addr) (m_2n : Nat) (m_2c : Nat) (a_0 : Int) (a_1 : Int) (a_2a : Option Addr) (a_2n : Nat) (a_2c : Nat) (a_3a : Option Addr) (a_3n : Nat) (a_3c : Nat) (w : World) (R : Ending → World → Prop) : (fnF Go.Proofs.Try.prog h103 Go.Proofs.Try.f103 [Value.agg #[Value.int IntKind.i64 m_0, Value.int IntKind.i64 m_1, Value.slice m_2a m_2n m_2c], Value.agg #[Value.int IntKind.i64 a_0, Value.int IntKind.i64 a_1, Value.slice a_2a a_2n a_2c, Value.slice a_3a a_3n a_3c]] w R).den = f103_vc m_0 m_1 m_2a m_2n m_2c a_0 a_1 a_2a a_2n a_2c a_3a a_3n a_3c w R := by kernel_rfl
theorem f103_calls (m_0 : Int) (m_1 : Int) (m_2a : Option Addr) (m_2n : Nat) (m_2c : Nat) (a_0 : Int) (a_1 : Int) (a_2a : Option Addr) (a_2n : Nat) (a_2c : Nat) (a_3a : Option Addr) (a_3n : Nat) (a_3c : Nat) (w : World) (R : Ending → World → Prop) (h : f103_vc m_0 m_1 m_2a m_2n m_2c a_0 a_1 a_2a a_2n a_2c a_3a a_3n a_3c w R) : Calls Go.Proofs.Try.prog 103 (List.toArray [Value.agg #[Value.int IntKind.i64 m_0, Value.int IntKind.i64 m_1, Value.slice m_2a m_2n m_2c], Value.agg #[Value.int IntKind.i64 a_0, Value.int IntKind.i64 a_1, Value.slice a_2a a_2n a_2c, Value.slice a_3a a_3n a_3c]]) w R :=
 fn_sound (H := h103) (fn := Go.Proofs.Try.f103) (by kernel_rfl) (by kernel_rfl) (by kernel_rfl) ((f103_eq m_0 m_1 m_2a m_2n m_2c a_0 a_1 a_2a a_2n a_2c a_3a a_3n a_3c w R).mpr h)


/-! (manciple/mancipleref22.M).with -/
def h107 : Hints := ⟨[2, 3, 4, 5], [26, 42, 53], [17, 32, 47, 59, 22], [(6, [0, 1, 2, 3, 4, 5, 6, 7, 8, 9, 10, 11, 12]), (9, [0, 1, 2, 3, 4, 5, 6, 7, 8]), (10, [0, 1, 2, 3, 4, 5, 6, 7, 8, 9, 10])], [], [(4, ⟨[(6, .bool), (7, .int .i64)], [(5, .cons (.int .i64) (.cons (.int .i64) (.cons (.sl) (.nil))))]⟩)], [], [], []⟩
def f107_vc (m_0 : Int) (m_1 : Int) (m_2a : Option Addr) (m_2n : Nat) (m_2c : Nat) (a_0 : Int) (a_1a : Option Addr) (a_1n : Nat) (a_1c : Nat) (a_2a : Option Addr) (a_2n : Nat) (a_2c : Nat) (w : World) (R : Ending → World → Prop) : Prop :=
 ∀ (n1 : Nat),
 w.heap.size ≤ n1 →
 ∀ (n2 : Nat),
 w.heap.size ≤ n2 →
 ∀ (n3 : Nat),
 w.heap.size ≤ n3 →
 ∀ (n4 : Nat),
 w.heap.size ≤ n4 →
 ∃ (J5 : Bool × Int × Int × Int × (Option Addr × Nat × Nat) × Unit → World → Prop),
 ∃ (J6 : Bool × Int × Int × Int × (Option Addr × Nat × Nat) × Unit → World → Nat),
 (∀ (w7 : World), Evo [n4] w w7 → Under [n1, n2, n3, n4] w7 → J5 (false, 0, m_0, m_1, (none, 0, 0), ()) w7) ∧
 ∀ (b8 : Bool) (x9 x10 x11 : Int) (a12 : Option Addr) (n13 n14 : Nat) (w15 : World),
 J5 (b8, x9, x10, x11, (a12, n13, n14), ()) w15 →
 (decide (x9 < (↑m_2n : Int)) = true →
 ((!b8) = true →
 ∃ (ad16 : Addr),
 Gives Proofs.Try.prog (Instr.indexAt 81 (Value.slice m_2a m_2n m_2c) (Value.int IntKind.i64 x9)) (Value.pointer (some ad16)) ∧
 ∃ (x17 : Int),
 Reads Proofs.Try.prog [] (Instr.loadAt 2 (Value.pointer (some ad16))) w15 (Value.int IntKind.i64 x17) ∧
 (decide (x17 ≥ a_0) = true →
 ∀ (w18 : World),
 Bel w15 w18 →
 Under [n1, n2, n3, n4] w18 →
 OpW Proofs.Try.prog (valueS (Instr.buildSlice 81 1 #[(0, Value.agg #[Value.int IntKind.i64 a_0, Value.slice a_1a a_1n a_1c, Value.slice a_2a a_2n a_2c])])) w18
 fun (v19 : Value) (w20 : World) =>
 ∃ (a21 : Option Addr),
 ∃ (n22 : Nat),
 ∃ (n23 : Nat),
 v19 = Value.slice a21 n22 n23 ∧
 Keeps [n1, n2, n3, n4] w18 w20 ∧
 OpW Proofs.Try.prog (builtin Builtin.append #[81, 81] 81 #[false, false] #[Value.slice a12 n13 n14, Value.slice a21 n22 n23]) w20 fun (v24 : Value) (w25 : World) =>
 ∃ (a26 : Option Addr),
 ∃ (n27 : Nat),
 ∃ (n28 : Nat),
 v24 = Value.slice a26 n27 n28 ∧
 Keeps [n1, n2, n3, n4] w20 w25 ∧
 ∃ (ad29 : Addr),
 Gives Proofs.Try.prog (Instr.indexAt 81 (Value.slice m_2a m_2n m_2c) (Value.int IntKind.i64 x9)) (Value.pointer (some ad29)) ∧
 ∃ (x30 : Int),
 Reads Proofs.Try.prog [n4] (Instr.loadAt 2 (Value.pointer (some ad29))) w25 (Value.int IntKind.i64 x30) ∧
 ((x30 != a_0) = true →
 ∃ (ad31 : Addr),
 Gives Proofs.Try.prog (Instr.indexAt 81 (Value.slice m_2a m_2n m_2c) (Value.int IntKind.i64 x9)) (Value.pointer (some ad31)) ∧
 ∃ (x32 : Int),
 ∃ (a33 : Option Addr),
 ∃ (n34 : Nat),
 ∃ (n35 : Nat),
 ∃ (a36 : Option Addr),
 ∃ (n37 : Nat),
 ∃ (n38 : Nat),
 Reads Proofs.Try.prog [n4] (Instr.loadAt 89 (Value.pointer (some ad31))) w25
 (Value.agg #[Value.int IntKind.i64 x32, Value.slice a33 n34 n35, Value.slice a36 n37 n38]) ∧
 ∀ (w39 : World),
 Evo [n4] w25 w39 →
 Under [n1, n2, n3, n4] w39 →
 OpW Proofs.Try.prog
 (valueS
 (Instr.buildSlice 81 1 #[(0, Value.agg #[Value.int IntKind.i64 x32, Value.slice a33 n34 n35, Value.slice a36 n37 n38])]))
 w39 fun (v40 : Value) (w41 : World) =>
 ∃ (a42 : Option Addr),
 ∃ (n43 : Nat),
 ∃ (n44 : Nat),
 v40 = Value.slice a42 n43 n44 ∧
 Keeps [n1, n2, n3, n4] w39 w41 ∧
 OpW Proofs.Try.prog
 (builtin Builtin.append #[81, 81] 81 #[false, false] #[Value.slice a26 n27 n28, Value.slice a42 n43 n44]) w41
 fun (v45 : Value) (w46 : World) =>
 ∃ (a47 : Option Addr),
 ∃ (n48 : Nat),
 ∃ (n49 : Nat),
 v45 = Value.slice a47 n48 n49 ∧
 Keeps [n1, n2, n3, n4] w41 w46 ∧
 ∀ (w50 : World),
 Evo [n4] w46 w50 →
 Under [n1, n2, n3, n4] w50 →
 J5 (true, IntKind.i64.wrap (x9 + 1), x10, x11, (a47, n48, n49), ()) w50 ∧
 J6 (true, IntKind.i64.wrap (x9 + 1), x10, x11, (a47, n48, n49), ()) w50 <
 J6 (b8, x9, x10, x11, (a12, n13, n14), ()) w15) ∧
 ((x30 != a_0) = false →
 ∀ (w51 : World),
 Evo [n4] w25 w51 →
 Under [n1, n2, n3, n4] w51 →
 J5 (true, IntKind.i64.wrap (x9 + 1), x10, x11, (a26, n27, n28), ()) w51 ∧
 J6 (true, IntKind.i64.wrap (x9 + 1), x10, x11, (a26, n27, n28), ()) w51 < J6 (b8, x9, x10, x11, (a12, n13, n14), ()) w15)) ∧
 (decide (x17 ≥ a_0) = false →
 ∃ (ad52 : Addr),
 Gives Proofs.Try.prog (Instr.indexAt 81 (Value.slice m_2a m_2n m_2c) (Value.int IntKind.i64 x9)) (Value.pointer (some ad52)) ∧
 ∃ (x53 : Int),
 Reads Proofs.Try.prog [] (Instr.loadAt 2 (Value.pointer (some ad52))) w15 (Value.int IntKind.i64 x53) ∧
 ((x53 != a_0) = true →
 ∃ (ad54 : Addr),
 Gives Proofs.Try.prog (Instr.indexAt 81 (Value.slice m_2a m_2n m_2c) (Value.int IntKind.i64 x9)) (Value.pointer (some ad54)) ∧
 ∃ (x55 : Int),
 ∃ (a56 : Option Addr),
 ∃ (n57 : Nat),
 ∃ (n58 : Nat),
 ∃ (a59 : Option Addr),
 ∃ (n60 : Nat),
 ∃ (n61 : Nat),
 Reads Proofs.Try.prog [] (Instr.loadAt 89 (Value.pointer (some ad54))) w15
 (Value.agg #[Value.int IntKind.i64 x55, Value.slice a56 n57 n58, Value.slice a59 n60 n61]) ∧
 ∀ (w62 : World),
 Bel w15 w62 →
 Under [n1, n2, n3, n4] w62 →
 OpW Proofs.Try.prog (valueS (Instr.buildSlice 81 1 #[(0, Value.agg #[Value.int IntKind.i64 x55, Value.slice a56 n57 n58, Value.slice a59 n60 n61])])) w62
 fun (v63 : Value) (w64 : World) =>
 ∃ (a65 : Option Addr),
 ∃ (n66 : Nat),
 ∃ (n67 : Nat),
 v63 = Value.slice a65 n66 n67 ∧
 Keeps [n1, n2, n3, n4] w62 w64 ∧
 OpW Proofs.Try.prog (builtin Builtin.append #[81, 81] 81 #[false, false] #[Value.slice a12 n13 n14, Value.slice a65 n66 n67]) w64
 fun (v68 : Value) (w69 : World) =>
 ∃ (a70 : Option Addr),
 ∃ (n71 : Nat),
 ∃ (n72 : Nat),
 v68 = Value.slice a70 n71 n72 ∧
 Keeps [n1, n2, n3, n4] w64 w69 ∧
 ∀ (w73 : World),
 Evo [n4] w69 w73 →
 Under [n1, n2, n3, n4] w73 →
 J5 (b8, IntKind.i64.wrap (x9 + 1), x10, x11, (a70, n71, n72), ()) w73 ∧
 J6 (b8, IntKind.i64.wrap (x9 + 1), x10, x11, (a70, n71, n72), ()) w73 < J6 (b8, x9, x10, x11, (a12, n13, n14), ()) w15) ∧
 ((x53 != a_0) = false →
 ∀ (w74 : World),
 Bel w15 w74 →
 Under [n1, n2, n3, n4] w74 →
 J5 (b8, IntKind.i64.wrap (x9 + 1), x10, x11, (a12, n13, n14), ()) w74 ∧
 J6 (b8, IntKind.i64.wrap (x9 + 1), x10, x11, (a12, n13, n14), ()) w74 < J6 (b8, x9, x10, x11, (a12, n13, n14), ()) w15))) ∧
 ((!b8) = false →
 ∃ (ad75 : Addr),
 Gives Proofs.Try.prog (Instr.indexAt 81 (Value.slice m_2a m_2n m_2c) (Value.int IntKind.i64 x9)) (Value.pointer (some ad75)) ∧
 ∃ (x76 : Int),
 Reads Proofs.Try.prog [] (Instr.loadAt 2 (Value.pointer (some ad75))) w15 (Value.int IntKind.i64 x76) ∧
 ((x76 != a_0) = true →
 ∃ (ad77 : Addr),
 Gives Proofs.Try.prog (Instr.indexAt 81 (Value.slice m_2a m_2n m_2c) (Value.int IntKind.i64 x9)) (Value.pointer (some ad77)) ∧
 ∃ (x78 : Int),
 ∃ (a79 : Option Addr),
 ∃ (n80 : Nat),
 ∃ (n81 : Nat),
 ∃ (a82 : Option Addr),
 ∃ (n83 : Nat),
 ∃ (n84 : Nat),
 Reads Proofs.Try.prog [] (Instr.loadAt 89 (Value.pointer (some ad77))) w15 (Value.agg #[Value.int IntKind.i64 x78, Value.slice a79 n80 n81, Value.slice a82 n83 n84]) ∧
 ∀ (w85 : World),
 Bel w15 w85 →
 Under [n1, n2, n3, n4] w85 →
 OpW Proofs.Try.prog (valueS (Instr.buildSlice 81 1 #[(0, Value.agg #[Value.int IntKind.i64 x78, Value.slice a79 n80 n81, Value.slice a82 n83 n84])])) w85
 fun (v86 : Value) (w87 : World) =>
 ∃ (a88 : Option Addr),
 ∃ (n89 : Nat),
 ∃ (n90 : Nat),
 v86 = Value.slice a88 n89 n90 ∧
 Keeps [n1, n2, n3, n4] w85 w87 ∧
 OpW Proofs.Try.prog (builtin Builtin.append #[81, 81] 81 #[false, false] #[Value.slice a12 n13 n14, Value.slice a88 n89 n90]) w87
 fun (v91 : Value) (w92 : World) =>
 ∃ (a93 : Option Addr),
 ∃ (n94 : Nat),
 ∃ (n95 : Nat),
 v91 = Value.slice a93 n94 n95 ∧
 Keeps [n1, n2, n3, n4] w87 w92 ∧
 ∀ (w96 : World),
 Evo [n4] w92 w96 →
 Under [n1, n2, n3, n4] w96 →
 J5 (b8, IntKind.i64.wrap (x9 + 1), x10, x11, (a93, n94, n95), ()) w96 ∧
 J6 (b8, IntKind.i64.wrap (x9 + 1), x10, x11, (a93, n94, n95), ()) w96 < J6 (b8, x9, x10, x11, (a12, n13, n14), ()) w15) ∧
 ((x76 != a_0) = false →
 ∀ (w97 : World),
 Bel w15 w97 →
 Under [n1, n2, n3, n4] w97 →
 J5 (b8, IntKind.i64.wrap (x9 + 1), x10, x11, (a12, n13, n14), ()) w97 ∧
 J6 (b8, IntKind.i64.wrap (x9 + 1), x10, x11, (a12, n13, n14), ()) w97 < J6 (b8, x9, x10, x11, (a12, n13, n14), ()) w15))) ∧
 (decide (x9 < (↑m_2n : Int)) = false →
 ((!b8) = true →
 OpW Proofs.Try.prog (valueS (Instr.buildSlice 81 1 #[(0, Value.agg #[Value.int IntKind.i64 a_0, Value.slice a_1a a_1n a_1c, Value.slice a_2a a_2n a_2c])])) w15 fun (v98 : Value) (w99 : World) =>
 ∃ (a100 : Option Addr),
 ∃ (n101 : Nat),
 ∃ (n102 : Nat),
 v98 = Value.slice a100 n101 n102 ∧
 Keeps [n1, n2, n3, n4] w15 w99 ∧
 OpW Proofs.Try.prog (builtin Builtin.append #[81, 81] 81 #[false, false] #[Value.slice a12 n13 n14, Value.slice a100 n101 n102]) w99 fun (v103 : Value) (w104 : World) =>
 ∃ (a105 : Option Addr),
 ∃ (n106 : Nat),
 ∃ (n107 : Nat),
 v103 = Value.slice a105 n106 n107 ∧
 Keeps [n1, n2, n3, n4] w99 w104 ∧
 ∀ (w108 : World),
 Evo [n3, n4] w104 w108 → Under [n1, n2, n3, n4] w108 → R (Ending.returned (Value.agg #[Value.int IntKind.i64 x10, Value.int IntKind.i64 x11, Value.slice a105 n106 n107])) w108) ∧
 ((!b8) = false → ∀ (w109 : World), Evo [n3] w15 w109 → Under [n1, n2, n3, n4] w109 → R (Ending.returned (Value.agg #[Value.int IntKind.i64 x10, Value.int IntKind.i64 x11, Value.slice a12 n13 n14])) w109))
theorem f107_eq (m_0 : Int) (m_1 : Int) (m_2a : Option Addr) (m_2n : Nat) (m_2c : Nat) (a_0 : Int) (a_1a : Option Addr) (a_1n : Nat) (a_1c : Nat) (a_2a : Option Addr) (a_2n : Nat) (a_2c : Nat) (w : World) (R : Ending → World → Prop) : (fnF Go.Proofs.Try.prog h107 Go.Proofs.Try.f107 [Value.agg #[Value.int IntKind.i64 m_0, Value.int IntKind.i64 m_1, Value.slice m_2a m_2n m_2c], Value.agg #[Value.int IntKind.i64 a_0, Value.slice a_1a a_1n a_1c, Value.slice a_2a a_2n a_2c]] w R).den = f107_vc m_0 m_1 m_2a m_2n m_2c a_0 a_1a a_1n a_1c a_2a a_2n a_2c w R := by kernel_rfl
theorem f107_calls (m_0 : Int) (m_1 : Int) (m_2a : Option Addr) (m_2n : Nat) (m_2c : Nat) (a_0 : Int) (a_1a : Option Addr) (a_1n : Nat) (a_1c : Nat) (a_2a : Option Addr) (a_2n : Nat) (a_2c : Nat) (w : World) (R : Ending → World → Prop) (h : f107_vc m_0 m_1 m_2a m_2n m_2c a_0 a_1a a_1n a_1c a_2a a_2n a_2c w R) : Calls Go.Proofs.Try.prog 107 (List.toArray [Value.agg #[Value.int IntKind.i64 m_0, Value.int IntKind.i64 m_1, Value.slice m_2a m_2n m_2c], Value.agg #[Value.int IntKind.i64 a_0, Value.slice a_1a a_1n a_1c, Value.slice a_2a a_2n a_2c]]) w R :=
 fn_sound (H := h107) (fn := Go.Proofs.Try.f107) (by kernel_rfl) (by kernel_rfl) (by kernel_rfl) ((f107_eq m_0 m_1 m_2a m_2n m_2c a_0 a_1a a_1n a_1c a_2a a_2n a_2c w R).mpr h)

end Vct

/- Agents: copies, Get, All, what is done. -/
set_option maxRecDepth 20000
set_option maxHeartbeats 1000000
namespace Go.Vc.J
open Go Go.Vc Go.Vc.V Go.RowKit Go.Proofs Vct

variable {w W W' W2 : World} {M N : Nat → Prop} {gs ds : List Nat} {g r : Nat} {cap most : Int} {su fr : Ar4} {m : AgM} {B : Nat → Prop} {q : AgQ}

/-- A vector in new memory. -/
def VN (W0 W : World) (l : List PartT) (s : Sl3) : Prop := VB W l s ∧ ∀ ad, s.1 = some ad → W0.heap.size ≤ ad.block
theorem VN.of_own {W0 : World} {l : List PartT} {a : Option Addr} {c : Nat} (ho : OwnL W0 gs W 73 3 partE (.slice a l.length c) l) : VN W0 W l (a, l.length, c) :=
  ⟨VB.of_own ho, fun ad hb => by
    rcases ho.row0.2 with ⟨hv, _⟩ | ⟨g', cap', cur, hv, _, hgg, _⟩
    · obtain ⟨rfl, _⟩ := Value.slice.inj hv
      cases hb
    · have hm := ho.mine g' (by rw [hv]; rfl)
      obtain ⟨rfl, _⟩ := Value.slice.inj hv
      cases hb
      simpa using hm⟩
theorem VN.call {W0 : World} {l : List PartT} {s : Sl3} (h : VN W0 W l s) (hb : Bel W W') : VN W0 W' l s := ⟨h.1.call hb, h.2⟩
theorem VN.chg {W0 : World} {l : List PartT} {s : Sl3} (h : VN W0 W l s) (hc : Chg N W W') (hN : ∀ b cur, N b → W.heap[b]? ≠ some (.cells cur 73 (0, 0))) : VN W0 W' l s := ⟨h.1.chg hc hN, h.2⟩
theorem VN.base {W0 W1 : World} {l : List PartT} {s : Sl3} (h : VN W1 W l s) (hs : W0.heap.size ≤ W1.heap.size) : VN W0 W l s := ⟨h.1, fun ad hb => Nat.le_trans hs (h.2 ad hb)⟩
abbrev AgR := Int × AgD × (Sl3 × Sl3)
abbrev agRE (x : AgR) : List Value := agC x.1 x.2.2
abbrev agRV (x : AgR) : Value := .agg #[.int .i64 x.1, slV x.2.2.1, slV x.2.2.2]
def AN (W0 W : World) (x : AgR) : Prop := VN W0 W x.2.1.1 x.2.2.1 ∧ VN W0 W x.2.1.2 x.2.2.2
theorem AN.call {W0 : World} {x : AgR} (h : AN W0 W x) (hb : Bel W W') : AN W0 W' x := ⟨h.1.call hb, h.2.call hb⟩
theorem AN.chg {W0 : World} {x : AgR} (h : AN W0 W x) (hc : Chg N W W') (hN : ∀ b cur, N b → W.heap[b]? ≠ some (.cells cur 73 (0, 0))) : AN W0 W' x := ⟨h.1.chg hc hN, h.2.chg hc hN⟩
theorem c91 {x : Int × AgE} (h : AgS W g r cap most su fr m) (hx : x ∈ m) : RetQ Try.prog 91 #[ptr x.2.1] W fun v w' => ∃ s : Sl3 × Sl3, v = agRV (x.1, x.2.2.1, s) ∧ AN W w' (x.1, x.2.2.1, s) := by
  intro R hR
  refine f91_calls _ W R ?_
  unfold f91_vc
  obtain ⟨k1, k2⟩ := h.ok x hx
  have l1 := vec_len' k1
  have l2 := vec_len' k2
  intro n1 hn1
  refine ⟨_, rfl, _, h.rdI hx nod, _, rfl, _, _, _, h.rdT hx nod, _, rfl, _, _, _, h.rdV hx nod, fun w12 hb12 hu => ?_⟩
  have hA : At W [n1] w12 := ⟨((At.refl W).call hb12).chg, hu⟩
  have h12 := h.call hb12
  refine at_calll hA (c79 w12 (h12.vT x hx).1 (by omega)) (fun _ _ => rfl) fun a15 c17 w14 hA hk hb14 ho1 hs1 => ⟨_, _, _, rfl, hk, ?_⟩
  have h14 := h12.call hb14
  refine ⟨h14.rdV hx nod, h14.rdI hx nod, ?_⟩
  refine at_calll hA (c79 w14 (h14.vF x hx).1 (by omega)) (fun _ _ => rfl) fun a20 c22 w19 hA hk hb19 ho2 hs2 => ⟨_, _, _, rfl, hk, (h14.call hb19).rdI hx nod, fun w23 hev hu => ?_⟩
  have ho1 := (ho1.call hb19).evo (by intro d hd hd2; simp at hd hd2; omega) hev
  have ho2 := ho2.evo (by intro d hd hd2; simp at hd hd2; omega) hev
  exact hR _ _ (hA.evo (by simp; omega) hev hu).below ⟨((a15, x.2.2.1.1.length, c17), (a20, x.2.2.1.2.length, c22)), rfl, VN.of_own ho1, VN.of_own ho2⟩
abbrev zAgR : AgR := (0, ([], []), ((none, 0, 0), (none, 0, 0)))
/-- What Get tells. -/
def getA (W : World) (D : AgL) (i : Int) (v : Value) (w' : World) : Prop := match mget i D with
  | none => v = .tuple #[agRV zAgR, .bool false]
  | some d => ∃ s, v = .tuple #[agRV (i, d, s), .bool true] ∧ AN W w' (i, d, s)
theorem c54 (h : AgX W B g cap most q) (i : Int) : RetQ Try.prog 54 #[ptr g, .int .i64 i] W (getA W q.2.2 i) := by
  intro R hR
  refine f54_calls _ _ W R ?_
  unfold f54_vc
  obtain ⟨r, m, h, hpl, hB⟩ := h
  intro n1 hn1 w2 hb2 hu2
  have hA : At W [n1] w2 := ⟨((At.refl W).call hb2).chg, hu2⟩
  have h2 := h.call hb2
  refine at_callb hA (c97 i h2) fun w4 hA hk hb4 => ?_
  unfold getA at hR
  rcases find_cases (i := i) rfl hpl with ⟨e1, e2⟩ | ⟨x, hx, rfl, e1, e2⟩
  · rw [e1]
    rw [e2] at hR
    exact ⟨_, _, rfl, hk, brN (fun _ w7 hev hu => hR _ _ (hA.evo (by simp; omega) hev hu).below rfl) (fun e => absurd e (by decide))⟩
  · rw [e1]
    rw [e2] at hR
    have hsz := hA.size
    refine ⟨_, _, rfl, hk, brN (fun e => absurd rfl e) (fun _ => ?_)⟩
    refine at_callq hA (c91 (h2.call hb4) hx) fun v w9 hA hk hb9 ⟨s, e, han⟩ => ?_
    subst e
    refine ⟨_, _, _, _, _, _, _, rfl, hk, fun w17 hev hu => ?_⟩
    refine hR _ _ (hA.evo (by simp; omega) hev hu).below ⟨s, rfl, ?_⟩
    have hn1 : n1 < w4.heap.size := Nat.lt_of_lt_of_le (hu2 n1 (by simp)) hb4.size
    have vn : ∀ {l : List PartT} {s : Sl3}, VN w4 w9 l s → VN W w17 l s := fun {l s} hv => by
      refine ⟨⟨sle_chg hv.1.1 (Chg.of_evo hev) fun b hb hm => ?_, fun ad hb => ?_⟩, fun ad hb => by have := hv.2 ad hb; omega⟩
      · have := hv.2 b hb
        simp at hm
        omega
      · obtain ⟨cur, hc⟩ := hv.1.2 ad hb
        refine ⟨cur, ((Chg.of_evo hev).block _ (Array.getElem?_eq_some_iff.1 hc).1 fun hm => ?_).trans hc⟩
        have := hv.2 ad hb
        simp at hm
        omega
    exact ⟨vn han.1, vn han.2⟩
/-! ### All -/
def cfA (x y : AgR) : Int := sg x.1 y.1
theorem cfA_lt (x y : AgR) : cfA x y < 0 ↔ x.1 < y.1 := by
  unfold cfA sg
  repeat' split
  all_goals omega
theorem swoA : Go.Sort.SWO (ltOf cfA) where
  irrefl x := by
    unfold ltOf
    rw [decide_eq_false_iff_not, cfA_lt]
    omega
  trans x y z h k := by
    unfold ltOf at *
    rw [decide_eq_true_iff, cfA_lt] at *
    omega
  ntrans x y z h k := by
    unfold ltOf at *
    rw [decide_eq_false_iff_not, cfA_lt] at *
    omega
theorem c93 (x y : AgR) (W : World) : Ret Try.prog 93 #[agRV x, agRV y] W (.int .i64 (cfA x y)) := by
  intro R h
  refine f93_calls _ _ _ _ _ _ _ _ _ _ _ _ _ _ W R ?_
  unfold f93_vc
  intro n1 hn1 n2 hn2 w3 hb3 hu3
  have hA : At W [n1, n2] w3 := ⟨((At.refl W).call hb3).chg, hu3⟩
  exact at_callb hA (c94 _ _ w3) fun w5 hA hk _ => ⟨_, rfl, hk, leaf h hA rfl⟩
theorem ag_one (x : AgR) : ∀ u ∈ agRE x, u.oneCell' = true := fun u hu => by
  simp at hu
  rcases hu with rfl | rfl | rfl <;> rfl
theorem at_sortA {a : Option Addr} {n c : Nat} {l : List AgR} {K : Ending → World → Prop} (hA : AtF w M gs W) (ho : OwnF w M gs W 89 3 agRE (.slice a n c) l) (hl : l.length < 4611686018427387904)
    (hK : ∀ l' w', AtF w M gs w' → Keeps gs W w' → Chg (fun b => (Value.slice a n c).ownBlock = some b) W w' → OwnF w M gs w' 89 3 agRE (.slice a n c) l' → l'.Perm l → l'.Pairwise (fun x y => ¬ cfA y x < 0) → K (.returned (.tuple #[])) w') :
    Calls Try.prog 92 #[.slice a n c, .func (.func 93) #[] #[]] W K :=
  at_sortFunc (P := Try.prog) (ρ := Try.sortAg_ren) Try.sortAg (k := 3) (f := agRE) (e := 89) (by kernel_rfl) (by kernel_rfl) (fun _ => rfl) ag_one cfA swoA (g := 93) (cb := #[])
    (enters_of Try.func93 (by kernel_rfl) rfl) hA ho (fun W' _ x y => c93 x y W') hl hK
abbrev plR (x : AgR) : Int × AgD := (x.1, x.2.1)
def allQ (W : World) (D : AgL) (v : Value) (w' : World) : Prop := ∃ (l : List AgR) (a : Option Addr) (c : Nat), v = .slice a l.length c ∧ OwnL W [] w' 89 3 agRE (.slice a l.length c) l ∧ (∀ x ∈ l, AN W w' x) ∧ (l.map plR).Perm D ∧ l.Pairwise fun x y => ¬ y.1 < x.1
theorem c41 (h : AgX W B g cap most q) (hl : q.2.2.length ≤ 1000) : RetQ Try.prog 41 #[ptr g] W (allQ W q.2.2) := by
  intro R hR
  refine f41_calls _ W R ?_
  unfold f41_vc
  obtain ⟨r, m, h, hpl, hB⟩ := h
  rw [← hpl] at hR hl
  have hpll : (pl m).length = m.length := by unfold pl; rw [List.length_map]
  have h0 := h
  refine at_callb (At.refl W) (c90 h) fun w2 hA _ hb2 => ⟨_, rfl, brB (fun _ => ?_) (fun e => by cases e)⟩
  have h := h.call hb2
  refine ⟨_, rfl, _, h.rdR nod, ?_⟩
  refine opw_range (w0 := W) (M0 := fun b => b = r) (gs0 := []) (kt := 2) (et := 144) (by kernel_rfl) hA (OwnM.re h.mp rfl (.inr rfl) (by simp)) fun it w7 hq hA _ hb7 hi => ⟨_, rfl, ?_⟩
  refine ⟨fun v W' => At W [] W' ∧ ∃ out rest cur, OwnL W [] W' 89 3 agRE (.slice v.1.1 v.1.2.1 v.1.2.2) out ∧ Itr W noB [] W' it r (Value.int .i64) agP m rest cur ∧ (∀ x ∈ out, AN W W' x) ∧ (out.map plR ++ pl rest).Perm (pl m) ∧ (∀ x ∈ rest, x ∈ m),
    fun _ W' => itLeft W' it r, ⟨hA, [], m, none, OwnL.nil, hi, by simp, by simp, fun x hx => hx⟩, ?_⟩
  rintro a11 n12 n13 w14 ⟨hA, out, rest, cur, hout, hi, hvo, hperm, hsub⟩
  simp only at hout
  have hn12 := hout.len
  have hlen : out.length ≤ m.length := by
    have h1 := hperm.length_eq
    rw [List.length_append, List.length_map, hpll] at h1
    omega
  have hleft := hi.left
  have hi14 := hi
  have hob : ∀ k, (Value.slice a11 n12 n13).ownBlock = some k → k ≠ it := fun k hk e => by
    obtain ⟨cur', hcur⟩ := hout.blk hk
    obtain ⟨es, clock, since, c0, seen, _, _, _, _, h5, _⟩ := hi.obj
    subst e
    rw [hcur] at h5
    cases h5
  refine opw_next hA hi (fun hr => ⟨.inl rfl, fun _ => ?_, fun _ _ e => by simp at e⟩) fun x ra rb w16 hr hA hk hch hi => ⟨.inr ⟨(x.1, some ⟨x.2.1, 0, none⟩, ()), rfl⟩, fun e => by simp at e, fun _ _ _ => ?_⟩
  · subst hr
    simp only [pl, List.map_nil, List.append_nil] at hperm
    refine at_sortA hA hout (by omega) fun l' w18 hA _ hch ho' hp hw => ⟨rfl, ?_⟩
    have hll : l'.length = out.length := hp.length_eq
    have e : n12 = l'.length := by omega
    subst e
    refine hR _ _ hA.below ⟨l', a11, n13, rfl, ho', fun x hx => (hvo x (hp.mem_iff.1 hx)).chg hch fun b cur hown hc => ?_, (hp.map _).trans hperm, hw.imp fun h hh => h ((cfA_lt _ _).2 hh)⟩
    obtain ⟨cur', hc'⟩ := hout.blk hown
    exact cells_ne hc' hc (by decide) rfl
  · have hout := hout.chg hch fun k hk e => hob k hk e
    have hvo : ∀ x ∈ out, AN W w16 x := fun x hx => (hvo x hx).chg hch fun b cur' e hc => by
      obtain ⟨es, clock, since, c0, seen, _, _, _, _, h5, _⟩ := hi14.obj
      rw [e, h5] at hc
      cases hc
    have hxm : x ∈ m := hsub x (by rw [hr]; simp)
    refine opw_entry hi ⟨_, _, rfl, ?_⟩
    have B0 : At w16 [] w16 := At.refl w16
    have hsz0 := hi.left
    rw [hr] at hleft
    simp only [List.length_append, List.length_cons] at hleft hsz0
    have hrs : ∀ y ∈ ra ++ rb, y ∈ m := fun y hy => hsub y (by
      rw [hr]
      rcases List.mem_append.1 hy with hy | hy
      · exact List.mem_append_left _ hy
      · exact List.mem_append_right _ (List.mem_cons_of_mem _ hy))
    have hw16 : W.heap.size ≤ w16.heap.size := hA.size
    refine at_callq hA (c91 (h0.call hA.below) hxm) fun v w26 hA hk hb26 ⟨s, e, han⟩ => ?_
    subst e
    refine ⟨_, _, _, _, _, _, _, rfl, ?_⟩
    have hout := hout.call hb26
    refine opw_push0 (f := agRE) (e' := 89) (bytes := 56) hA hout (x.1, x.2.2.1, s) (by kernel_rfl) (by kernel_rfl) rfl (fun _ _ => rfl) (ag_one _) (by omega) (by decide) fun a2 c2 w40 hA hout' hgr _ => ?_
    have keep73 : ∀ {y : AgR}, AN W w26 y → AN W w40 y := fun {y} hy => by
      have one : ∀ {l : List PartT} {s : Sl3}, VN W w26 l s → VN W w40 l s := fun {l s} hv => by
        have kb : ∀ (b : Nat) (cur : Array Value), w26.heap[b]? = some (Obj.cells cur 73 (0, 0)) → w40.heap[b]? = w26.heap[b]? := fun b cur hc => hgr.block b (Array.getElem?_eq_some_iff.1 hc).1 fun e => by
          obtain ⟨cur', hc'⟩ := hout.blk e.symm
          exact cells_ne hc' hc (by decide) rfl
        refine ⟨⟨?_, fun ad hb => ?_⟩, hv.2⟩
        · obtain ⟨h1, h2, h3, h4, h6⟩ := hv.1.1
          refine ⟨h1, h2, h3, h4, fun i y hy => ?_⟩
          obtain ⟨ad, cs, ha, hl, hcs, hr⟩ := h6 i y hy
          obtain ⟨cur, hc⟩ := hv.1.2 ad ha
          refine ⟨ad, cs, ha, hl, fun j v hv => ?_, hr⟩
          rw [World.cell?_of_block (w := w26) (w' := w40) (by rw [add_block, add_block]; exact kb _ cur hc)]
          exact hcs j v hv
        · obtain ⟨cur, hc⟩ := hv.1.2 ad hb
          exact ⟨cur, (kb _ cur hc).trans hc⟩
      exact ⟨one hy.1, one hy.2⟩
    have hi26 := hi.call hb26
    have hq40 : w40.heap[it]? = w26.heap[it]? := hgr.block it hi26.lts.1 fun e => hob it e.symm rfl
    have hr40 : w40.heap[r]? = w26.heap[r]? := hgr.block r hi26.lts.2.1 fun e => by
      obtain ⟨cur', hc'⟩ := hout.blk e.symm
      obtain ⟨es, clock, since, c0, seen, h5, _⟩ := hi26.obj
      rw [hc'] at h5
      cases h5
    have hi40 := hi26.keep hq40 hr40
    refine ⟨⟨hA, out ++ [(x.1, x.2.2.1, s)], ra ++ rb, some x, hout', hi40, fun y hy => ?_, ?_, hrs⟩, ?_⟩
    · rcases List.mem_append.1 hy with hy | hy
      · exact keep73 ((hvo y hy).call hb26)
      · rw [List.mem_singleton] at hy
        subst hy
        exact keep73 ⟨han.1.base hw16, han.2.base hw16⟩
    · rw [hr] at hperm
      unfold pl at hperm ⊢
      rw [List.map_append, List.map_cons] at hperm
      rw [List.map_append, List.map_append, List.append_assoc]
      refine List.Perm.trans ?_ hperm
      refine List.Perm.append_left _ ?_
      show ([(x.1, x.2.2.1)] ++ (_ ++ _)).Perm _
      rw [List.singleton_append]
      exact List.perm_middle.symm
    · have := hi40.left
      rw [List.length_append] at this
      simp only
      omega
end Go.Vc.J

/- Agents, plainly: what holds whatever is done. -/
set_option maxRecDepth 20000
set_option maxHeartbeats 1000000
namespace Go.Vc.J
open Go Go.Vc Go.Vc.V Go.RowKit Go.Proofs

variable {cap most : Int} {q : AgQ} {D : AgL}

def sumD (f : Int × AgD → Int) (D : AgL) : Int := (D.map f).sum
theorem sumD_cons (f : Int × AgD → Int) (x : Int × AgD) (D : AgL) : sumD f (x :: D) = f x + sumD f D := by simp [sumD]
theorem sumD_append (f : Int × AgD → Int) (D E : AgL) : sumD f (D ++ E) = sumD f D + sumD f E := by simp [sumD]
theorem sumD_nonneg {f : Int × AgD → Int} (h : ∀ x ∈ D, 0 ≤ f x) : 0 ≤ sumD f D := by
  induction D with
  | nil => simp [sumD]
  | cons x D ih =>
    rw [sumD_cons]
    have := h x (by simp)
    have := ih fun y hy => h y (by simp [hy])
    omega
theorem sumD_le {f g : Int × AgD → Int} (h : ∀ x ∈ D, f x ≤ g x) : sumD f D ≤ sumD g D := by
  induction D with
  | nil => simp [sumD]
  | cons x D ih =>
    rw [sumD_cons, sumD_cons]
    have := h x (by simp)
    have := ih fun y hy => h y (by simp [hy])
    omega
theorem mem_mdelA {k : Int} : ∀ {D : AgL} {x : Int × AgD}, x ∈ mdel k D → x ∈ D := mem_mdel
theorem sumD_mdel {f : Int × AgD → Int} {i : Int} {d : AgD} (hx : mget i D = some d) : sumD f D = f (i, d) + sumD f (mdel i D) := by
  induction D with
  | nil => cases hx
  | cons x D ih =>
    unfold mget at hx
    unfold mdel
    by_cases h : i = x.1
    · rw [if_pos h] at hx ⊢
      cases hx
      rw [sumD_cons, h]
    · rw [if_neg h] at hx ⊢
      rw [sumD_cons, sumD_cons, ih hx]
      omega
theorem setD_none {i : Int} {d : AgD} (h : i ∉ D.map (·.1)) : setD D i d = D := by
  unfold setD
  conv => rhs; rw [← List.map_id D]
  refine List.map_congr_left fun x hx => ?_
  rw [if_neg fun e => h (List.mem_map.2 ⟨x, hx, e⟩)]
  rfl
theorem sumD_setD {f : Int × AgD → Int} {i : Int} {d d0 : AgD} (hn : (D.map (·.1)).Nodup) (hx : mget i D = some d0) : sumD f (setD D i d) = f (i, d) + sumD f (mdel i D) := by
  induction D with
  | nil => cases hx
  | cons x D ih =>
    rw [List.map_cons, List.nodup_cons] at hn
    unfold mget at hx
    unfold mdel
    have e : setD (x :: D) i d = (if x.1 = i then (x.1, d) else x) :: setD D i d := rfl
    rw [e, sumD_cons]
    by_cases h : i = x.1
    · rw [if_pos h, if_pos h.symm, h, setD_none hn.1]
    · rw [if_neg h] at hx ⊢
      rw [if_neg fun e => h e.symm, sumD_cons, ih hn.2 hx]
      omega
theorem setD_keys (i : Int) (d : AgD) : (setD D i d).map (·.1) = D.map (·.1) := by
  unfold setD
  rw [List.map_map]
  refine List.map_congr_left fun x _ => ?_
  simp only [Function.comp]
  split <;> rfl
theorem mem_setD {i : Int} {d : AgD} {y : Int × AgD} (h : y ∈ setD D i d) : y = (i, d) ∨ y ∈ D := by
  obtain ⟨x, hx, rfl⟩ := List.mem_map.1 h
  by_cases he : x.1 = i
  · rw [if_pos he, he]; exact .inl rfl
  · rw [if_neg he]; exact .inr hx
theorem setD_same {i : Int} {d : AgD} (hn : (D.map (·.1)).Nodup) (hx : mget i D = some d) : setD D i d = D := by
  unfold setD
  conv => rhs; rw [← List.map_id D]
  refine List.map_congr_left fun x hx2 => ?_
  by_cases he : x.1 = i
  · rw [if_pos he]
    have := Go.Vc.mget_of_mem (k := x.1) (v := x.2) hn hx2
    rw [he, hx] at this
    rw [Option.some.inj this]
    rfl
  · rw [if_neg he]; rfl
theorem setD_setD (i : Int) (d e : AgD) : setD (setD D i d) i e = setD D i e := by
  unfold setD
  rw [List.map_map]
  refine List.map_congr_left fun x _ => ?_
  simp only [Function.comp]
  by_cases h : x.1 = i
  · rw [if_pos h]
    simp [h]
  · rw [if_neg h, if_neg h]
theorem mget_setD {i : Int} {d d0 : AgD} (hx : mget i D = some d0) : mget i (setD D i d) = some d := by
  induction D with
  | nil => cases hx
  | cons x D ih =>
    have e : setD (x :: D) i d = (if x.1 = i then (x.1, d) else x) :: setD D i d := rfl
    rw [e]
    unfold mget at hx ⊢
    by_cases h : i = x.1
    · rw [if_pos h.symm, if_pos h]
    · rw [if_neg h] at hx
      have e2 : (if x.1 = i then (x.1, d) else x) = x := if_neg fun e => h e.symm
      rw [e2, if_neg h]
      exact ih hx
abbrev tS (k : Int) (x : Int × AgD) : Int := sumK k x.2.1
abbrev fS (k : Int) (x : Int × AgD) : Int := sumK k x.2.2
def all4 (f : Int → Int) : Ar4 := (f 0, f 1, f 2, f 3)
structure Good (cap most : Int) (q : AgQ) : Prop where
  nd : (q.2.2.map (·.1)).Nodup
  lc : (q.2.2.length : Int) ≤ cap
  ok : ∀ x ∈ q.2.2, vecB x.2.1 = true ∧ vecB x.2.2 = true ∧ (vsub x.2.1 x.2.2).isSome = true
  su : q.1 = all4 fun k => sumD (tS k) q.2.2
  fr : q.2.1 = all4 fun k => sumD (fS k) q.2.2
  mo : sumD (tS 0) q.2.2 ≤ most ∧ sumD (tS 1) q.2.2 ≤ most ∧ sumD (tS 2) q.2.2 ≤ most ∧ sumD (tS 3) q.2.2 ≤ most
  mm : most ≤ 9007199254740992
theorem holds_sum {T F : List PartT} (h1 : vecB T = true) (h2 : vecB F = true) (h : (vsub T F).isSome = true) (k : Int) : sumK k F ≤ sumK k T := by
  obtain ⟨c, hc⟩ := Option.isSome_iff_exists.1 h
  obtain ⟨h3, _, h4⟩ := vsub_amt h1 h2 hc
  have := (vec_bound (k := k) h3).1
  have := h4 k
  omega
theorem ofA_all {l : List PartT} (h : vecB l = true) : ofA l = all4 fun k => sumK k l := if_pos h
theorem Good.bd (h : Good cap most q) (k : Int) : 0 ≤ sumD (fS k) q.2.2 ∧ sumD (fS k) q.2.2 ≤ sumD (tS k) q.2.2 :=
  ⟨sumD_nonneg fun x hx => (vec_bound (h.ok x hx).2.1).1, sumD_le fun x hx => holds_sum (h.ok x hx).1 (h.ok x hx).2.1 (h.ok x hx).2.2 k⟩
theorem sb_all {f g : Int → Int} (h : ∀ k, 0 ≤ g k ∧ g k ≤ f k) (hm : f 0 ≤ 9007199254740992 ∧ f 1 ≤ 9007199254740992 ∧ f 2 ≤ 9007199254740992 ∧ f 3 ≤ 9007199254740992) : sbE (all4 f) (all4 g) = all4 fun k => f k - g k := by
  unfold sbE
  rw [if_pos]
  · rfl
  · have h0 := h 0; have h1 := h 1; have h2 := h 2; have h3 := h 3
    unfold sbC sumH sumR all4
    simp only
    omega
theorem ad_all {f g : Int → Int} (h : ∀ k, 0 ≤ f k ∧ 0 ≤ g k) (hm : f 0 + g 0 ≤ 9007199254740992 ∧ f 1 + g 1 ≤ 9007199254740992 ∧ f 2 + g 2 ≤ 9007199254740992 ∧ f 3 + g 3 ≤ 9007199254740992) : adE (all4 f) (all4 g) = (all4 fun k => f k + g k) ∧ addC (all4 f) (all4 g) := by
  have hc : addC (all4 f) (all4 g) := by
    have h0 := h 0; have h1 := h 1; have h2 := h 2; have h3 := h 3
    unfold addC sumR all4
    simp only
    omega
  unfold adE
  rw [if_pos hc]
  exact ⟨rfl, hc⟩
theorem all4_congr {f g : Int → Int} (h : ∀ k, f k = g k) : all4 f = all4 g := by rw [show f = g from funext h]
/-- The sums, as one agent changes. -/
theorem Good.frE (h : Good cap most q) {i : Int} {T F T' F' : List PartT} (hx : mget i q.2.2 = some (T, F)) (h1 : vecB T' = true) (h2 : vecB F' = true) (h3 : (vsub T' F').isSome = true) (he : ofA T' = ofA T) :
    adE (sbE q.2.1 (ofA F)) (ofA F') = all4 (fun k => sumD (fS k) q.2.2 - sumK k F + sumK k F') ∧ sbE q.2.1 (ofA F) = all4 (fun k => sumD (fS k) q.2.2 - sumK k F) ∧ addC (sbE q.2.1 (ofA F)) (ofA F') := by
  obtain ⟨k1, k2, k3⟩ := h.ok _ (mem_of_mget hx)
  simp only at k1 k2 k3
  have hsT := fun k => sumD_mdel (f := tS k) hx
  have hsF := fun k => sumD_mdel (f := fS k) hx
  have nT : ∀ k, 0 ≤ sumD (tS k) (mdel i q.2.2) := fun k => sumD_nonneg fun x hx => (vec_bound (h.ok x (mem_mdelA hx)).1).1
  have nF : ∀ k, 0 ≤ sumD (fS k) (mdel i q.2.2) ∧ sumD (fS k) (mdel i q.2.2) ≤ sumD (tS k) (mdel i q.2.2) := fun k => ⟨sumD_nonneg fun x hx => (vec_bound (h.ok x (mem_mdelA hx)).2.1).1, sumD_le fun x hx => holds_sum (h.ok x (mem_mdelA hx)).1 (h.ok x (mem_mdelA hx)).2.1 (h.ok x (mem_mdelA hx)).2.2 k⟩
  have bF := fun k => vec_bound (k := k) k2
  have bF' := fun k => vec_bound (k := k) h2
  have hF'T := fun k => holds_sum h1 h2 h3 k
  have hm := h.mo
  have hmm := h.mm
  rw [ofA_all h1, ofA_all k1] at he
  unfold all4 at he
  simp only [Prod.mk.injEq] at he
  obtain ⟨e0, e1, e2, e3⟩ := he
  simp only [tS, fS] at hsT hsF
  have a0 := hsT 0; have a1 := hsT 1; have a2 := hsT 2; have a3 := hsT 3
  have b0 := hsF 0; have b1 := hsF 1; have b2 := hsF 2; have b3 := hsF 3
  have c0 := nF 0; have c1 := nF 1; have c2 := nF 2; have c3 := nF 3
  have d0 := hF'T 0; have d1 := hF'T 1; have d2 := hF'T 2; have d3 := hF'T 3
  have f0 := bF 0; have f1 := bF 1; have f2 := bF 2; have f3 := bF 3
  have g0 := h.bd 0; have g1 := h.bd 1; have g2 := h.bd 2; have g3 := h.bd 3
  have hsb : sbE q.2.1 (ofA F) = all4 fun k => sumD (fS k) q.2.2 - sumK k F := by
    rw [h.fr, ofA_all k2]
    refine sb_all (fun k => ⟨(bF k).1, ?_⟩) (by omega)
    have := hsF k
    have := nF k
    omega
  have had := ad_all (f := fun k => sumD (fS k) q.2.2 - sumK k F) (g := fun k => sumK k F') (fun k => ⟨by have := hsF k; have := nF k; omega, (bF' k).1⟩) (by first | omega | (simp only; omega))
  rw [hsb, ofA_all h2]
  exact ⟨had.1, rfl, had.2⟩
theorem Good.repl (h : Good cap most q) {i : Int} {T F T' F' : List PartT} (hx : mget i q.2.2 = some (T, F)) (h1 : vecB T' = true) (h2 : vecB F' = true) (h3 : (vsub T' F').isSome = true) (he : ofA T' = ofA T) : Good cap most (q.1, adE (sbE q.2.1 (ofA F)) (ofA F'), setD q.2.2 i (T', F')) := by
  have hfr := (h.frE hx h1 h2 h3 he).1
  obtain ⟨k1, k2, k3⟩ := h.ok _ (mem_of_mget hx)
  simp only at k1 k2 k3
  have hsT := fun k => sumD_mdel (f := tS k) hx
  have hsF := fun k => sumD_mdel (f := fS k) hx
  have tT := fun k => sumD_setD (f := tS k) (d := (T', F')) h.nd hx
  have tF := fun k => sumD_setD (f := fS k) (d := (T', F')) h.nd hx
  rw [ofA_all h1, ofA_all k1] at he
  unfold all4 at he
  simp only [Prod.mk.injEq] at he
  obtain ⟨e0, e1, e2, e3⟩ := he
  simp only [tS, fS] at hsT hsF tT tF
  have a0 := hsT 0; have a1 := hsT 1; have a2 := hsT 2; have a3 := hsT 3
  have b0 := tT 0; have b1 := tT 1; have b2 := tT 2; have b3 := tT 3
  have m0 : sumD (tS 0) (setD q.2.2 i (T', F')) = sumD (tS 0) q.2.2 := by omega
  have m1 : sumD (tS 1) (setD q.2.2 i (T', F')) = sumD (tS 1) q.2.2 := by omega
  have m2 : sumD (tS 2) (setD q.2.2 i (T', F')) = sumD (tS 2) q.2.2 := by omega
  have m3 : sumD (tS 3) (setD q.2.2 i (T', F')) = sumD (tS 3) q.2.2 := by omega
  refine ⟨?_, ?_, fun x hx2 => ?_, ?_, ?_, ?_, h.mm⟩
  · rw [setD_keys]; exact h.nd
  · simp only
    unfold setD
    rw [List.length_map]
    exact h.lc
  · rcases mem_setD hx2 with rfl | hx2
    · exact ⟨h1, h2, h3⟩
    · exact h.ok x hx2
  · rw [h.su]
    unfold all4
    simp only
    rw [m0, m1, m2, m3]
  · rw [hfr]
    simp only
    refine all4_congr fun k => ?_
    have := hsF k
    have := tF k
    first | omega | (simp only [fS]; omega)
  · simp only
    rw [m0, m1, m2, m3]
    exact h.mo
theorem Good.lose (h : Good cap most q) {i : Int} {T F : List PartT} (hx : mget i q.2.2 = some (T, F)) : Good cap most (sbE q.1 (ofA T), sbE q.2.1 (ofA F), mdel i q.2.2) := by
  obtain ⟨k1, k2, k3⟩ := h.ok _ (mem_of_mget hx)
  simp only at k1 k2 k3
  have hsT := fun k => sumD_mdel (f := tS k) hx
  have hsF := fun k => sumD_mdel (f := fS k) hx
  have nT : ∀ k, 0 ≤ sumD (tS k) (mdel i q.2.2) := fun k => sumD_nonneg fun x hx => (vec_bound (h.ok x (mem_mdelA hx)).1).1
  have nF : ∀ k, 0 ≤ sumD (fS k) (mdel i q.2.2) := fun k => sumD_nonneg fun x hx => (vec_bound (h.ok x (mem_mdelA hx)).2.1).1
  have bT := fun k => vec_bound (k := k) k1
  have bF := fun k => vec_bound (k := k) k2
  have hm := h.mo
  have hmm := h.mm
  simp only [tS, fS] at hsT hsF
  have a0 := hsT 0; have a1 := hsT 1; have a2 := hsT 2; have a3 := hsT 3
  have g0 := h.bd 0; have g1 := h.bd 1; have g2 := h.bd 2; have g3 := h.bd 3
  have f0 := bT 0; have f1 := bT 1; have f2 := bT 2; have f3 := bT 3
  refine ⟨mdel_nodup h.nd, ?_, fun x hx => h.ok x (mem_mdelA hx), ?_, ?_, ?_, hmm⟩
  · have := h.lc
    simp only
    rw [mdel_length]
    split <;> omega
  · rw [h.su, ofA_all k1, sb_all (fun k => ⟨(bT k).1, by have := hsT k; have := nT k; first | omega | (simp only [tS]; omega)⟩) (by first | omega | (simp only; omega))]
    simp only
    refine all4_congr fun k => ?_
    have := hsT k
    first | omega | (simp only [tS]; omega)
  · rw [h.fr, ofA_all k2, sb_all (fun k => ⟨(bF k).1, by have := hsF k; have := nF k; first | omega | (simp only [fS]; omega)⟩) (by first | omega | (simp only; omega))]
    simp only
    refine all4_congr fun k => ?_
    have := hsF k
    first | omega | (simp only [fS]; omega)
  · simp only
    omega
theorem mx4_le {s : Ar4} (h : mx4 s ≤ most) : s.1 ≤ most ∧ s.2.1 ≤ most ∧ s.2.2.1 ≤ most ∧ s.2.2.2 ≤ most := by
  unfold mx4 maxG at h
  simp only [List.foldl_cons, List.foldl_nil] at h
  repeat' split at h
  all_goals omega
theorem vsub_self {V : List PartT} (h : vecB V = true) : (vsub V V).isSome = true := (vsub_iff h h).2 fun _ => Int.le_refl _
theorem Good.reg (h : Good cap most q) {i : Int} {V : List PartT} (hv : vecB V = true) (hno : mget i q.2.2 = none) (ha : addC q.1 (ofA V)) (hmx : mx4 (adE q.1 (ofA V)) ≤ most) (hl : (q.2.2.length : Int) < cap) : Good cap most (adE q.1 (ofA V), adE q.2.1 (ofA V), q.2.2 ++ [(i, (V, V))]) := by
  have h4 := mx4_le hmx
  unfold adE at h4
  rw [if_pos ha, h.su, ofA_all hv] at h4
  unfold addA all4 at h4
  simp only at h4
  have bV := fun k => vec_bound (k := k) hv
  have v0 := bV 0; have v1 := bV 1; have v2 := bV 2; have v3 := bV 3
  have g0 := h.bd 0; have g1 := h.bd 1; have g2 := h.bd 2; have g3 := h.bd 3
  have hmm := h.mm
  have one : ∀ f : Int × AgD → Int, sumD f [(i, (V, V))] = f (i, (V, V)) := fun f => by simp [sumD]
  refine ⟨?_, ?_, fun x hx => ?_, ?_, ?_, ?_, hmm⟩
  · simp only
    rw [List.map_append]
    refine List.nodup_append.2 ⟨h.nd, by simp, fun a ha b hb e => ?_⟩
    simp at hb
    subst hb
    exact mget_none.1 hno (e ▸ ha)
  · simp only [List.length_append, List.length_singleton]
    omega
  · rcases List.mem_append.1 hx with hx | hx
    · exact h.ok x hx
    · rw [List.mem_singleton] at hx
      subst hx
      exact ⟨hv, hv, vsub_self hv⟩
  · rw [h.su, ofA_all hv, (ad_all (fun k => ⟨by have := h.bd k; omega, (bV k).1⟩) (by first | omega | (simp only; omega))).1]
    simp only
    refine all4_congr fun k => ?_
    rw [sumD_append, one]
  · rw [h.fr, ofA_all hv, (ad_all (fun k => ⟨(h.bd k).1, (bV k).1⟩) (by first | omega | (simp only; omega))).1]
    simp only
    refine all4_congr fun k => ?_
    rw [sumD_append, one]
  · simp only [sumD_append, one, tS]
    exact h4
theorem holds_take {T F V F' : List PartT} (h1 : vecB T = true) (h2 : vecB F = true) (h3 : vecB V = true) (h : (vsub T F).isSome = true) (hs : vsub F V = some F') : vecB F' = true ∧ (vsub T F').isSome = true := by
  obtain ⟨h4, h5, _⟩ := vsub_amt h2 h3 hs
  refine ⟨h4, (vsub_iff h1 h4).2 fun s => ?_⟩
  have := (vsub_iff h1 h2).1 h s
  have := h5 s
  have := (amt_nonneg (s := s) (vecB_iff.1 h3).1).1
  omega
/-! ### What is done -/
def doD (cap most : Int) (q : AgQ) (k i : Int) (V Y : List PartT) : (Bool × Int) × AgQ :=
  if k = 0 then regD cap most q i V else if k = 1 then (((loseD q i).1, 0), (loseD q i).2) else if k = 2 then ((false, (takeD q i V).1), (takeD q i V).2) else if k = 3 then ((false, (giveD q i V).1), (giveD q i V).2) else ((false, (turnD q i V Y).1), (turnD q i V Y).2)
theorem Good.do (h : Good cap most q) (k i : Int) (V Y : List PartT) : Good cap most (doD cap most q k i V Y).2 ∧ ((doD cap most q k i V Y).2.2.2.length = q.2.2.length → (doD cap most q k i V Y).2.1 = q.1) := by
  have same : ∀ (i : Int) (d : AgD) (x y : Ar4), ((x, y, setD q.2.2 i d) : AgQ).2.2.length = q.2.2.length := fun i d x y => by simp [setD]
  unfold doD
  split
  · unfold regD
    split
    · exact ⟨h, fun _ => rfl⟩
    · rename_i hr
      split
      · split <;> exact ⟨h, fun _ => rfl⟩
      · rename_i hno
        split
        · exact ⟨h, fun _ => rfl⟩
        · rename_i hx
          split
          · exact ⟨h, fun _ => rfl⟩
          · rename_i hc
            have hv : vecB V = true := by
              cases hv : vecB V with
              | true => rfl
              | false => exact absurd (.inr (.inr hv)) hr
            refine ⟨h.reg hv hno (Classical.byContradiction fun hh => hx (.inl hh)) (Int.not_lt.1 fun hh => hx (.inr hh)) (by omega), fun e => ?_⟩
            simp at e
  split
  · unfold loseD
    split
    · exact ⟨h, fun _ => rfl⟩
    · rename_i d hx
      refine ⟨h.lose (T := d.1) (F := d.2) hx, fun e => ?_⟩
      simp only at e
      rw [mdel_length, hx, Option.isSome_some, if_pos rfl] at e
      have : 0 < q.2.2.length := List.length_pos_of_mem (mem_of_mget hx)
      omega
  split
  · unfold takeD
    split
    · exact ⟨h, fun _ => rfl⟩
    · rename_i d hx
      split
      · rename_i hc
        obtain ⟨F', hF'⟩ := Option.isSome_iff_exists.1 hc.2
        obtain ⟨k1, k2, k3⟩ := h.ok _ (mem_of_mget hx)
        obtain ⟨k4, k5⟩ := holds_take k1 k2 hc.1 k3 hF'
        rw [hF', vout_some]
        exact ⟨h.repl (T := d.1) (F := d.2) hx k1 k4 k5 rfl, fun _ => rfl⟩
      · exact ⟨h, fun _ => rfl⟩
  split
  · unfold giveD
    split
    · exact ⟨h, fun _ => rfl⟩
    · rename_i d hx
      split
      · rename_i hc
        split
        · rename_i hs
          obtain ⟨F', hF'⟩ := Option.isSome_iff_exists.1 hc.2
          obtain ⟨k1, k2, k3⟩ := h.ok _ (mem_of_mget hx)
          rw [hF', vout_some] at hs ⊢
          exact ⟨h.repl (T := d.1) (F := d.2) hx k1 (vadd_amt k2 hc.1 hF').1 hs rfl, fun _ => rfl⟩
        · exact ⟨h, fun _ => rfl⟩
      · exact ⟨h, fun _ => rfl⟩
  · unfold turnD
    split
    · exact ⟨h, fun _ => rfl⟩
    · rename_i d hx
      split
      · rename_i hc
        split
        · rename_i hs
          split
          · rename_i he
            obtain ⟨F', hF'⟩ := Option.isSome_iff_exists.1 hc.2
            obtain ⟨k1, k2, k3⟩ := h.ok _ (mem_of_mget hx)
            rw [hF', vout_some] at hs ⊢
            exact ⟨h.repl (T := d.1) (F := d.2) hx hs.1 (vadd_amt k2 hc.1 hF').1 hs.2 he, fun _ => rfl⟩
          · exact ⟨h, fun _ => rfl⟩
        · exact ⟨h, fun _ => rfl⟩
      · exact ⟨h, fun _ => rfl⟩
theorem Good.new (h1 : 1 ≤ cap) (h2 : 1 ≤ most) (h3 : most ≤ 9007199254740992) : Good cap most (zA, zA, []) :=
  ⟨by simp, by simp; omega, (fun _ h => by cases h), rfl, rfl, (by simp [sumD]; omega), h3⟩
end Go.Vc.J

/- Agents: acts; without a table. -/
set_option maxRecDepth 20000
set_option maxHeartbeats 1000000
namespace Go.Vc.J
open Go Go.Vc Go.Vc.V Go.RowKit Go.Proofs Vct

variable {w W W' W2 : World} {M N : Nat → Prop} {gs ds : List Nat} {g r : Nat} {cap most : Int} {B : Nat → Prop} {q : AgQ}

abbrev AcR := (Int × Int × List PartT × List PartT) × (Sl3 × Sl3)
abbrev acE (x : AcR) : List Value := [.int .i64 x.1.1, .int .i64 x.1.2.1, slV x.2.1, slV x.2.2]
structure CR (W : World) (L : List AcR) (a : Option Addr) (n c : Nat) : Prop where
  sl : SlE W 4 acE L a n c
  v1 : ∀ x ∈ L, SlE W 3 partE x.1.2.2.1 x.2.1.1 x.2.1.2.1 x.2.1.2.2
  v2 : ∀ x ∈ L, SlE W 3 partE x.1.2.2.2 x.2.2.1 x.2.2.2.1 x.2.2.2.2
theorem CR.keep {L : List AcR} {a : Option Addr} {n c : Nat} (h : CR W L a n c) (hk : KeepC W W') : CR W' L a n c := ⟨sle_keepC h.sl hk, fun x hx => sle_keepC (h.v1 x hx) hk, fun x hx => sle_keepC (h.v2 x hx) hk⟩
theorem c38 {L : List AcR} {a : Option Addr} {n c : Nat} (w : World) (h : CR w L a n c) : RetQ Try.prog 38 #[.slice a n c] w fun v _ => ∃ b : Bool, v = .bool b ∧ (b = true → L.length ≤ 80) := by
  intro R hR
  refine f38_calls a n c w R ?_
  unfold f38_vc
  have hn := h.sl.len_le
  have hl0 := h.sl.1
  refine ⟨fun v W' => At w [] W' ∧ ∃ i : Nat, v.2.1 = (i : Int) ∧ i ≤ L.length, fun v _ => (n - v.2.1).toNat, ⟨At.refl w, 0, rfl, Nat.zero_le _⟩, ?_⟩
  rintro x3 x4 w5 ⟨hA, i, hi, hil⟩
  simp only at hi
  subst hi
  refine brD (fun hlt => ?_) (fun hge => brD (fun hle => hR _ _ hA.below ⟨_, rfl, fun _ => by omega⟩) (fun hgt => hR _ _ hA.below ⟨_, rfl, fun e => by cases e⟩))
  obtain ⟨x, hx⟩ : ∃ x, L[i]? = some x := ⟨_, List.getElem?_eq_getElem (by omega)⟩
  obtain ⟨ad, g1, el, _⟩ := elt_at (P := Try.prog) (k := .i64) (t := 76) (h.sl.call hA.below) hx (e := 86) (by kernel_rfl) (by kernel_rfl)
  refine ⟨ad, g1, _, _, _, (el.sub (o := 2) (by decide)).one (by kernel_rfl) (by simp), ad, g1, _, _, _, (el.sub (o := 3) (by decide)).one (by kernel_rfl) (by simp), fun w14 hb14 => ?_⟩
  rw [succ_i i (by omega)]
  exact ⟨⟨hA.call hb14, i + 1, rfl, by omega⟩, by simp only; omega⟩
theorem c42 (h : AgX W B g cap most q) (k i : Int) {V Y : List PartT} {s1 s2 : Sl3} (hV : SlE W 3 partE V s1.1 s1.2.1 s1.2.2) (hY : SlE W 3 partE Y s2.1 s2.2.1 s2.2.2) (hVB : ∀ W', Chg B W W' → SlE W' 3 partE V s1.1 s1.2.1 s1.2.2) : RetF Try.prog 42 #[ptr g, .agg #[.int .i64 k, .int .i64 i, slV s1, slV s2]] W B fun v W' => v = biV (doD cap most q k i V Y).1 ∧ AgX W' (fun b => B b ∨ W.heap.size ≤ b) g cap most (doD cap most q k i V Y).2 := by
  intro R hR
  refine f42_calls _ _ _ _ _ _ _ _ _ W R ?_
  unfold f42_vc
  have h' := h.mono (B' := fun b => B b ∧ b < W.heap.size) fun b hb hB => ⟨hB, hb⟩
  have st : ∀ {n1 : Nat} {w2 : World}, Bel W w2 → Under [n1] w2 → AtF W (fun b => B b ∧ b < W.heap.size) [n1] w2 := fun hb hu => ⟨((AtF.refl W _).call hb).chg, hu⟩
  intro n1 hn1
  have hno : ∀ b ∈ [n1], ¬ (B b ∧ b < W.heap.size) := fun b hb hh => by simp at hb; omega
  have fin : ∀ {d : (Bool × Int) × AgQ} {w' : World}, doD cap most q k i V Y = d → AtF W (fun b => B b ∧ b < W.heap.size) [n1] w' → AgX w' (fun b => B b ∨ W.heap.size ≤ b) g cap most d.2 → R (.returned (biV d.1)) w' := fun e hA hX => hR _ _ (hA.chg.mono fun b _ hb => hb.1) (by rw [e]; exact ⟨rfl, hX⟩)
  have kv : ∀ {w2 w' : World}, Bel W w2 → Chg (fun b => B b ∧ b < W.heap.size) w2 w' → Chg B W w' := fun hb hc => (Chg.of_below (N := B) hb).trans hc fun b _ hh => hh.1
  refine brE (fun e0 w2 hb2 hu => ?_) (fun n0 => brE (fun e1 w7 hb hu => ?_) (fun n1' => brE (fun e2 w11 hb hu => ?_) (fun n2 => brE (fun e3 w15 hb hu => ?_) (fun n3 w19 hb hu => ?_))))
  · refine at_callF (st hb2 hu) (c44 (h'.call hb2) i (sle_keepC hV (KeepC.of_bel hb2)) fun W' hc => hVB W' (kv hb2 hc)) (fun b _ e => .inr e) hno fun v w4 hA hk hch ⟨e, hX⟩ => ?_
    subst e
    refine ⟨_, _, rfl, hk, fin (if_pos e0) hA (hX.mono fun b _ hh => ?_)⟩
    have := hb2.size
    rcases hh with hh | hh
    · exact .inl hh.1
    · exact .inr (by omega)
  · refine at_callF (st hb hu) (c46 (h'.call hb) i) (fun b _ e => .inr e) hno fun v w4 hA hk hch ⟨e, hX⟩ => ?_
    subst e
    exact ⟨_, rfl, hk, fin (d := (((loseD q i).1, 0), (loseD q i).2)) (by unfold doD; rw [if_neg n0, if_pos e1]) hA (hX.mono fun b _ hh => .inl hh.1)⟩
  · refine at_callF (st hb hu) (c45 (h'.call hb) i (sle_keepC hV (KeepC.of_bel hb))) (fun b _ e => .inr e) hno fun v w4 hA hk hch ⟨e, hX⟩ => ?_
    subst e
    exact ⟨_, rfl, hk, fin (d := ((false, (takeD q i V).1), (takeD q i V).2)) (by unfold doD; rw [if_neg n0, if_neg n1', if_pos e2]) hA (hX.mono fun b _ hh => .inl hh.1)⟩
  · refine at_callF (st hb hu) (c51 (h'.call hb) i (sle_keepC hV (KeepC.of_bel hb))) (fun b _ e => .inr e) hno fun v w4 hA hk hch ⟨e, hX⟩ => ?_
    subst e
    exact ⟨_, rfl, hk, fin (d := ((false, (giveD q i V).1), (giveD q i V).2)) (by unfold doD; rw [if_neg n0, if_neg n1', if_neg n2, if_pos e3]) hA (hX.mono fun b _ hh => .inl hh.1)⟩
  · refine at_callF (st hb hu) (c95 (h'.call hb) i (sle_keepC hV (KeepC.of_bel hb)) (sle_keepC hY (KeepC.of_bel hb))) (fun b _ e => .inr e) hno fun v w4 hA hk hch ⟨e, hX⟩ => ?_
    subst e
    exact ⟨_, rfl, hk, fin (d := ((false, (turnD q i V Y).1), (turnD q i V Y).2)) (by unfold doD; rw [if_neg n0, if_neg n1', if_neg n2, if_neg n3]) hA (hX.mono fun b _ hh => .inl hh.1)⟩
/-! ### Without a table -/
theorem c41n {t : Option Addr} (h : NoA W t) : Ret Try.prog 41 #[.pointer t] W (.slice none 0 0) := by
  intro R hR
  refine f41_calls _ W R ?_
  unfold f41_vc
  refine at_callb (At.refl W) (c90n h) fun w2 hA _ hb2 => ⟨_, rfl, brB (fun e => by cases e) (fun _ => ?_)⟩
  exact at_sortA (l := []) hA OwnL.nil (by decide) fun l' w' hA _ _ _ _ _ => ⟨rfl, leaf hR hA rfl⟩
theorem c44n {t : Option Addr} (i : Int) {a : Option Addr} {n c : Nat} (h : NoA W t) : Ret Try.prog 44 #[.pointer t, .int .i64 i, .slice a n c] W (biV (false, 40)) := by
  intro R hR
  refine f44_calls _ _ _ _ _ W R ?_
  unfold f44_vc
  refine at_callb (At.refl W) (c97n i h) fun w2 hA _ hb2 => ⟨_, _, rfl, fun _ _ => False, brE (fun _ => leaf hR hA rfl) (fun e => absurd rfl e), fun _ h => h.elim⟩
theorem c45n {t : Option Addr} (i : Int) {a : Option Addr} {n c : Nat} (h : NoA W t) : Ret Try.prog 45 #[.pointer t, .int .i64 i, .slice a n c] W (.int .i64 40) := by
  intro R hR
  refine f45_calls _ _ _ _ _ W R ?_
  unfold f45_vc
  exact at_callb (At.refl W) (c97n i h) fun w2 hA _ hb2 => ⟨_, _, rfl, brN (fun _ => leaf hR hA rfl) (fun e => absurd e (by decide))⟩
theorem c46n {t : Option Addr} (i : Int) (h : NoA W t) : Ret Try.prog 46 #[.pointer t, .int .i64 i] W (.bool false) := by
  intro R hR
  refine f46_calls _ _ W R ?_
  unfold f46_vc
  exact at_callb (At.refl W) (c97n i h) fun w2 hA _ hb2 => ⟨_, _, rfl, brN (fun _ => leaf hR hA rfl) (fun e => absurd e (by decide))⟩
/-! ### works -/
abbrev v4 : List PartT := [(0, 0, 4)]
abbrev v3 : List PartT := [(0, 0, 3)]
abbrev v6 : List PartT := [(0, 0, 6)]
abbrev q1 : AgQ := ((4, 0, 0, 0), (4, 0, 0, 0), [(1, (v4, v4))])
abbrev q2 : AgQ := ((4, 0, 0, 0), (1, 0, 0, 0), [(1, (v4, [(0, 0, 1)]))])
theorem w_va : vadd [(0, 0, 1)] v4 = some [(0, 0, 5)] := by
  rw [vadd_eq (by decide) (by decide), if_pos (by decide), vadd_nil]
  rfl
theorem c47 (w : World) : Ret Try.prog 47 #[] w (.bool true) := by
  intro R hR
  refine f47_calls w R ?_
  unfold f47_vc
  refine at_callq (At.refl w) (c39 2 9 w) fun v w2 hA _ hb2 hq => ?_
  rcases hq with ⟨hlt, _⟩ | ⟨_, g, r, e, ht, hg, hr⟩
  · exact absurd hlt (by decide)
  subst e
  refine ⟨_, rfl, ?_⟩
  have hX : AgX w2 (fun b => w.heap.size ≤ b ∧ b < w2.heap.size) g 2 9 (zA, zA, []) := ⟨r, [], ht, rfl, by
    rintro b (rfl | rfl | ⟨x, hx, _⟩)
    · exact ⟨hg, ht.glt⟩
    · exact ⟨hr, ht.rlt⟩
    · cases hx⟩
  refine opw_litL (e' := 73) (f := partE) (size := 3) (l := v4) hA rfl (fun _ _ => rfl) (by decide) (by kernel_rfl) fun g4 w5 hg4 hA _ hb5 ho4 => ⟨_, _, _, rfl, ?_⟩
  refine opw_litL (e' := 73) (f := partE) (size := 3) (l := v3) hA rfl (fun _ _ => rfl) (by decide) (by kernel_rfl) fun g3 w10 hg3 hA _ hb10 ho3 => ⟨_, _, _, rfl, ?_⟩
  have hs4 := (ho4.call hb10).sl fun _ _ => rfl
  have hs3 := ho3.sl fun _ _ => rfl
  have e5 := hb5.size
  have kp : ∀ {V : List PartT} {a : Nat} {W1 W2 : World}, w2.heap.size ≤ a → SlE W1 3 partE V (some ⟨a, 0, none⟩) 1 1 → Chg (fun b => w.heap.size ≤ b ∧ b < w2.heap.size) W1 W2 → SlE W2 3 partE V (some ⟨a, 0, none⟩) 1 1 := fun ha hs hc => sle_chg hs hc fun b hb hn => by
    cases hb
    simp only at hn
    omega
  have mo : ∀ {W1 W0 : World} {q : AgQ}, w10.heap.size ≤ W0.heap.size → AgX W1 (fun b => (w.heap.size ≤ b ∧ b < w2.heap.size) ∨ W0.heap.size ≤ b) g 2 9 q → AgX W1 (fun b => w.heap.size ≤ b ∧ (b < w2.heap.size ∨ w10.heap.size ≤ b)) g 2 9 q := fun hs hx => hx.mono fun b _ hb => by
    have := hb2.size
    have := hb10.size
    rcases hb with ⟨h1, h2⟩ | h1
    · exact ⟨h1, .inl h2⟩
    · exact ⟨by omega, .inr (by omega)⟩
  have f1 : regD 2 9 (zA, zA, []) 1 v4 = ((true, 0), q1) := by kernel_rfl
  have f2 : regD 2 9 q1 1 v4 = ((false, 0), q1) := by kernel_rfl
  have f3 : regD 2 9 q1 2 v6 = ((false, 31), q1) := by kernel_rfl
  have f4 : takeD q1 1 v3 = (0, q2) := by kernel_rfl
  have f5 : giveD q2 1 v4 = (31, q2) := by
    unfold giveD
    rw [show mget (1 : Int) q2.2.2 = some (v4, [(0, 0, 1)]) from by kernel_rfl]
    simp only
    rw [w_va]
    kernel_rfl
  have hc1 := c44 ((hX.call hb5).call hb10) 1 hs4 fun W' hc => kp hg4 hs4 hc
  rw [f1] at hc1
  refine at_callF hA hc1 (fun b _ e => .inl e.1) (fun _ hb => by cases hb) fun v w15 hA hk hch ⟨e, hX⟩ => ?_
  subst e
  refine ⟨_, _, rfl, ?_⟩
  have hX := mo (Nat.le_refl _) hX
  have kp2 : ∀ {V : List PartT} {a : Nat} {W1 W2 : World}, w2.heap.size ≤ a → a < w10.heap.size → SlE W1 3 partE V (some ⟨a, 0, none⟩) 1 1 → Chg (fun b => w.heap.size ≤ b ∧ (b < w2.heap.size ∨ w10.heap.size ≤ b)) W1 W2 → SlE W2 3 partE V (some ⟨a, 0, none⟩) 1 1 := fun ha hb hs hc => sle_chg hs hc fun b hb hn => by
    cases hb
    simp only at hn
    omega
  have l4 : g4 < w10.heap.size := (ho4.call hb10).lt g4 rfl
  have l3 : g3 < w10.heap.size := ho3.lt g3 rfl
  have hs4 := kp hg4 hs4 hch
  have hs3 := kp (by omega) hs3 hch
  have hc2 := c44 hX 1 hs4 fun W' hc => kp2 hg4 l4 hs4 hc
  rw [f2] at hc2
  have s15 := hch.size
  refine at_callF hA hc2 (fun b _ e => .inl e.1) (fun _ hb => by cases hb) fun v w19 hA hk hch2 ⟨e, hX⟩ => ?_
  subst e
  refine ⟨_, _, rfl, ?_⟩
  have hs4 := kp2 hg4 l4 hs4 hch2
  have hs3 := kp2 (by omega) l3 hs3 hch2
  have hX : AgX w19 (fun b => w.heap.size ≤ b ∧ (b < w2.heap.size ∨ w10.heap.size ≤ b)) g 2 9 q1 := hX.mono fun b _ hb => by
    rcases hb with h | h
    · exact h
    · have := hb2.size; have := hb10.size; exact ⟨by omega, .inr (by omega)⟩
  refine opw_litL (e' := 73) (f := partE) (size := 3) (l := v6) hA rfl (fun _ _ => rfl) (by decide) (by kernel_rfl) fun g6 w23 hg6 hA _ hb23 ho6 => ⟨_, _, _, rfl, ?_⟩
  have hs6 := ho6.sl fun _ _ => rfl
  have hs4 := hs4.call hb23
  have hs3 := hs3.call hb23
  have hX : AgX w23 (fun b => (w.heap.size ≤ b ∧ (b < w2.heap.size ∨ w10.heap.size ≤ b)) ∧ b < w19.heap.size) g 2 9 q1 := (hX.mono fun b hb hh => ⟨hh, hb⟩).call hb23
  have hc3 := c44 hX 2 hs6 fun W' hc => sle_chg hs6 hc fun b hb hn => by
    cases hb
    simp only at hn
    omega
  rw [f3] at hc3
  refine at_callF hA hc3 (fun b _ e => .inl e.1.1) (fun _ hb => by cases hb) fun v w28 hA hk hch3 ⟨e, hX⟩ => ?_
  subst e
  have hs4 := kp2 hg4 l4 hs4 (hch3.mono fun b _ h => h.1)
  have hs3 := kp2 (by omega) l3 hs3 (hch3.mono fun b _ h => h.1)
  have s19 := hch2.size
  have s23 := hb23.size
  have hX : AgX w28 (fun b => w.heap.size ≤ b ∧ (b < w2.heap.size ∨ w10.heap.size ≤ b)) g 2 9 q1 := hX.mono fun b _ hb => by
    rcases hb with h | h
    · exact h.1
    · have := hb2.size; have := hb10.size; exact ⟨by omega, .inr (by omega)⟩
  refine ⟨_, _, rfl, brB (fun _ => brE (fun _ => brNB (fun _ => brE (fun _ => brE (fun _ => ?_) (fun e => absurd rfl e)) (fun e => absurd rfl e)) (fun e => by cases e)) (fun e => absurd rfl e)) (fun e => by cases e)⟩
  have hc4 := c45 hX 1 hs3
  rw [f4] at hc4
  refine at_callF hA hc4 (fun b _ e => .inl e.1) (fun _ hb => by cases hb) fun v w32 hA hk hch4 ⟨e, hX⟩ => ?_
  subst e
  have hs4 := kp2 hg4 l4 hs4 hch4
  refine ⟨_, rfl, brE (fun _ => ?_) (fun e => absurd rfl e)⟩
  have hc5 := c51 hX 1 hs4
  rw [f5] at hc5
  refine at_callF hA hc5 (fun b _ e => .inl e.1) (fun _ hb => by cases hb) fun v w35 hA hk hch5 ⟨e, hX⟩ => ?_
  subst e
  refine ⟨_, rfl, brE (fun _ => ?_) (fun e => absurd rfl e)⟩
  obtain ⟨r, m, hS, _⟩ := hX
  refine at_callb hA (c40 hS) fun w38 hA hk hb38 => ⟨_, _, _, _, rfl, brB (fun _ => ?_) (fun e => by cases e)⟩
  exact at_callb hA (c48 (hS.call hb38)) fun w44 hA hk _ => ⟨_, _, _, _, rfl, leaf hR hA rfl⟩
end Go.Vc.J

/- The arguments of agents' laws, read: acts. -/
set_option maxRecDepth 20000
namespace Go.Vc.J
open Go Go.Vc Go.Vc.V Go.RowKit
abbrev aqG : GT := .st (.pair iG (.pair iG (.pair (.sl ptG) (.pair (.sl ptG) .unit))))
theorem aq_R {w : World} {x : aqG.T} {cs : List Value} (h : aqG.R w x cs) : ∃ y : AcR, cs = acE y ∧ SlE w 3 partE y.1.2.2.1 y.2.1.1 y.2.1.2.1 y.2.1.2.2 ∧ SlE w 3 partE y.1.2.2.2 y.2.2.1 y.2.2.2.1 y.2.2.2.2 := by
  obtain ⟨c1, c2, rfl, ⟨rfl, _, _⟩, c3, c4, rfl, ⟨rfl, _, _⟩, c5, c6, rfl, ⟨a, n, c, rfl, hs⟩, c7, c8, rfl, ⟨a2, n2, c2, rfl, hs2⟩, rfl⟩ := h
  exact ⟨((x.1, x.2.1, x.2.2.1.map ptOf, x.2.2.2.1.map ptOf), ((a, n, c), (a2, n2, c2))), rfl, row_M hs fun _ _ => pt_R, row_M hs2 fun _ _ => pt_R⟩
theorem aqs_V {w : World} {l : (GT.sl aqG).T} {v : Value} (h : GT.V w (.sl aqG) l v) : ∃ L a n c, v = .slice a n c ∧ CR w L a n c := by
  obtain ⟨a, n, c, hv, hs⟩ := h
  simp at hv
  obtain ⟨L, h1, h2⟩ := row_C hs (R' := fun y cs => cs = acE y) (Q := fun y => SlE w 3 partE y.1.2.2.1 y.2.1.1 y.2.1.2.1 y.2.1.2.2 ∧ SlE w 3 partE y.1.2.2.2 y.2.2.1 y.2.2.2.1 y.2.2.2.2) fun _ _ => aq_R
  exact ⟨L, a, n, c, hv, h1, fun x hx => (h2 x hx).1, fun x hx => (h2 x hx).2⟩
end Go.Vc.J

/- The formulas of functions, printed by a program (VcTool.lean): each is what the generator's formula comes to, by the kernel's reckoning; whoever proves one has the function's contract. -/
set_option maxRecDepth 100000
set_option maxHeartbeats 1000000
set_option linter.unusedVariables false
namespace Vct
open Go Go.Vc Go.RowKit
/-! manciple/manciplelaw22.AgentsBack -/
def h8 : Hints := ⟨[10, 12], [32], [21, 26, 44, 66, 17, 55, 60, 71, 77], [(15, [0, 2, 1, 3, 4, 5, 7, 6, 8, 9, 10, 11, 12, 13])], [], [(5, ⟨[(8, .int .i64)], []⟩)], [], [], []⟩
def f8_vc (la : Option Addr) (ln : Nat) (lc : Nat) (id : Int) (va : Option Addr) (vn : Nat) (vc : Nat) (w : World) (R : Ending → World → Prop) : Prop :=
 Calls Proofs.Try.prog 38 #[Value.slice la ln lc] w fun (e1 : Ending) (w2 : World) =>
 ∃ (b3 : Bool),
 e1 = Ending.returned (Value.bool b3) ∧
 ((!b3) = true → R (Ending.returned (Value.bool true)) w2) ∧
 ((!b3) = false →
 (decide ((↑vn : Int) > 150) = true → R (Ending.returned (Value.bool true)) w2) ∧
 (decide ((↑vn : Int) > 150) = false →
 Calls Proofs.Try.prog 39 #[Value.int IntKind.i64 4, Value.int IntKind.i64 9007199254740992] w2 fun (e4 : Ending) (w5 : World) =>
 ∃ (a6 : Option Addr),
 e4 = Ending.returned (Value.pointer a6) ∧
 ∃ (J7 : Int × Unit → World → Prop),
 ∃ (J8 : Int × Unit → World → Nat),
 J7 (0, ()) w5 ∧
 ∀ (x9 : Int) (w10 : World),
 J7 (x9, ()) w10 →
 (decide (x9 < (↑ln : Int)) = true →
 ∃ (ad11 : Addr),
 Gives Proofs.Try.prog (Instr.indexAt 76 (Value.slice la ln lc) (Value.int IntKind.i64 x9)) (Value.pointer (some ad11)) ∧
 ∃ (x12 : Int),
 ∃ (x13 : Int),
 ∃ (a14 : Option Addr),
 ∃ (n15 : Nat),
 ∃ (n16 : Nat),
 ∃ (a17 : Option Addr),
 ∃ (n18 : Nat),
 ∃ (n19 : Nat),
 Reads Proofs.Try.prog [] (Instr.loadAt 86 (Value.pointer (some ad11))) w10
 (Value.agg #[Value.int IntKind.i64 x12, Value.int IntKind.i64 x13, Value.slice a14 n15 n16, Value.slice a17 n18 n19]) ∧
 Calls Proofs.Try.prog 42 #[Value.pointer a6, Value.agg #[Value.int IntKind.i64 x12, Value.int IntKind.i64 x13, Value.slice a14 n15 n16, Value.slice a17 n18 n19]] w10
 fun (e20 : Ending) (w21 : World) =>
 ∃ (b22 : Bool),
 ∃ (x23 : Int),
 e20 = Ending.returned (Value.tuple #[Value.bool b22, Value.int IntKind.i64 x23]) ∧
 J7 (IntKind.i64.wrap (x9 + 1), ()) w21 ∧ J8 (IntKind.i64.wrap (x9 + 1), ()) w21 < J8 (x9, ()) w10) ∧
 (decide (x9 < (↑ln : Int)) = false →
 Calls Proofs.Try.prog 41 #[Value.pointer a6] w10 fun (e24 : Ending) (w25 : World) =>
 ∃ (a26 : Option Addr),
 ∃ (n27 : Nat),
 ∃ (n28 : Nat),
 e24 = Ending.returned (Value.slice a26 n27 n28) ∧
 Calls Proofs.Try.prog 48 #[Value.pointer a6] w25 fun (e29 : Ending) (w30 : World) =>
 ∃ (x31 : Int),
 ∃ (x32 : Int),
 ∃ (x33 : Int),
 ∃ (x34 : Int),
 e29 = Ending.returned (Value.agg #[Value.int IntKind.i64 x31, Value.int IntKind.i64 x32, Value.int IntKind.i64 x33, Value.int IntKind.i64 x34]) ∧
 ∀ (n35 : Nat),
 w30.heap.size ≤ n35 →
 ∀ (w36 : World),
 Evo [n35] w30 w36 →
 Under [n35] w36 →
 Calls Proofs.Try.prog 45 #[Value.pointer a6, Value.int IntKind.i64 id, Value.slice va vn vc] w36 fun (e37 : Ending) (w38 : World) =>
 ∃ (x39 : Int),
 e37 = Ending.returned (Value.int IntKind.i64 x39) ∧
 Keeps [n35] w36 w38 ∧
 ((x39 == 0) = true →
 Calls Proofs.Try.prog 48 #[Value.pointer a6] w38 fun (e40 : Ending) (w41 : World) =>
 ∃ (x42 : Int),
 ∃ (x43 : Int),
 ∃ (x44 : Int),
 ∃ (x45 : Int),
 e40 = Ending.returned (Value.agg #[Value.int IntKind.i64 x42, Value.int IntKind.i64 x43, Value.int IntKind.i64 x44, Value.int IntKind.i64 x45]) ∧
 Keeps [n35] w38 w41 ∧
 Calls Proofs.Try.prog 50 #[Value.slice va vn vc] w41 fun (e46 : Ending) (w47 : World) =>
 ∃ (x48 : Int),
 ∃ (x49 : Int),
 ∃ (x50 : Int),
 ∃ (x51 : Int),
 e46 =
 Ending.returned
 (Value.agg #[Value.int IntKind.i64 x48, Value.int IntKind.i64 x49, Value.int IntKind.i64 x50, Value.int IntKind.i64 x51]) ∧
 Keeps [n35] w41 w47 ∧
 Calls Proofs.Try.prog 49
 #[Value.agg #[Value.int IntKind.i64 x42, Value.int IntKind.i64 x43, Value.int IntKind.i64 x44, Value.int IntKind.i64 x45],
 Value.agg #[Value.int IntKind.i64 x48, Value.int IntKind.i64 x49, Value.int IntKind.i64 x50, Value.int IntKind.i64 x51]]
 w47 fun (e52 : Ending) (w53 : World) =>
 ∃ (x54 : Int),
 ∃ (x55 : Int),
 ∃ (x56 : Int),
 ∃ (x57 : Int),
 ∃ (b58 : Bool),
 e52 =
 Ending.returned
 (Value.tuple
 #[Value.agg
 #[Value.int IntKind.i64 x54, Value.int IntKind.i64 x55, Value.int IntKind.i64 x56, Value.int IntKind.i64 x57],
 Value.bool b58]) ∧
 Keeps [n35] w47 w53 ∧
 ∀ (n59 : Nat),
 w53.heap.size ≤ n59 →
 ((!b58) = true →
 ∀ (w60 : World), Evo [n59] w53 w60 → Under [n35, n59] w60 → R (Ending.returned (Value.bool false)) w60) ∧
 ((!b58) = false →
 ((!(x54 == x31 && (x55 == x32 && (x56 == x33 && (x57 == x34 && true))))) = true →
 ∀ (w61 : World), Evo [n59] w53 w61 → Under [n35, n59] w61 → R (Ending.returned (Value.bool false)) w61) ∧
 ((!(x54 == x31 && (x55 == x32 && (x56 == x33 && (x57 == x34 && true))))) = false →
 ∀ (w62 : World),
 Evo [n59] w53 w62 →
 Under [n35, n59] w62 →
 Calls Proofs.Try.prog 51 #[Value.pointer a6, Value.int IntKind.i64 id, Value.slice va vn vc] w62
 fun (e63 : Ending) (w64 : World) =>
 ∃ (x65 : Int),
 e63 = Ending.returned (Value.int IntKind.i64 x65) ∧
 Keeps [n35, n59] w62 w64 ∧
 ((x65 != 0) = true → R (Ending.returned (Value.bool false)) w64) ∧
 ((x65 != 0) = false →
 ∀ (w66 : World),
 Bel w64 w66 →
 Under [n35, n59] w66 →
 Calls Proofs.Try.prog 41 #[Value.pointer a6] w66
 fun (e67 : Ending) (w68 : World) =>
 ∃ (a69 : Option Addr),
 ∃ (n70 : Nat),
 ∃ (n71 : Nat),
 e67 = Ending.returned (Value.slice a69 n70 n71) ∧
 Keeps [n35, n59] w66 w68 ∧
 Calls Proofs.Try.prog 52
 #[Value.slice a69 n70 n71, Value.slice a26 n27 n28] w68
 fun (e72 : Ending) (w73 : World) =>
 ∃ (b74 : Bool),
 e72 = Ending.returned (Value.bool b74) ∧
 Keeps [n35, n59] w68 w73 ∧
 (b74 = true →
 Calls Proofs.Try.prog 48 #[Value.pointer a6] w73
 fun (e75 : Ending) (w76 : World) =>
 ∃ (x77 : Int),
 ∃ (x78 : Int),
 ∃ (x79 : Int),
 ∃ (x80 : Int),
 e75 =
 Ending.returned
 (Value.agg
 #[Value.int IntKind.i64 x77,
 Value.int IntKind.i64 x78,
 Value.int IntKind.i64 x79,
 Value.int IntKind.i64 x80]) ∧
 Keeps [n35, n59] w73 w76 ∧
 ((x77 == x31 &&
 (x78 == x32 &&
 (x79 == x33 &&
 (x80 == x34 && true)))) =
 true →
 Calls Proofs.Try.prog 47 #[] w76
 fun (e81 : Ending) (w82 : World) =>
 ∃ (b83 : Bool),
 e81 =
 Ending.returned
 (Value.bool b83) ∧
 Keeps [n35, n59] w76 w82 ∧
 R
 (Ending.returned
 (Value.bool b83))
 w82) ∧
 ((x77 == x31 &&
 (x78 == x32 &&
 (x79 == x33 &&
 (x80 == x34 && true)))) =
 false →
 R (Ending.returned (Value.bool false))
 w76)) ∧
 (b74 = false →
 R (Ending.returned (Value.bool false)) w73))))) ∧
 ((x39 == 0) = false →
 ∀ (w84 : World),
 Bel w38 w84 →
 Under [n35] w84 →
 Calls Proofs.Try.prog 41 #[Value.pointer a6] w84 fun (e85 : Ending) (w86 : World) =>
 ∃ (a87 : Option Addr),
 ∃ (n88 : Nat),
 ∃ (n89 : Nat),
 e85 = Ending.returned (Value.slice a87 n88 n89) ∧
 Keeps [n35] w84 w86 ∧
 Calls Proofs.Try.prog 52 #[Value.slice a87 n88 n89, Value.slice a26 n27 n28] w86 fun (e90 : Ending) (w91 : World) =>
 ∃ (b92 : Bool),
 e90 = Ending.returned (Value.bool b92) ∧
 Keeps [n35] w86 w91 ∧
 (b92 = true →
 Calls Proofs.Try.prog 48 #[Value.pointer a6] w91 fun (e93 : Ending) (w94 : World) =>
 ∃ (x95 : Int),
 ∃ (x96 : Int),
 ∃ (x97 : Int),
 ∃ (x98 : Int),
 e93 =
 Ending.returned
 (Value.agg
 #[Value.int IntKind.i64 x95, Value.int IntKind.i64 x96, Value.int IntKind.i64 x97, Value.int IntKind.i64 x98]) ∧
 Keeps [n35] w91 w94 ∧
 ((x95 == x31 && (x96 == x32 && (x97 == x33 && (x98 == x34 && true)))) = true →
 Calls Proofs.Try.prog 47 #[] w94 fun (e99 : Ending) (w100 : World) =>
 ∃ (b101 : Bool),
 e99 = Ending.returned (Value.bool b101) ∧ Keeps [n35] w94 w100 ∧ R (Ending.returned (Value.bool b101)) w100) ∧
 ((x95 == x31 && (x96 == x32 && (x97 == x33 && (x98 == x34 && true)))) = false →
 R (Ending.returned (Value.bool false)) w94)) ∧
 (b92 = false → R (Ending.returned (Value.bool false)) w91)))))
theorem f8_eq (la : Option Addr) (ln : Nat) (lc : Nat) (id : Int) (va : Option Addr) (vn : Nat) (vc : Nat) (w : World) (R : Ending → World → Prop) : (fnF Go.Proofs.Try.prog h8 Go.Proofs.Try.f8 [Value.slice la ln lc, Value.int IntKind.i64 id, Value.slice va vn vc] w R).den = f8_vc la ln lc id va vn vc w R := by kernel_rfl
theorem f8_calls (la : Option Addr) (ln : Nat) (lc : Nat) (id : Int) (va : Option Addr) (vn : Nat) (vc : Nat) (w : World) (R : Ending → World → Prop) (h : f8_vc la ln lc id va vn vc w R) : Calls Go.Proofs.Try.prog 8 (List.toArray [Value.slice la ln lc, Value.int IntKind.i64 id, Value.slice va vn vc]) w R :=
 fn_sound (H := h8) (fn := Go.Proofs.Try.f8) (by kernel_rfl) (by kernel_rfl) (by kernel_rfl) ((f8_eq la ln lc id va vn vc w R).mpr h)

end Vct

/- Agents: what is taken and given back. -/
set_option maxRecDepth 20000
set_option maxHeartbeats 1000000
namespace Go.Vc.J
open Go Go.Vc Go.Vc.V Go.RowKit Go.Proofs Vct

variable {w W W' W2 : World} {M N : Nat → Prop} {gs ds : List Nat} {g r : Nat} {cap most : Int} {B : Nat → Prop} {q : AgQ} {D : AgL}

/-! ### Plainly -/
theorem takeD_ne {i : Int} {V : List PartT} (h : (takeD q i V).1 ≠ 0) : (takeD q i V).2 = q := by
  unfold takeD at *
  split
  · rfl
  · rename_i d hd
    split
    · rename_i hc
      rw [hd] at h
      simp only at h
      rw [if_pos hc] at h
      exact absurd rfl h
    · rfl
theorem take_back (h : Good cap most q) {i : Int} {V : List PartT} (he : (takeD q i V).1 = 0) : vecB V = true ∧ addC (takeD q i V).2.2.1 (ofA V) ∧ adE (takeD q i V).2.2.1 (ofA V) = q.2.1 ∧ giveD (takeD q i V).2 i V = (0, q) := by
  unfold takeD at *
  cases hx : mget i q.2.2 with
  | none => rw [hx] at he; cases he
  | some d =>
    rw [hx] at he
    simp only at he ⊢
    by_cases hc : vecB V = true ∧ (vsub d.2 V).isSome = true
    · rw [if_pos hc]
      obtain ⟨F', hF'⟩ := Option.isSome_iff_exists.1 hc.2
      obtain ⟨k1, k2, k3⟩ := h.ok _ (mem_of_mget hx)
      simp only at k1 k2 k3
      obtain ⟨k4, k5⟩ := holds_take k1 k2 hc.1 k3 hF'
      obtain ⟨_, ha, hs⟩ := vsub_amt k2 hc.1 hF'
      rw [hF', vout_some]
      obtain ⟨e1, e2, e3⟩ := h.frE (T := d.1) (F := d.2) hx k1 k4 k5 rfl
      have hG := h.repl (T := d.1) (F := d.2) hx k1 k4 k5 rfl
      have hx1 : mget i (setD q.2.2 i (d.1, F')) = some (d.1, F') := mget_setD hx
      obtain ⟨E1, E2, E3⟩ := hG.frE (T := d.1) (F := F') (T' := d.1) (F' := d.2) hx1 k1 k2 k3 rfl
      have hsF := fun k => sumD_mdel (f := fS k) hx
      have tF := fun k => sumD_setD (f := fS k) (d := (d.1, F')) h.nd hx
      simp only [fS] at hsF tF
      have nF : ∀ k, 0 ≤ sumD (fS k) (mdel i q.2.2) := fun k => sumD_nonneg fun x hx => (vec_bound (h.ok x (mem_mdelA hx)).2.1).1
      have bV := fun k => vec_bound (k := k) hc.1
      have bF' := fun k => vec_bound (k := k) k4
      have g0 := h.bd 0; have g1 := h.bd 1; have g2 := h.bd 2; have g3 := h.bd 3
      have hm := h.mo
      have hmm := h.mm
      have s0 := hs 0; have s1 := hs 1; have s2 := hs 2; have s3 := hs 3
      have had := ad_all (f := fun k => sumD (fS k) q.2.2 - sumK k d.2 + sumK k F') (g := fun k => sumK k V) (fun k => ⟨by have := hsF k; have := nF k; have := (bF' k).1; have := (vec_bound (k := k) k2).1; omega, (bV k).1⟩) (by first | omega | (simp only; omega))
      refine ⟨hc.1, ?_, ?_, ?_⟩
      · rw [e1, ofA_all hc.1]; exact had.2
      · rw [e1, ofA_all hc.1, had.1, h.fr]
        refine all4_congr fun k => ?_
        have := hs k
        omega
      · unfold giveD
        simp only
        rw [hx1]
        simp only
        have hsum : (vadd F' V).isSome = true := (vadd_iff k4 hc.1).2 fun s => by
          have := ha s
          have := (amt_nonneg (s := s) (vecB_iff.1 k2).1).2
          show _ ≤ (9007199254740992 : Int)
          omega
        obtain ⟨G, hGe⟩ := Option.isSome_iff_exists.1 hsum
        obtain ⟨G1, G2, _⟩ := vadd_amt k4 hc.1 hGe
        have hGF : G = d.2 := vec_ext G1 k2 fun s => by
          have := G2 s
          have := ha s
          omega
        rw [if_pos ⟨hc.1, hsum⟩, hGe, vout_some, hGF, if_pos k3, E1, setD_setD, setD_same h.nd hx]
        have efr : (all4 fun k => sumD (fS k) (setD q.2.2 i (d.1, F')) - sumK k F' + sumK k d.2) = q.2.1 := by
          rw [h.fr]
          refine all4_congr fun k => ?_
          have := hsF k
          have := tF k
          first | omega | (simp only [fS]; omega)
        simp only
        rw [efr]
    · rw [if_neg hc] at he
      cases he
theorem rows_eq : ∀ {s t : AgL}, (s.Pairwise fun x y => x.1 < y.1) → (t.Pairwise fun x y => x.1 < y.1) → s.Perm t → s = t
  | [], t, _, _, h => by rw [List.nil_perm.1 h]
  | a :: s, [], _, _, h => by have := h.length_eq; simp at this
  | a :: s, b :: t, hs, ht, h => by
    have hs' := List.pairwise_cons.1 hs
    have ht' := List.pairwise_cons.1 ht
    have hab : a = b := by
      rcases List.mem_cons.1 (h.mem_iff.1 (List.mem_cons_self ..)) with e | m
      · exact e
      · rcases List.mem_cons.1 (h.mem_iff.2 (List.mem_cons_self ..)) with e | m2
        · exact e.symm
        · have h1 := ht'.1 a m
          have h2 := hs'.1 b m2
          omega
    subst hab
    rw [rows_eq hs'.2 ht'.2 (List.Perm.cons_inv h)]
theorem rows_srt {l : List AgR} (hn : (D.map (·.1)).Nodup) (hp : (l.map plR).Perm D) (hw : l.Pairwise fun x y => ¬ y.1 < x.1) : (l.map plR).Pairwise fun x y => x.1 < y.1 := by
  have hnd : ((l.map plR).map (·.1)).Nodup := (hp.map _).nodup_iff.2 hn
  have h1 : (l.map plR).Pairwise fun x y => ¬ y.1 < x.1 := List.pairwise_map.2 hw
  exact (h1.and (List.pairwise_map.1 hnd)).imp fun ⟨h, hne⟩ => by omega
/-! ### Rows of agents -/
structure RR (W : World) (L : List AgR) (a : Option Addr) (n c : Nat) : Prop where
  sl : SlE W 3 agRE L a n c
  v1 : ∀ x ∈ L, SlE W 3 partE x.2.1.1 x.2.2.1.1 x.2.2.1.2.1 x.2.2.1.2.2
  v2 : ∀ x ∈ L, SlE W 3 partE x.2.1.2 x.2.2.2.1 x.2.2.2.2.1 x.2.2.2.2.2
theorem RR.keep {L : List AgR} {a : Option Addr} {n c : Nat} (h : RR W L a n c) (hk : KeepC W W') : RR W' L a n c := ⟨sle_keepC h.sl hk, fun x hx => sle_keepC (h.v1 x hx) hk, fun x hx => sle_keepC (h.v2 x hx) hk⟩
theorem c52 {L1 L2 : List AgR} {a a2 : Option Addr} {n c n2 c2 : Nat} (W : World) (h1 : RR W L1 a n c) (h2 : RR W L2 a2 n2 c2) : Ret Try.prog 52 #[.slice a n c, .slice a2 n2 c2] W (.bool (decide (L1.map plR = L2.map plR))) := by
  intro R h
  refine f52_calls a n c a2 n2 c2 W R ?_
  unfold f52_vc
  have hn := h1.sl.len_le
  have e1 := h1.sl.1
  have e2 := h2.sl.1
  refine brN (fun hne => leaf h (At.refl W) ?_) (fun heq => ?_)
  · rw [decide_eq_false fun e => hne (by have := congrArg List.length e; simp only [List.length_map] at this; rw [e1, e2, this])]
  · have hll : L1.length = L2.length := by omega
    refine ⟨fun s W' => At W [] W' ∧ ∃ i : Nat, s.1 = i ∧ i ≤ L1.length ∧ (L1.take i).map plR = (L2.take i).map plR, fun s _ => (n - s.1).toNat, ⟨At.refl W, 0, rfl, Nat.zero_le _, rfl⟩, ?_⟩
    rintro x3 w4 ⟨hA, i, hi, hil, ht⟩
    simp only at hi
    subst hi
    refine brD (fun hlt => ?_) (fun hge => leaf h hA ?_)
    · obtain ⟨x, hx⟩ : ∃ x, L1[i]? = some x := ⟨_, List.getElem?_eq_getElem (by omega)⟩
      obtain ⟨y, hy⟩ : ∃ x, L2[i]? = some x := ⟨_, List.getElem?_eq_getElem (by omega)⟩
      have r1 : ∀ {W'}, Bel W W' → ∃ ad, Gives Try.prog (Instr.indexAt 81 (.slice a n c) (.int .i64 (i : Int))) (.pointer (some ad)) ∧ Elt W' ad (agRE x) := fun hb => by
        obtain ⟨ad, g1, el, _⟩ := elt_at (P := Try.prog) (k := .i64) (t := 81) (h1.sl.call hb) hx (e := 89) (by kernel_rfl) (by kernel_rfl)
        exact ⟨ad, g1, el⟩
      have r2 : ∀ {W'}, Bel W W' → ∃ ad, Gives Try.prog (Instr.indexAt 81 (.slice a2 n2 c2) (.int .i64 (i : Int))) (.pointer (some ad)) ∧ Elt W' ad (agRE y) := fun hb => by
        obtain ⟨ad, g1, el, _⟩ := elt_at (P := Try.prog) (k := .i64) (t := 81) (h2.sl.call hb) hy (e := 89) (by kernel_rfl) (by kernel_rfl)
        exact ⟨ad, g1, el⟩
      have bad : ∀ {gs w'}, plR x ≠ plR y → At W gs w' → R (.returned (.bool false)) w' := fun hne hA => by
        rw [decide_eq_false fun e => hne (by
          have := congrArg (·[i]?) e
          simp only [List.getElem?_map, hx, hy, Option.map_some, Option.some.injEq] at this
          exact this)] at h
        exact leaf h hA rfl
      obtain ⟨ad, g1, el⟩ := r1 hA.below
      obtain ⟨ad2, g2, el2⟩ := r2 hA.below
      have hxm := List.mem_of_getElem? hx
      have hym := List.mem_of_getElem? hy
      refine ⟨ad, g1, _, el.one (by kernel_rfl) (by simp), ad2, g2, _, el2.one (by kernel_rfl) (by simp), brN (fun hne w9 hb9 => bad (fun e => hne (congrArg (·.1) e)) (hA.call hb9)) (fun q1 => ?_)⟩
      refine ⟨ad, g1, _, _, _, (el.sub (o := 1) (by decide)).one (by kernel_rfl) (by simp), ad2, g2, _, _, _, (el2.sub (o := 1) (by decide)).one (by kernel_rfl) (by simp), fun w18 hb18 => ?_⟩
      have hA := hA.call hb18
      refine at_callb hA (c82 w18 ((h1.v1 x hxm).call hA.below) ((h2.v1 y hym).call hA.below)) fun w20 hA hk hb20 => ⟨_, rfl, ?_⟩
      have e1' := el.below (hb18.trans hb20)
      have e2' := el2.below (hb18.trans hb20)
      refine ⟨e2'.one (by kernel_rfl) (by simp), e1'.one (by kernel_rfl) (by simp), brNB (fun hno => bad (fun e => of_decide_eq_false hno (congrArg (·.2.1) e)) hA) (fun hy1 => ?_)⟩
      refine ⟨ad, g1, _, _, _, (e1'.sub (o := 2) (by decide)).one (by kernel_rfl) (by simp), ad2, g2, _, _, _, (e2'.sub (o := 2) (by decide)).one (by kernel_rfl) (by simp), ?_⟩
      refine at_callb hA (c82 w20 ((h1.v2 x hxm).call hA.below) ((h2.v2 y hym).call hA.below)) fun w31 hA hk hb31 => ⟨_, rfl, ?_⟩
      refine ⟨(e2'.below hb31).one (by kernel_rfl) (by simp), (e1'.below hb31).one (by kernel_rfl) (by simp), brNB (fun hno => bad (fun e => of_decide_eq_false hno (congrArg (·.2.2) e)) hA) (fun hy2 => ?_)⟩
      rw [succ_i i (by omega)]
      refine ⟨⟨hA, i + 1, rfl, by omega, ?_⟩, by simp only; omega⟩
      have hxy : plR x = plR y := Prod.ext q1 (Prod.ext (of_decide_eq_true hy1) (of_decide_eq_true hy2))
      rw [List.take_add_one, List.take_add_one, hx, hy, List.map_append, List.map_append, ht]
      simp only [Option.toList_some, List.map_cons, List.map_nil, hxy]
    · rw [show i = L1.length by omega, List.take_length, hll, List.take_length] at ht
      rw [decide_eq_true ht]
/-- What All told stays. -/
theorem AN.low {W0 : World} {x : AgR} (h : AN W0 W x) (hc : Chg N W W') (hN : ∀ b, N b → b < W0.heap.size) : AN W0 W' x := by
  have one : ∀ {l : List PartT} {s : Sl3}, VN W0 W l s → VN W0 W' l s := fun {l s} hv => by
    have hno : ∀ ad, s.1 = some ad → ¬ N ad.block := fun ad hb hn => by
      have := hv.2 ad hb
      have := hN _ hn
      omega
    refine ⟨⟨sle_chg hv.1.1 hc hno, fun ad hb => ?_⟩, hv.2⟩
    obtain ⟨cur, hcur⟩ := hv.1.2 ad hb
    exact ⟨cur, (hc.block _ (Array.getElem?_eq_some_iff.1 hcur).1 (hno ad hb)).trans hcur⟩
  exact ⟨one h.1, one h.2⟩
theorem own_low {W0 : World} {l : List AgR} {v : Value} (h : OwnL W0 [] W 89 3 agRE v l) (hc : Chg N W W') (hN : ∀ b, N b → b < W0.heap.size) : OwnL W0 [] W' 89 3 agRE v l := h.chg hc fun k hk hn => by
  have := h.mine k hk
  have := hN k hn
  simp only [noB, or_false] at *
  omega
theorem an_rr {W0 : World} {l : List AgR} {a : Option Addr} {n c : Nat} (h : OwnL W0 [] W 89 3 agRE (.slice a n c) l) (hv : ∀ x ∈ l, AN W0 W x) : RR W l a n c := ⟨h.sl fun _ _ => rfl, fun x hx => (hv x hx).1.1.1, fun x hx => (hv x hx).2.1.1⟩
/-! ### The acts -/
theorem at_do {K : Ending → World → Prop} (hA : At w [] W) (h : AgX W (fun b => w.heap.size ≤ b) g cap most q) {L : List AcR} {a : Option Addr} {n c : Nat} (har : CR w L a n c) {x : AcR} (hx : x ∈ L)
    (hK : ∀ w', At w [] w' → AgX w' (fun b => w.heap.size ≤ b) g cap most (doD cap most q x.1.1 x.1.2.1 x.1.2.2.1 x.1.2.2.2).2 → K (.returned (biV (doD cap most q x.1.1 x.1.2.1 x.1.2.2.1 x.1.2.2.2).1)) w') : Calls Try.prog 42 #[ptr g, .agg #[.int .i64 x.1.1, .int .i64 x.1.2.1, slV x.2.1, slV x.2.2]] W K := by
  have hc := c42 h x.1.1 x.1.2.1 (sle_keepC (har.v1 x hx) (KeepC.of_bel hA.below)) (sle_keepC (har.v2 x hx) (KeepC.of_bel hA.below)) fun W' hc => sle_keepC (har.v1 x hx) (KeepC.of_bel (hA.step hc fun b _ h => .inl h).below)
  refine at_callF hA hc (fun b _ e => .inl e) (fun _ hb => by cases hb) fun v w' hA' hk hch ⟨e, hX⟩ => ?_
  subst e
  refine hK w' hA' (hX.mono fun b _ hb => ?_)
  have := hA.size
  rcases hb with h | h
  · exact h
  · omega
theorem law8 {acts : List AcR} {a : Option Addr} {n c : Nat} (id : Int) {V : List PartT} {va : Option Addr} {vn vc : Nat} (w : World) (har : CR w acts a n c) (hV : SlE w 3 partE V va vn vc) : Ret Try.prog 8 #[.slice a n c, .int .i64 id, .slice va vn vc] w (.bool true) := by
  intro R hR
  refine f8_calls a n c id va vn vc w R ?_
  unfold f8_vc
  have hn := har.sl.len_le
  have hl0 := har.sl.1
  refine at_callq (At.refl w) (c38 w har) fun v w2 hA _ hb2 ⟨b, e, hfew⟩ => ?_
  subst e
  refine ⟨_, rfl, brNB (fun _ => leaf hR hA rfl) (fun hb => brD (fun _ => leaf hR hA rfl) (fun _ => ?_))⟩
  have hfew := hfew hb
  refine at_callq hA (c39 4 9007199254740992 w2) fun v w5 hA _ hb5 hq => ?_
  rcases hq with ⟨hlt, _⟩ | ⟨_, g, r, e, ht, hg, hr⟩
  · exact absurd hlt (by decide)
  subst e
  have hs2 := hb2.size
  have hX : AgX w5 (fun b => w.heap.size ≤ b) g 4 9007199254740992 (zA, zA, []) := ⟨r, [], ht, rfl, by
    rintro b (rfl | rfl | ⟨x, hx, _⟩)
    · omega
    · omega
    · cases hx⟩
  refine ⟨_, rfl, fun v W' => At w [] W' ∧ ∃ (i : Nat) (q : AgQ), v.1 = i ∧ i ≤ acts.length ∧ AgX W' (fun b => w.heap.size ≤ b) g 4 9007199254740992 q ∧ Good 4 9007199254740992 q, fun v _ => (n - v.1).toNat, ⟨hA, 0, _, rfl, Nat.zero_le _, hX, Good.new (by decide) (by decide) (by decide)⟩, ?_⟩
  rintro x9 w10 ⟨hA, i, q, hi, hil, hX, hG⟩
  simp only at hi
  subst hi
  refine brD (fun hlt => ?_) (fun hge => ?_)
  · obtain ⟨x, hx⟩ : ∃ x, acts[i]? = some x := ⟨_, List.getElem?_eq_getElem (by omega)⟩
    obtain ⟨ad, g1, el, _⟩ := elt_at (P := Try.prog) (k := .i64) (t := 76) (har.sl.call hA.below) hx (e := 86) (by kernel_rfl) (by kernel_rfl)
    refine ⟨ad, g1, _, _, _, _, _, _, _, _, el.agg 4 (by kernel_rfl) (by kernel_rfl) (by simp) (by simp), ?_⟩
    refine at_do hA hX har (List.mem_of_getElem? hx) fun w21 hA hX => ⟨_, _, rfl, ?_⟩
    rw [succ_i i (by omega)]
    exact ⟨⟨hA, i + 1, _, rfl, by omega, hX, (hG.do _ _ _ _).1⟩, by simp only; omega⟩
  · have hlen : q.2.2.length ≤ 1000 := by have := hG.lc; omega
    have hX := hX.mono (B' := fun b => w.heap.size ≤ b ∧ b < w10.heap.size) fun b hb h => ⟨h, hb⟩
    refine at_callq hA (c41 hX hlen) fun v w25 hA _ hb25 ⟨l1, a1, k1, e, ho1, hv1, hp1, hw1⟩ => ?_
    subst e
    refine ⟨_, _, _, rfl, ?_⟩
    have hX := hX.call hb25
    obtain ⟨r', m', hS, hm1, hm2⟩ := hX
    refine at_callb hA (c48 hS) fun w30 hA _ hb30 => ⟨_, _, _, _, rfl, fun n35 hn35 w36 hev hu => ?_⟩
    have hs25 := hb25.size
    have hs30 := hb30.size
    have hb36 := hev.bel (by simpa using hn35)
    have hA := hA.evo (by have := hA.size; simp; omega) hev hu
    have hX : AgX w36 (fun b => w.heap.size ≤ b ∧ b < w10.heap.size) g 4 9007199254740992 q := (show AgX w25 _ g 4 9007199254740992 q from ⟨r', m', hS, hm1, hm2⟩).call (hb30.trans hb36)
    have hno : ∀ b ∈ [n35], ¬ (w.heap.size ≤ b ∧ b < w10.heap.size) := fun b hb hh => by simp at hb; omega
    have hV36 := sle_keepC hV (KeepC.of_bel hA.below)
    have ho1 := ho1.call (hb30.trans hb36)
    have hv1 : ∀ x ∈ l1, AN w10 w36 x := fun x hx => (hv1 x hx).call (hb30.trans hb36)
    have hs1 := rows_srt hG.nd hp1 hw1
    refine at_callF hA (c45 hX id hV36) (fun b _ e => .inl e.1) hno fun v w38 hA hk hch ⟨e, hX⟩ => ?_
    subst e
    have ho1 := own_low ho1 hch fun b h => h.2
    have hv1 : ∀ x ∈ l1, AN w10 w38 x := fun x hx => (hv1 x hx).low hch fun b h => h.2
    -- the end
    have fin : ∀ {gs : List Nat} {w66 : World} {K : Ending → World → Prop}, At w gs w66 → AgX w66 (fun b => w.heap.size ≤ b ∧ b < w10.heap.size) g 4 9007199254740992 q → OwnL w10 [] w66 89 3 agRE (.slice a1 l1.length k1) l1 → (∀ x ∈ l1, AN w10 w66 x) →
        (∀ (a2 : Option Addr) (n2 c2 : Nat) (w68 : World), At w gs w68 → Keeps gs w66 w68 → AgX w68 (fun b => w.heap.size ≤ b ∧ b < w10.heap.size) g 4 9007199254740992 q → Ret Try.prog 52 #[.slice a2 n2 c2, .slice a1 l1.length k1] w68 (.bool true) → K (.returned (.slice a2 n2 c2)) w68) → Calls Try.prog 41 #[ptr g] w66 K := by
      intro gs w66 K hA hX ho hv hK
      refine at_callq hA (c41 hX hlen) fun v w68 hA hk hb68 ⟨l2, a2, k2, e, ho2, hv2, hp2, hw2⟩ => ?_
      subst e
      refine hK _ _ _ _ hA hk (hX.call hb68) ?_
      have hs2 := rows_srt hG.nd hp2 hw2
      have := c52 w68 (an_rr ho2 hv2) (an_rr (ho.call hb68) fun x hx => (hv x hx).call hb68)
      rwa [decide_eq_true (rows_eq hs2 hs1 (hp2.trans hp1.symm))] at this
    refine ⟨_, rfl, hk, brE (fun e0 => ?_) (fun ne => ?_)⟩
    · obtain ⟨hvV, hadd, had, hgv⟩ := take_back hG e0
      obtain ⟨r2, m2, hS2, hm21, hm22⟩ := hX
      refine at_callb hA (c48 hS2) fun w41 hA hk hb41 => ⟨_, _, _, _, rfl, hk, ?_⟩
      refine at_callb hA (c50' w41 (sle_keepC hV (KeepC.of_bel hA.below))) fun w47 hA hk hb47 => ⟨_, _, _, _, rfl, hk, ?_⟩
      refine at_callb hA (c49e _ (ofA V) w47) fun w53 hA hk hb53 => ⟨_, _, _, _, _, rfl, hk, fun n59 hn59 => brNB (fun e => absurd hadd (of_decide_eq_false e)) (fun _ => brNB (fun e => ?_) (fun _ w62 hev hu => ?_))⟩
      · exfalso
        rw [had] at e
        simp at e
      · have hb62 := hev.bel (by simpa using hn59)
        have hs53 := (hb41.trans hb47).trans hb53
        have hA := hA.evo (by have := hA.size; simp; omega) hev hu
        have hb3862 := hs53.trans hb62
        have hX : AgX w62 (fun b => w.heap.size ≤ b ∧ b < w10.heap.size) g 4 9007199254740992 (takeD q id V).2 := (show AgX w38 _ g 4 9007199254740992 (takeD q id V).2 from ⟨r2, m2, hS2, hm21, hm22⟩).call hb3862
        have hc51 := c51 hX id (sle_keepC hV (KeepC.of_bel hA.below))
        rw [hgv] at hc51
        have hs38 := hch.size
        have := hs53.size
        have := hb36.size
        refine at_callF hA hc51 (fun b _ e => .inl e.1) (fun b hb hh => by simp at hb; omega) fun v w64 hA hk hch2 ⟨e, hX⟩ => ?_
        subst e
        refine ⟨_, rfl, hk, brN (fun e => absurd rfl e) (fun _ w66 hb66 hu => ?_)⟩
        have hA : At w _ w66 := ⟨(hA.call hb66).chg, hu⟩
        refine fin hA (hX.call hb66) ((own_low (ho1.call hb3862) hch2 fun b h => h.2).call hb66) (fun x hx => (((hv1 x hx).call hb3862).low hch2 fun b h => h.2).call hb66) fun a2 n2 c2 w68 hA hk hX hc => ⟨_, _, _, rfl, hk, ?_⟩
        refine at_callb hA hc fun w73 hA hk hb73 => ⟨_, rfl, hk, brB (fun _ => ?_) (fun e => by cases e)⟩
        obtain ⟨r3, m3, hS3, _⟩ := hX.call hb73
        refine at_callb hA (c48 hS3) fun w76 hA hk _ => ⟨_, _, _, _, rfl, hk, brB (fun _ => ?_) (fun e => by simp at e)⟩
        exact at_callb hA (c47 w76) fun w82 hA hk _ => ⟨_, rfl, hk, leaf hR hA rfl⟩
    · rw [takeD_ne ne] at hX
      intro w84 hb84 hu
      have hA : At w _ w84 := ⟨(hA.call hb84).chg, hu⟩
      refine fin hA (hX.call hb84) (ho1.call hb84) (fun x hx => (hv1 x hx).call hb84) fun a2 n2 c2 w86 hA hk hX hc => ⟨_, _, _, rfl, hk, ?_⟩
      refine at_callb hA hc fun w91 hA hk hb91 => ⟨_, rfl, hk, brB (fun _ => ?_) (fun e => by cases e)⟩
      obtain ⟨r3, m3, hS3, _⟩ := hX.call hb91
      refine at_callb hA (c48 hS3) fun w94 hA hk _ => ⟨_, _, _, _, rfl, hk, brB (fun _ => ?_) (fun e => by simp at e)⟩
      exact at_callb hA (c47 w94) fun w100 hA hk _ => ⟨_, rfl, hk, leaf hR hA rfl⟩
end Go.Vc.J

/- The formulas of functions, printed by a program (VcTool.lean): each is what the generator's formula comes to, by the kernel's reckoning; whoever proves one has the function's contract. -/
set_option maxRecDepth 100000
set_option maxHeartbeats 1000000
set_option linter.unusedVariables false
namespace Vct
open Go Go.Vc Go.RowKit
/-! manciple/manciplelaw22.AgentsKeep -/
def h7 : Hints := ⟨[9], [51, 78, 92, 97, 108, 114], [33, 40, 72, 74, 81, 87, 119, 22, 26, 30, 61, 66, 102, 105, 129, 133, 139, 144, 149], [(22, [0, 1, 2, 3, 4, 5, 6, 7, 8, 9, 10, 11, 12, 13, 14, 15, 16, 17, 18, 19, 20, 21, 22, 23, 24, 25, 26, 27, 28, 29])], [], [(5, ⟨[(8, .int .i64)], []⟩), (14, ⟨[(12, .int .i64)], []⟩), (20, ⟨[(14, .int .i64)], []⟩)], [(9, ⟨[(10, .int .i64)], []⟩), (10, ⟨[], []⟩), (11, ⟨[(11, .addr)], []⟩), (13, ⟨[], []⟩), (26, ⟨[(16, .addr)], []⟩), (27, ⟨[(18, .int .i64)], []⟩)], [], []⟩
def f7_vc (cap : Int) (most : Int) (la : Option Addr) (ln : Nat) (lc : Nat) (w : World) (R : Ending → World → Prop) : Prop :=
 Calls Proofs.Try.prog 38 #[Value.slice la ln lc] w fun (e1 : Ending) (w2 : World) =>
 ∃ (b3 : Bool),
 e1 = Ending.returned (Value.bool b3) ∧
 ((!b3) = true → R (Ending.returned (Value.bool true)) w2) ∧
 ((!b3) = false →
 (decide (cap < 1) = true → R (Ending.returned (Value.bool true)) w2) ∧
 (decide (cap < 1) = false →
 (decide (most < 1) = true → R (Ending.returned (Value.bool true)) w2) ∧
 (decide (most < 1) = false →
 (decide (most > 9007199254740992) = true → R (Ending.returned (Value.bool true)) w2) ∧
 (decide (most > 9007199254740992) = false →
 Calls Proofs.Try.prog 39 #[Value.int IntKind.i64 cap, Value.int IntKind.i64 most] w2 fun (e4 : Ending) (w5 : World) =>
 ∃ (a6 : Option Addr),
 e4 = Ending.returned (Value.pointer a6) ∧
 ∃ (J7 : Int × Unit → World → Prop),
 ∃ (J8 : Int × Unit → World → Nat),
 J7 (0, ()) w5 ∧
 ∀ (x9 : Int) (w10 : World),
 J7 (x9, ()) w10 →
 (decide (x9 < (↑ln : Int)) = true →
 Calls Proofs.Try.prog 40 #[Value.pointer a6] w10 fun (e11 : Ending) (w12 : World) =>
 ∃ (x13 : Int),
 ∃ (x14 : Int),
 ∃ (x15 : Int),
 ∃ (x16 : Int),
 e11 = Ending.returned (Value.agg #[Value.int IntKind.i64 x13, Value.int IntKind.i64 x14, Value.int IntKind.i64 x15, Value.int IntKind.i64 x16]) ∧
 ∀ (n17 : Nat),
 w12.heap.size ≤ n17 →
 ∃ (J18 : Int × Unit → World → Prop),
 (∀ (w19 : World),
 Evo [n17] w12 w19 →
 Under [n17] w19 →
 Calls Proofs.Try.prog 41 #[Value.pointer a6] w19 fun (e20 : Ending) (w21 : World) =>
 ∃ (a22 : Option Addr), ∃ (n23 : Nat), ∃ (n24 : Nat), e20 = Ending.returned (Value.slice a22 n23 n24) ∧ Keeps [n17] w19 w21 ∧ J18 ((↑n23 : Int), ()) w21) ∧
 ∀ (x25 : Int) (w26 : World),
 J18 (x25, ()) w26 →
 ∃ (J27 : Unit → World → Prop),
 (∃ (ad28 : Addr),
 Gives Proofs.Try.prog (Instr.indexAt 76 (Value.slice la ln lc) (Value.int IntKind.i64 x9)) (Value.pointer (some ad28)) ∧
 ∃ (x29 : Int),
 ∃ (x30 : Int),
 ∃ (a31 : Option Addr),
 ∃ (n32 : Nat),
 ∃ (n33 : Nat),
 ∃ (a34 : Option Addr),
 ∃ (n35 : Nat),
 ∃ (n36 : Nat),
 Reads Proofs.Try.prog [] (Instr.loadAt 86 (Value.pointer (some ad28))) w26
 (Value.agg #[Value.int IntKind.i64 x29, Value.int IntKind.i64 x30, Value.slice a31 n32 n33, Value.slice a34 n35 n36]) ∧
 Calls Proofs.Try.prog 42
 #[Value.pointer a6, Value.agg #[Value.int IntKind.i64 x29, Value.int IntKind.i64 x30, Value.slice a31 n32 n33, Value.slice a34 n35 n36]] w26
 fun (e37 : Ending) (w38 : World) =>
 ∃ (b39 : Bool),
 ∃ (x40 : Int), e37 = Ending.returned (Value.tuple #[Value.bool b39, Value.int IntKind.i64 x40]) ∧ Keeps [n17] w26 w38 ∧ J27 () w38) ∧
 ∀ (w41 : World),
 J27 () w41 →
 ∃ (J42 : Addr × Unit → World → Prop),
 (Calls Proofs.Try.prog 40 #[Value.pointer a6] w41 fun (e43 : Ending) (w44 : World) =>
 ∃ (x45 : Int),
 ∃ (x46 : Int),
 ∃ (x47 : Int),
 ∃ (x48 : Int),
 e43 = Ending.returned (Value.agg #[Value.int IntKind.i64 x45, Value.int IntKind.i64 x46, Value.int IntKind.i64 x47, Value.int IntKind.i64 x48]) ∧
 Keeps [n17] w41 w44 ∧
 OpW Proofs.Try.prog (valueS (Instr.alloc 65 true (Value.tuple #[]))) w44 fun (v49 : Value) (w50 : World) =>
 ∃ (ad51 : Addr),
 v49 = Value.pointer (some ad51) ∧
 Keeps [n17] w44 w50 ∧
 OpW Proofs.Try.prog
 (skipS
 (Instr.storeAt 65 (Value.pointer (some ad51))
 (Value.agg #[Value.int IntKind.i64 x45, Value.int IntKind.i64 x46, Value.int IntKind.i64 x47, Value.int IntKind.i64 x48])))
 w50 fun (v52 : Value) (w53 : World) => Keeps [n17] w50 w53 ∧ J42 (ad51, ()) w53) ∧
 ∀ (ad54 : Addr) (w55 : World),
 J42 (ad54, ()) w55 →
 ∃ (J56 : Unit → World → Prop),
 (Calls Proofs.Try.prog 41 #[Value.pointer a6] w55 fun (e57 : Ending) (w58 : World) =>
 ∃ (a59 : Option Addr),
 ∃ (n60 : Nat),
 ∃ (n61 : Nat),
 e57 = Ending.returned (Value.slice a59 n60 n61) ∧
 Keeps [n17] w55 w58 ∧
 ((x25 == (↑n60 : Int)) = true →
 ∃ (x62 : Int),
 ∃ (x63 : Int),
 ∃ (x64 : Int),
 ∃ (x65 : Int),
 Reads Proofs.Try.prog [] (Instr.loadAt 65 (Value.pointer (some ad54))) w58
 (Value.agg #[Value.int IntKind.i64 x62, Value.int IntKind.i64 x63, Value.int IntKind.i64 x64, Value.int IntKind.i64 x65]) ∧
 ((!(x13 == x62 && (x14 == x63 && (x15 == x64 && (x16 == x65 && true))))) = true → R (Ending.returned (Value.bool false)) w58) ∧
 ((!(x13 == x62 && (x14 == x63 && (x15 == x64 && (x16 == x65 && true))))) = false →
 Calls Proofs.Try.prog 41 #[Value.pointer a6] w58 fun (e66 : Ending) (w67 : World) =>
 ∃ (a68 : Option Addr),
 ∃ (n69 : Nat),
 ∃ (n70 : Nat),
 e66 = Ending.returned (Value.slice a68 n69 n70) ∧
 Keeps [n17] w58 w67 ∧
 (decide ((↑n69 : Int) > cap) = true → R (Ending.returned (Value.bool false)) w67) ∧
 (decide ((↑n69 : Int) > cap) = false → J56 () w67))) ∧
 ((x25 == (↑n60 : Int)) = false →
 Calls Proofs.Try.prog 41 #[Value.pointer a6] w58 fun (e71 : Ending) (w72 : World) =>
 ∃ (a73 : Option Addr),
 ∃ (n74 : Nat),
 ∃ (n75 : Nat),
 e71 = Ending.returned (Value.slice a73 n74 n75) ∧
 Keeps [n17] w58 w72 ∧
 (decide ((↑n74 : Int) > cap) = true → R (Ending.returned (Value.bool false)) w72) ∧
 (decide ((↑n74 : Int) > cap) = false → J56 () w72))) ∧
 ∀ (w76 : World),
 J56 () w76 →
 ∃ (J77 : Int × Unit → World → Prop),
 ∃ (J78 : Int × Unit → World → Nat),
 J77 (0, ()) w76 ∧
 ∀ (x79 : Int) (w80 : World),
 J77 (x79, ()) w80 →
 (decide (x79 < 4) = true →
 ∃ (ad81 : Addr),
 Gives Proofs.Try.prog (Instr.indexAt 65 (Value.pointer (some ad54)) (Value.int IntKind.i64 x79)) (Value.pointer (some ad81)) ∧
 ∃ (x82 : Int),
 Reads Proofs.Try.prog [] (Instr.loadAt 2 (Value.pointer (some ad81))) w80 (Value.int IntKind.i64 x82) ∧
 (decide (x82 > most) = true → R (Ending.returned (Value.bool false)) w80) ∧
 (decide (x82 > most) = false →
 J77 (IntKind.i64.wrap (x79 + 1), ()) w80 ∧ J78 (IntKind.i64.wrap (x79 + 1), ()) w80 < J78 (x79, ()) w80)) ∧
 (decide (x79 < 4) = false → J7 (IntKind.i64.wrap (x9 + 1), ()) w80 ∧ J8 (IntKind.i64.wrap (x9 + 1), ()) w80 < J8 (x9, ()) w10)) ∧
 (decide (x9 < (↑ln : Int)) = false →
 Calls Proofs.Try.prog 41 #[Value.pointer a6] w10 fun (e83 : Ending) (w84 : World) =>
 ∃ (a85 : Option Addr),
 ∃ (n86 : Nat),
 ∃ (n87 : Nat),
 e83 = Ending.returned (Value.slice a85 n86 n87) ∧
 ∃ (J88 : Int × Unit → World → Prop),
 ∃ (J89 : Int × Unit → World → Nat),
 J88 (0, ()) w84 ∧
 ∀ (x90 : Int) (w91 : World),
 J88 (x90, ()) w91 →
 (decide (x90 < (↑n86 : Int)) = true →
 ∃ (ad92 : Addr),
 Gives Proofs.Try.prog (Instr.indexAt 81 (Value.slice a85 n86 n87) (Value.int IntKind.i64 x90)) (Value.pointer (some ad92)) ∧
 ∃ (a93 : Option Addr),
 ∃ (n94 : Nat),
 ∃ (n95 : Nat),
 Reads Proofs.Try.prog [] (Instr.loadAt 23 (Value.pointer (some (Addr.mk ad92.block (ad92.off + 1) none)))) w91 (Value.slice a93 n94 n95) ∧
 ∃ (ad96 : Addr),
 Gives Proofs.Try.prog (Instr.indexAt 81 (Value.slice a85 n86 n87) (Value.int IntKind.i64 x90)) (Value.pointer (some ad96)) ∧
 ∃ (a97 : Option Addr),
 ∃ (n98 : Nat),
 ∃ (n99 : Nat),
 Reads Proofs.Try.prog [] (Instr.loadAt 23 (Value.pointer (some (Addr.mk ad96.block (ad96.off + 2) none)))) w91 (Value.slice a97 n98 n99) ∧
 ∀ (w100 : World),
 Bel w91 w100 →
 Calls Proofs.Try.prog 43 #[Value.slice a93 n94 n95, Value.slice a97 n98 n99] w100 fun (e101 : Ending) (w102 : World) =>
 ∃ (b103 : Bool),
 e101 = Ending.returned (Value.bool b103) ∧
 ((!b103) = true → R (Ending.returned (Value.bool false)) w102) ∧
 ((!b103) = false →
 (decide (x90 > 0) = true →
 ∃ (ad104 : Addr),
 Gives Proofs.Try.prog (Instr.indexAt 81 (Value.slice a85 n86 n87) (Value.int IntKind.i64 x90)) (Value.pointer (some ad104)) ∧
 ∃ (x105 : Int),
 Reads Proofs.Try.prog [] (Instr.loadAt 2 (Value.pointer (some ad104))) w102 (Value.int IntKind.i64 x105) ∧
 ∃ (ad106 : Addr),
 Gives Proofs.Try.prog (Instr.indexAt 81 (Value.slice a85 n86 n87) (Value.int IntKind.i64 (IntKind.i64.wrap (x90 - 1))))
 (Value.pointer (some ad106)) ∧
 ∃ (x107 : Int),
 Reads Proofs.Try.prog [] (Instr.loadAt 2 (Value.pointer (some ad106))) w102 (Value.int IntKind.i64 x107) ∧
 (decide (x105 ≤ x107) = true → R (Ending.returned (Value.bool false)) w102) ∧
 (decide (x105 ≤ x107) = false →
 J88 (IntKind.i64.wrap (x90 + 1), ()) w102 ∧ J89 (IntKind.i64.wrap (x90 + 1), ()) w102 < J89 (x90, ()) w91)) ∧
 (decide (x90 > 0) = false →
 J88 (IntKind.i64.wrap (x90 + 1), ()) w102 ∧ J89 (IntKind.i64.wrap (x90 + 1), ()) w102 < J89 (x90, ()) w91))) ∧
 (decide (x90 < (↑n86 : Int)) = false →
 ∃ (J108 : Addr × Unit → World → Prop),
 (OpW Proofs.Try.prog (valueS (Instr.alloc 92 true (Value.tuple #[]))) w91 fun (v109 : Value) (w110 : World) =>
 ∃ (ad111 : Addr), v109 = Value.pointer (some ad111) ∧ J108 (ad111, ()) w110) ∧
 ∀ (ad112 : Addr) (w113 : World),
 J108 (ad112, ()) w113 →
 ∃ (J114 : Int × Unit → World → Prop),
 (OpW Proofs.Try.prog (valueS (Instr.buildSlice 23 1 #[(0, Value.agg #[Value.int IntKind.i64 0, Value.int IntKind.i64 0, Value.int IntKind.i64 1])])) w113
 fun (v115 : Value) (w116 : World) =>
 ∃ (a117 : Option Addr),
 ∃ (n118 : Nat),
 ∃ (n119 : Nat),
 v115 = Value.slice a117 n118 n119 ∧
 Calls Proofs.Try.prog 44 #[Value.pointer (some ad112), Value.int IntKind.i64 1, Value.slice a117 n118 n119] w116 fun (e120 : Ending) (w121 : World) =>
 ∃ (b122 : Bool), ∃ (x123 : Int), e120 = Ending.returned (Value.tuple #[Value.bool b122, Value.int IntKind.i64 x123]) ∧ J114 (x123, ()) w121) ∧
 ∀ (x124 : Int) (w125 : World),
 J114 (x124, ()) w125 →
 Calls Proofs.Try.prog 45 #[Value.pointer none, Value.int IntKind.i64 1, Value.slice none 0 0] w125 fun (e126 : Ending) (w127 : World) =>
 ∃ (x128 : Int),
 e126 = Ending.returned (Value.int IntKind.i64 x128) ∧
 ((x128 == 40) = true →
 ((x124 == 40) = true →
 Calls Proofs.Try.prog 41 #[Value.pointer none] w127 fun (e129 : Ending) (w130 : World) =>
 ∃ (a131 : Option Addr),
 ∃ (n132 : Nat),
 ∃ (n133 : Nat),
 e129 = Ending.returned (Value.slice a131 n132 n133) ∧
 (((↑n132 : Int) == 0) = true →
 Calls Proofs.Try.prog 40 #[Value.pointer (some ad112)] w130 fun (e134 : Ending) (w135 : World) =>
 ∃ (x136 : Int),
 ∃ (x137 : Int),
 ∃ (x138 : Int),
 ∃ (x139 : Int),
 e134 =
 Ending.returned
 (Value.agg
 #[Value.int IntKind.i64 x136, Value.int IntKind.i64 x137, Value.int IntKind.i64 x138,
 Value.int IntKind.i64 x139]) ∧
 ((x136 == 0 && (x137 == 0 && (x138 == 0 && (x139 == 0 && true)))) = true →
 Calls Proofs.Try.prog 46 #[Value.pointer none, Value.int IntKind.i64 1] w135 fun (e140 : Ending) (w141 : World) =>
 ∃ (b142 : Bool),
 e140 = Ending.returned (Value.bool b142) ∧
 ((!b142) = true →
 Calls Proofs.Try.prog 47 #[] w141 fun (e143 : Ending) (w144 : World) =>
 ∃ (b145 : Bool),
 e143 = Ending.returned (Value.bool b145) ∧ R (Ending.returned (Value.bool b145)) w144) ∧
 ((!b142) = false → R (Ending.returned (Value.bool false)) w141)) ∧
 ((x136 == 0 && (x137 == 0 && (x138 == 0 && (x139 == 0 && true)))) = false →
 R (Ending.returned (Value.bool false)) w135)) ∧
 (((↑n132 : Int) == 0) = false → R (Ending.returned (Value.bool false)) w130)) ∧
 ((x124 == 40) = false → R (Ending.returned (Value.bool false)) w127)) ∧
 ((x128 == 40) = false → R (Ending.returned (Value.bool false)) w127)))))))
theorem f7_eq (cap : Int) (most : Int) (la : Option Addr) (ln : Nat) (lc : Nat) (w : World) (R : Ending → World → Prop) : (fnF Go.Proofs.Try.prog h7 Go.Proofs.Try.f7 [Value.int IntKind.i64 cap, Value.int IntKind.i64 most, Value.slice la ln lc] w R).den = f7_vc cap most la ln lc w R := by kernel_rfl
theorem f7_calls (cap : Int) (most : Int) (la : Option Addr) (ln : Nat) (lc : Nat) (w : World) (R : Ending → World → Prop) (h : f7_vc cap most la ln lc w R) : Calls Go.Proofs.Try.prog 7 (List.toArray [Value.int IntKind.i64 cap, Value.int IntKind.i64 most, Value.slice la ln lc]) w R :=
 fn_sound (H := h7) (fn := Go.Proofs.Try.f7) (by kernel_rfl) (by kernel_rfl) (by kernel_rfl) ((f7_eq cap most la ln lc w R).mpr h)

end Vct

/- Agents: what holds whatever is done: the walk. -/
set_option maxRecDepth 20000
set_option maxHeartbeats 2000000
namespace Go.Vc.J
open Go Go.Vc Go.Vc.V Go.RowKit Go.Proofs Vct

variable {w W W' W2 : World} {M N : Nat → Prop} {gs ds : List Nat} {g r : Nat} {cap most : Int} {B : Nat → Prop} {q : AgQ} {D : AgL}

theorem doD_len (cap most : Int) (q : AgQ) (k i : Int) (V Y : List PartT) : (doD cap most q k i V Y).2.2.2.length ≤ q.2.2.length + 1 := by
  have hs : ∀ (D : AgL) (i : Int) (d : AgD), (setD D i d).length = D.length := fun D i d => by simp [setD]
  unfold doD
  split
  · unfold regD
    repeat' split
    all_goals first | (simp only [List.length_append, List.length_singleton]; omega) | omega
  split
  · unfold loseD
    split
    · simp only; omega
    · simp only
      rw [mdel_length]
      split <;> omega
  split
  · unfold takeD
    repeat' split
    all_goals first | (simp only [hs]; omega) | omega
  split
  · unfold giveD
    repeat' split
    all_goals first | (simp only [hs]; omega) | omega
  · unfold turnD
    repeat' split
    all_goals first | (simp only [hs]; omega) | omega
/-- How many All tells. -/
theorem at_all {K : Ending → World → Prop} (hA : AtF w M gs W) (h : AgX W B g cap most q) (hl : q.2.2.length ≤ 1000)
    (hK : ∀ w' (l : List AgR) a c, AtF w M gs w' → Keeps gs W w' → Bel W w' → AgX w' B g cap most q → OwnL W [] w' 89 3 agRE (.slice a q.2.2.length c) l → (∀ x ∈ l, AN W w' x) → (l.map plR).Perm q.2.2 → (l.Pairwise fun x y => ¬ y.1 < x.1) → K (.returned (.slice a q.2.2.length c)) w') : Calls Try.prog 41 #[ptr g] W K :=
  at_callq hA (c41 h hl) fun v w' hA' hk hb ⟨l, a, c, e, ho, hv, hp, hw⟩ => by
    have hll : l.length = q.2.2.length := by have := hp.length_eq; rwa [List.length_map] at this
    rw [hll] at e ho
    subst e
    exact hK w' l a c hA' hk hb (h.call hb) ho hv hp hw
theorem at_sum {K : Ending → World → Prop} (hA : AtF w M gs W) (h : AgX W B g cap most q) (hK : ∀ w', AtF w M gs w' → Keeps gs W w' → Bel W w' → AgX w' B g cap most q → K (.returned (a4V q.1)) w') : Calls Try.prog 40 #[ptr g] W K := by
  obtain ⟨r, m, hS, h2⟩ := h
  exact at_callb hA (c40 hS) fun w' hA hk hb => hK w' hA hk hb ⟨r, m, hS.call hb, h2⟩
theorem at_doG {K : Ending → World → Prop} (hA : At w gs W) (h : AgX W (fun b => w.heap.size ≤ b ∧ b ∉ gs) g cap most q) {L : List AcR} {a : Option Addr} {n c : Nat} (har : CR w L a n c) {x : AcR} (hx : x ∈ L)
    (hK : ∀ w', At w gs w' → Keeps gs W w' → AgX w' (fun b => w.heap.size ≤ b ∧ b ∉ gs) g cap most (doD cap most q x.1.1 x.1.2.1 x.1.2.2.1 x.1.2.2.2).2 → K (.returned (biV (doD cap most q x.1.1 x.1.2.1 x.1.2.2.1 x.1.2.2.2).1)) w') : Calls Try.prog 42 #[ptr g, .agg #[.int .i64 x.1.1, .int .i64 x.1.2.1, slV x.2.1, slV x.2.2]] W K := by
  have hc := c42 h x.1.1 x.1.2.1 (sle_keepC (har.v1 x hx) (KeepC.of_bel hA.below)) (sle_keepC (har.v2 x hx) (KeepC.of_bel hA.below)) fun W' hc => sle_keepC (har.v1 x hx) (KeepC.of_bel (hA.step hc fun b _ h => .inl h.1).below)
  refine at_callF hA hc (fun b _ e => .inl e.1) (fun _ hb hh => hh.2 hb) fun v w' hA' hk hch ⟨e, hX⟩ => ?_
  subst e
  refine hK w' hA' hk (hX.mono fun b _ hb => ?_)
  have := hA.size
  rcases hb with h | h
  · exact h
  · refine ⟨by omega, fun hm => ?_⟩
    have := hA.under b hm
    omega
theorem law7 {acts : List AcR} {a : Option Addr} {n c : Nat} (cap most : Int) (w : World) (har : CR w acts a n c) : Ret Try.prog 7 #[.int .i64 cap, .int .i64 most, .slice a n c] w (.bool true) := by
  intro R hR
  refine f7_calls cap most a n c w R ?_
  unfold f7_vc
  have hn := har.sl.len_le
  have hl0 := har.sl.1
  refine at_callq (At.refl w) (c38 w har) fun v w2 hA _ hb2 ⟨b, e, hfew⟩ => ?_
  subst e
  refine ⟨_, rfl, brNB (fun _ => leaf hR hA rfl) (fun hb => brD (fun _ => leaf hR hA rfl) (fun hcap => brD (fun _ => leaf hR hA rfl) (fun hmost => brD (fun _ => leaf hR hA rfl) (fun hmost2 => ?_))))⟩
  have hfew := hfew hb
  refine at_callq hA (c39 cap most w2) fun v w5 hA _ hb5 hq => ?_
  rcases hq with ⟨hlt, _⟩ | ⟨_, g, r, e, ht, hg, hr⟩
  · omega
  subst e
  have hs2 := hb2.size
  have hX : AgX w5 (fun b => w.heap.size ≤ b) g cap most (zA, zA, []) := ⟨r, [], ht, rfl, by
    rintro b (rfl | rfl | ⟨x, hx, _⟩)
    · omega
    · omega
    · cases hx⟩
  refine ⟨_, rfl, fun v W' => At w [] W' ∧ ∃ (i : Nat) (q : AgQ), v.1 = i ∧ i ≤ acts.length ∧ AgX W' (fun b => w.heap.size ≤ b) g cap most q ∧ Good cap most q ∧ q.2.2.length ≤ i, fun v _ => (n - v.1).toNat, ⟨hA, 0, _, rfl, Nat.zero_le _, hX, Good.new (by omega) (by omega) (by omega), Nat.le_refl _⟩, ?_⟩
  rintro x9 w10 ⟨hA, i, q, hi, hil, hX, hG, hlq⟩
  simp only at hi
  subst hi
  refine brD (fun hlt => ?_) (fun hge => ?_)
  · obtain ⟨x, hx⟩ : ∃ x, acts[i]? = some x := ⟨_, List.getElem?_eq_getElem (by omega)⟩
    have hsz10 := hA.size
    refine at_sum hA hX fun w12 hA hk hb12 hX => ⟨_, _, _, _, rfl, fun n17 hn17 => ?_⟩
    refine ⟨fun v W' => At w [n17] W' ∧ v.1 = (q.2.2.length : Int) ∧ AgX W' (fun b => w.heap.size ≤ b ∧ b ∉ [n17]) g cap most q, fun w19 hev hu => ?_, ?_⟩
    · have hb19 := hev.bel (by simpa using hn17)
      have hA := hA.evo (gs' := [n17]) (by have := hA.size; simp; omega) hev hu
      have hX : AgX w12 (fun b => w.heap.size ≤ b ∧ b ∉ [n17]) g cap most q := hX.mono fun b hb h => ⟨h, by simp; omega⟩
      refine at_all hA (hX.call hb19) (by omega) fun w21 l a' c' hA hk hb21 hX _ _ _ _ => ?_
      exact ⟨_, _, _, rfl, hk, hA, rfl, hX⟩
    · rintro x25 w26 ⟨hA, e25, hX⟩
      simp only at e25
      subst e25
      generalize hd : doD cap most q x.1.1 x.1.2.1 x.1.2.2.1 x.1.2.2.2 = d
      have hGd := hG.do x.1.1 x.1.2.1 x.1.2.2.1 x.1.2.2.2
      have hld := doD_len cap most q x.1.1 x.1.2.1 x.1.2.2.1 x.1.2.2.2
      rw [hd] at hGd hld
      refine ⟨fun _ W' => At w [n17] W' ∧ AgX W' (fun b => w.heap.size ≤ b ∧ b ∉ [n17]) g cap most d.2, ?_, ?_⟩
      · obtain ⟨ad, g1, el, _⟩ := elt_at (P := Try.prog) (k := .i64) (t := 76) (har.sl.call hA.below) hx (e := 86) (by kernel_rfl) (by kernel_rfl)
        refine ⟨ad, g1, _, _, _, _, _, _, _, _, el.agg 4 (by kernel_rfl) (by kernel_rfl) (by simp) (by simp), ?_⟩
        refine at_doG hA hX har (List.mem_of_getElem? hx) fun w38 hA hk hX => ⟨_, _, rfl, hk, hA, ?_⟩
        rw [hd] at hX
        exact hX
      · rintro w41 ⟨hA, hX⟩
        refine ⟨fun v W' => At w [n17] W' ∧ AgX W' (fun b => w.heap.size ≤ b ∧ b ∉ [n17]) g cap most d.2 ∧ ∃ p, v.1 = ⟨p, 0, none⟩ ∧ W'.heap[p]? = some (.cells ([.int .i64 d.2.1.1, .int .i64 d.2.1.2.1, .int .i64 d.2.1.2.2.1, .int .i64 d.2.1.2.2.2] : List Value).toArray 65 (0, 0)), ?_, ?_⟩
        · refine at_sum hA hX fun w44 hA hk hb44 hX => ⟨_, _, _, _, rfl, hk, ?_⟩
          have hsz := hA.size
          have hu17 := hA.under n17 (by simp)
          refine opw_allocS (zv := .agg #[.int .i64 0, .int .i64 0, .int .i64 0, .int .i64 0]) ([.int .i64 0, .int .i64 0, .int .i64 0, .int .i64 0] : List Value) (by kernel_rfl) (by kernel_rfl) hA fun p w50 hp hA hk hb50 hblk => ⟨_, rfl, hk, ?_⟩
          have hA50 := hA
          refine opw_storeF (off := 0) (cells' := [.int .i64 d.2.1.1, .int .i64 d.2.1.2.1, .int .i64 d.2.1.2.2.1, .int .i64 d.2.1.2.2.2]) hA hblk (.inl (by omega)) (by simp; omega) (by kernel_rfl) fun w53 hA hk hc53 hb53 => ⟨hk, hA, ?_, p, rfl, hb53⟩
          -- the table lies below the box
          have hbel : Bel w44 w53 := (((At.refl w44).call hb50).step hc53 fun b _ e => by subst e; exact .inl (by omega)).below
          exact hX.call hbel
        · rintro ad54 w55 ⟨hA, hX, p, e54, hblk⟩
          simp only at e54
          subst e54
          have hcs := hGd.1.lc
          refine ⟨fun _ W' => At w [n17] W' ∧ Bel w55 W' ∧ AgX W' (fun b => w.heap.size ≤ b ∧ b ∉ [n17]) g cap most d.2, ?_, ?_⟩
          · refine at_all hA hX (by omega) fun w58 l a' c' hA hk hb58 hX _ _ _ _ => ⟨_, _, _, rfl, hk, brE (fun he => ?_) (fun _ => ?_)⟩
            · have hblk := (hb58.block (Array.getElem?_eq_some_iff.1 hblk).1).trans hblk
              have hsu : d.2.1 = q.1 := hGd.2 (by omega)
              refine ⟨_, _, _, _, (elt_cells hblk).agg 4 (by kernel_rfl) (by kernel_rfl) (by simp) (by simp), brNB (fun e => ?_) (fun _ => ?_)⟩
              · rw [hsu] at e
                simp at e
              · refine at_all hA hX (by omega) fun w67 l a' c' hA hk hb67 hX _ _ _ _ => ⟨_, _, _, rfl, hk, brD (fun hh => by omega) (fun _ => ⟨hA, hb58.trans hb67, hX⟩)⟩
            · refine at_all hA hX (by omega) fun w72 l a' c' hA hk hb72 hX _ _ _ _ => ⟨_, _, _, rfl, hk, brD (fun hh => by omega) (fun _ => ⟨hA, hb58.trans hb72, hX⟩)⟩
          · rintro w76 ⟨hA, hb76, hX⟩
            have hsle := sle4 hblk
            refine ⟨fun v W' => At w [n17] W' ∧ Bel w55 W' ∧ AgX W' (fun b => w.heap.size ≤ b ∧ b ∉ [n17]) g cap most d.2 ∧ ∃ k : Nat, v.1 = k ∧ k ≤ 4, fun v _ => (4 - v.1).toNat, ⟨hA, hb76, hX, 0, rfl, by omega⟩, ?_⟩
            rintro x79 w80 ⟨hA, hb80, hX, k, hk, hk4⟩
            simp only at hk
            subst hk
            refine brD (fun hlt => ?_) (fun _ => ?_)
            · have hs80 := hsle.call hb80
              obtain ⟨y, hy⟩ : ∃ y, [d.2.1.1, d.2.1.2.1, d.2.1.2.2.1, d.2.1.2.2.2][k]? = some y := ⟨_, List.getElem?_eq_getElem (by simp; omega)⟩
              obtain ⟨ad, cs, e1, e2, e3, e4⟩ := hs80.at_ hy
              cases e1
              subst e4
              have el : Elt w80 ((⟨p, 0, none⟩ : Addr).add (k * 1)) (intE y) := fun j v hv => e3 j v hv
              have hyle : y ≤ most := by
                have hm := hGd.1.mo
                rw [hGd.1.su] at hy
                unfold all4 at hy
                have hk' : k = 0 ∨ k = 1 ∨ k = 2 ∨ k = 3 := by omega
                rcases hk' with rfl | rfl | rfl | rfl
                all_goals
                  simp only [List.getElem?_cons_zero, List.getElem?_cons_succ, Option.some.injEq] at hy
                  omega
              rw [succ_i k (by omega)]
              refine ⟨_, gives_index_arr (n := 1) (m := 4) (e := 2) (by kernel_rfl) (by kernel_rfl) (by omega), _, el.one (by kernel_rfl) (by simp), brD (fun hh => by omega) (fun _ => ⟨⟨hA, hb80, hX, k + 1, rfl, by omega⟩, by simp only; omega⟩)⟩
            · rw [succ_i i (by omega)]
              exact ⟨⟨hA.sub (by simp), i + 1, d.2, rfl, by omega, hX.mono fun b _ h => h.1, hGd.1, by omega⟩, by simp only; omega⟩
  · refine at_all hA hX (by omega) fun w84 l a' c' hA hk hb84 hX ho hv hp hw => ⟨_, _, _, rfl, ?_⟩
    have hrr := an_rr ho hv
    have hs := rows_srt hG.nd hp hw
    have hll := ho.len
    have hlm : ∀ x ∈ l, plR x ∈ q.2.2 := fun x hx => hp.mem_iff.1 (List.mem_map.2 ⟨x, hx, rfl⟩)
    refine ⟨fun v W' => At w [] W' ∧ Bel w84 W' ∧ ∃ i : Nat, v.1 = i ∧ i ≤ l.length, fun v _ => ((l.length : Int) - v.1).toNat, ⟨hA, Bel.refl _, 0, rfl, Nat.zero_le _⟩, ?_⟩
    rintro x90 w91 ⟨hA, hb91, i, hi, hil⟩
    simp only at hi
    subst hi
    refine brD (fun hlt => ?_) (fun hge => ?_)
    · obtain ⟨x, hx⟩ : ∃ x, l[i]? = some x := ⟨_, List.getElem?_eq_getElem (by omega)⟩
      have hxm := List.mem_of_getElem? hx
      obtain ⟨k1, k2, k3⟩ := hG.ok _ (hlm x hxm)
      have hr91 := hrr.keep (KeepC.of_bel hb91)
      obtain ⟨ad, g1, el, _⟩ := elt_at (P := Try.prog) (k := .i64) (t := 81) hr91.sl hx (e := 89) (by kernel_rfl) (by kernel_rfl)
      refine ⟨ad, g1, _, _, _, (el.sub (o := 1) (by decide)).one (by kernel_rfl) (by simp), ad, g1, _, _, _, (el.sub (o := 2) (by decide)).one (by kernel_rfl) (by simp), fun w100 hb100 => ?_⟩
      have hA := hA.call hb100
      have hc43 := c43ok w100 ((hr91.v1 x hxm).call hb100) ((hr91.v2 x hxm).call hb100) k1 k2
      rw [show (vsub x.2.1.1 x.2.1.2).isSome = true from k3] at hc43
      refine at_callb hA hc43 fun w102 hA hk hb102 => ⟨_, rfl, brNB (fun e => by cases e) (fun _ => ?_)⟩
      have hb102' := (hb91.trans hb100).trans hb102
      rw [succ_i i (by omega)]
      refine brD (fun hpos => ?_) (fun _ => ⟨⟨hA, hb102', i + 1, rfl, by omega⟩, by simp only; omega⟩)
      obtain ⟨y, hy⟩ : ∃ x, l[i - 1]? = some x := ⟨_, List.getElem?_eq_getElem (by omega)⟩
      have hr102 := hrr.keep (KeepC.of_bel hb102')
      obtain ⟨ad1, g1, el1, _⟩ := elt_at (P := Try.prog) (k := .i64) (t := 81) hr102.sl hx (e := 89) (by kernel_rfl) (by kernel_rfl)
      obtain ⟨ad2, g2, el2, _⟩ := elt_at (P := Try.prog) (k := .i64) (t := 81) hr102.sl hy (e := 89) (by kernel_rfl) (by kernel_rfl)
      have e2 : IntKind.i64.wrap ((i : Int) - 1) = ((i - 1 : Nat) : Int) := by rw [wrap_i64 (by omega) (by omega)]; omega
      rw [e2]
      have hyx : y.1 < x.1 := by
        have h' := List.pairwise_iff_getElem.1 (List.pairwise_map.1 hs)
        have hi' := (List.getElem?_eq_some_iff.1 hx)
        have hj' := (List.getElem?_eq_some_iff.1 hy)
        have := h' (i - 1) i hj'.1 hi'.1 (by omega)
        rw [hi'.2, hj'.2] at this
        exact this
      exact ⟨ad1, g1, _, el1.one (by kernel_rfl) (by simp), ad2, g2, _, el2.one (by kernel_rfl) (by simp), brD (fun hh => by omega) (fun _ => ⟨⟨hA, hb102', i + 1, rfl, by omega⟩, by simp only; omega⟩)⟩
    · refine ⟨fun v W' => At w [] W' ∧ NoA W' (some v.1), ?_, ?_⟩
      · refine opw_allocS (zv := .agg #[.int .i64 0, .int .i64 0, .map none, .int .i64 0, .int .i64 0, .int .i64 0, .int .i64 0, .int .i64 0, .int .i64 0, .int .i64 0, .int .i64 0]) ([.int .i64 0, .int .i64 0, .map none, .int .i64 0, .int .i64 0, .int .i64 0, .int .i64 0, .int .i64 0, .int .i64 0, .int .i64 0, .int .i64 0] : List Value) (by kernel_rfl) (by kernel_rfl) hA fun gp w110 hgp hA hk hb110 hblk => ⟨_, rfl, hA, .inr ⟨gp, rfl, hblk⟩⟩
      · rintro ad112 w113 ⟨hA, hno⟩
        refine ⟨fun v W' => At w [] W' ∧ NoA W' (some ad112) ∧ v.1 = 40, ?_, ?_⟩
        · refine opw_litL (e' := 73) (f := partE) (size := 3) (l := ([(0, 0, 1)] : List PartT)) hA rfl (fun _ _ => rfl) (by decide) (by kernel_rfl) fun gv w116 _ hA _ hb116 ho => ⟨_, _, _, rfl, ?_⟩
          refine at_callb hA (c44n 1 (hno.call hb116)) fun w121 hA hk hb121 => ⟨_, _, rfl, hA, (hno.call hb116).call hb121, rfl⟩
        · rintro x124 w125 ⟨hA, hno, e124⟩
          simp only at e124
          subst e124
          refine at_callb hA (c45n (t := none) 1 (.inl rfl)) fun w127 hA hk hb127 => ⟨_, rfl, brE (fun _ => brE (fun _ => ?_) (fun e => absurd rfl e)) (fun e => absurd rfl e)⟩
          refine at_callb hA (c41n (t := none) (.inl rfl)) fun w130 hA hk hb130 => ⟨_, _, _, rfl, brE (fun _ => ?_) (fun e => absurd rfl e)⟩
          refine at_callb hA (c40n (hno.call (hb127.trans hb130))) fun w135 hA hk hb135 => ⟨_, _, _, _, rfl, brB (fun _ => ?_) (fun e => by cases e)⟩
          refine at_callb hA (c46n (t := none) 1 (.inl rfl)) fun w141 hA hk hb141 => ⟨_, rfl, brNB (fun _ => ?_) (fun e => by cases e)⟩
          exact at_callb hA (c47 w141) fun w144 hA hk _ => ⟨_, rfl, leaf hR hA rfl⟩
end Go.Vc.J

