/- Own texts of this claim, laid together: FS15, Sr8, Sr9, Sr10, Sq1, Sq2, FS16, Sp20. -/
import Derived.Test.YtjpcmbaminjafaaMga386e7a4
import Derived.Test.YtjpcmbaminjafaaProg

/- The formulas of functions, printed by a program (VcTool.lean): each is what the generator's formula comes to, by the kernel's reckoning; whoever proves one has the function's contract. -/
set_option maxRecDepth 100000
set_option maxHeartbeats 1000000
set_option linter.unusedVariables false
namespace Vcs
open Go Go.Vc Go.RowKit
/-! (manciple/mancipleref09.M).Do -/
def h20 : Hints := ⟨[2, 3, 4, 8, 9, 11], [62], [25, 32, 39, 43, 46, 55, 79, 84, 86, 91, 94, 97, 113, 75, 20, 109], [], [], [], [], [], []⟩
def f20_vc (m_0 : Int) (m_1 : Int) (m_2 : Int) (m_3 : Int) (m_4a : Option Addr) (m_4n : Nat) (m_4c : Nat) (a_0 : Int) (a_1 : Int) (a_2 : Int) (a_3 : Int) (a_4 : Int) (a_5 : Int) (a_6 : Int) (w : World) (R : Ending → World → Prop) : Prop :=
 ∀ (n1 : Nat),
 w.heap.size ≤ n1 →
 ∀ (n2 : Nat),
 w.heap.size ≤ n2 →
 ∀ (n3 : Nat),
 w.heap.size ≤ n3 →
 ∀ (w4 : World),
 Bel w w4 →
 Under [n1, n2, n3] w4 →
 Calls Proofs.Try.prog 24 #[Value.agg #[Value.int IntKind.i64 m_0, Value.int IntKind.i64 m_1, Value.int IntKind.i64 m_2, Value.int IntKind.i64 m_3, Value.slice m_4a m_4n m_4c], Value.int IntKind.i64 a_1] w4
 fun (e5 : Ending) (w6 : World) =>
 ∃ (x7 : Int),
 e5 = Ending.returned (Value.int IntKind.i64 x7) ∧
 Keeps [n1, n2, n3] w4 w6 ∧
 (decide (a_2 < 1) = true →
 ((a_0 == 0) = true →
 Calls Proofs.Try.prog 60 #[Value.agg #[Value.int IntKind.i64 a_3, Value.int IntKind.i64 a_4, Value.int IntKind.i64 a_5, Value.int IntKind.i64 a_6]] w6 fun (e8 : Ending) (w9 : World) =>
 ∃ (b10 : Bool),
 e8 = Ending.returned (Value.bool b10) ∧
 Keeps [n1, n2, n3] w6 w9 ∧
 ((!b10) = true →
 ∀ (w11 : World),
 Evo [n3] w9 w11 →
 Under [n1, n2, n3] w11 →
 R
 (Ending.returned
 (Value.tuple
 #[Value.agg #[Value.int IntKind.i64 m_0, Value.int IntKind.i64 m_1, Value.int IntKind.i64 m_2, Value.int IntKind.i64 m_3, Value.slice m_4a m_4n m_4c], Value.int IntKind.i64 41]))
 w11) ∧
 ((!b10) = false →
 ∀ (w12 : World),
 Evo [n3] w9 w12 →
 Under [n1, n2, n3] w12 →
 R
 (Ending.returned
 (Value.tuple
 #[Value.agg #[Value.int IntKind.i64 a_3, Value.int IntKind.i64 a_4, Value.int IntKind.i64 a_5, Value.int IntKind.i64 a_6, Value.slice m_4a m_4n m_4c], Value.int IntKind.i64 0]))
 w12)) ∧
 ((a_0 == 0) = false →
 ((a_0 == 1) = true →
 ∀ (w13 : World),
 Evo [n3] w6 w13 →
 Under [n1, n2, n3] w13 →
 R
 (Ending.returned
 (Value.tuple #[Value.agg #[Value.int IntKind.i64 m_0, Value.int IntKind.i64 m_1, Value.int IntKind.i64 m_2, Value.int IntKind.i64 m_3, Value.slice m_4a m_4n m_4c], Value.int IntKind.i64 41]))
 w13) ∧
 ((a_0 == 1) = false →
 (decide (x7 < 0) = true →
 ∀ (w14 : World),
 Evo [n3] w6 w14 →
 Under [n1, n2, n3] w14 →
 R
 (Ending.returned
 (Value.tuple
 #[Value.agg #[Value.int IntKind.i64 m_0, Value.int IntKind.i64 m_1, Value.int IntKind.i64 m_2, Value.int IntKind.i64 m_3, Value.slice m_4a m_4n m_4c], Value.int IntKind.i64 43]))
 w14) ∧
 (decide (x7 < 0) = false →
 ∃ (ad15 : Addr),
 Gives Proofs.Try.prog (Instr.indexAt 52 (Value.slice m_4a m_4n m_4c) (Value.int IntKind.i64 x7)) (Value.pointer (some ad15)) ∧
 ∃ (x16 : Int),
 ∃ (x17 : Int),
 ∃ (x18 : Int),
 ∃ (x19 : Int),
 ∃ (x20 : Int),
 ∃ (x21 : Int),
 ∃ (b22 : Bool),
 Reads Proofs.Try.prog [] (Instr.loadAt 63 (Value.pointer (some ad15))) w6
 (Value.agg
 #[Value.int IntKind.i64 x16, Value.int IntKind.i64 x17, Value.int IntKind.i64 x18, Value.int IntKind.i64 x19, Value.int IntKind.i64 x20, Value.int IntKind.i64 x21,
 Value.bool b22]) ∧
 ∀ (n23 : Nat),
 w6.heap.size ≤ n23 →
 ((a_0 == 2) = true →
 ∀ (w24 : World),
 Evo [n23] w6 w24 →
 Under [n1, n2, n3, n23] w24 →
 Calls Proofs.Try.prog 62
 #[Value.agg #[Value.int IntKind.i64 m_0, Value.int IntKind.i64 m_1, Value.int IntKind.i64 m_2, Value.int IntKind.i64 m_3, Value.slice m_4a m_4n m_4c],
 Value.int IntKind.i64 x7]
 w24 fun (e25 : Ending) (w26 : World) =>
 ∃ (x27 : Int),
 ∃ (x28 : Int),
 ∃ (x29 : Int),
 ∃ (x30 : Int),
 ∃ (a31 : Option Addr),
 ∃ (n32 : Nat),
 ∃ (n33 : Nat),
 e25 =
 Ending.returned
 (Value.agg
 #[Value.int IntKind.i64 x27, Value.int IntKind.i64 x28, Value.int IntKind.i64 x29, Value.int IntKind.i64 x30, Value.slice a31 n32 n33]) ∧
 Keeps [n1, n2, n3, n23] w24 w26 ∧
 ∀ (w34 : World),
 Evo [n3] w26 w34 →
 Under [n1, n2, n3, n23] w34 →
 R
 (Ending.returned
 (Value.tuple
 #[Value.agg
 #[Value.int IntKind.i64 x27, Value.int IntKind.i64 x28, Value.int IntKind.i64 x29, Value.int IntKind.i64 x30,
 Value.slice a31 n32 n33],
 Value.int IntKind.i64 0]))
 w34) ∧
 ((a_0 == 2) = false →
 ((a_0 == 3) = true →
 ∀ (w35 : World),
 Evo [n3, n23] w6 w35 →
 Under [n1, n2, n3, n23] w35 →
 R
 (Ending.returned
 (Value.tuple
 #[Value.agg #[Value.int IntKind.i64 m_0, Value.int IntKind.i64 m_1, Value.int IntKind.i64 m_2, Value.int IntKind.i64 m_3, Value.slice m_4a m_4n m_4c],
 Value.int IntKind.i64 41]))
 w35) ∧
 ((a_0 == 3) = false →
 ((a_0 == 4) = true →
 ∀ (w36 : World),
 Evo [n23, n23] w6 w36 →
 Under [n1, n2, n3, n23] w36 →
 Calls Proofs.Try.prog 61
 #[Value.agg #[Value.int IntKind.i64 m_0, Value.int IntKind.i64 m_1, Value.int IntKind.i64 m_2, Value.int IntKind.i64 m_3, Value.slice m_4a m_4n m_4c],
 Value.int IntKind.i64 x7,
 Value.agg
 #[Value.int IntKind.i64 x16, Value.int IntKind.i64 x17, Value.int IntKind.i64 x18, Value.int IntKind.i64 x19, Value.int IntKind.i64 x20,
 Value.int IntKind.i64 x21, Value.bool true]]
 w36 fun (e37 : Ending) (w38 : World) =>
 ∃ (x39 : Int),
 ∃ (x40 : Int),
 ∃ (x41 : Int),
 ∃ (x42 : Int),
 ∃ (a43 : Option Addr),
 ∃ (n44 : Nat),
 ∃ (n45 : Nat),
 e37 =
 Ending.returned
 (Value.agg
 #[Value.int IntKind.i64 x39, Value.int IntKind.i64 x40, Value.int IntKind.i64 x41, Value.int IntKind.i64 x42,
 Value.slice a43 n44 n45]) ∧
 Keeps [n1, n2, n3, n23] w36 w38 ∧
 ∀ (w46 : World),
 Evo [n3] w38 w46 →
 Under [n1, n2, n3, n23] w46 →
 R
 (Ending.returned
 (Value.tuple
 #[Value.agg
 #[Value.int IntKind.i64 x39, Value.int IntKind.i64 x40, Value.int IntKind.i64 x41, Value.int IntKind.i64 x42,
 Value.slice a43 n44 n45],
 Value.int IntKind.i64 0]))
 w46) ∧
 ((a_0 == 4) = false →
 ((a_0 == 5) = true →
 ∀ (w47 : World),
 Evo [n23, n23] w6 w47 →
 Under [n1, n2, n3, n23] w47 →
 Calls Proofs.Try.prog 61
 #[Value.agg #[Value.int IntKind.i64 m_0, Value.int IntKind.i64 m_1, Value.int IntKind.i64 m_2, Value.int IntKind.i64 m_3, Value.slice m_4a m_4n m_4c],
 Value.int IntKind.i64 x7,
 Value.agg
 #[Value.int IntKind.i64 x16, Value.int IntKind.i64 x17, Value.int IntKind.i64 x18, Value.int IntKind.i64 x19, Value.int IntKind.i64 x20,
 Value.int IntKind.i64 x21, Value.bool false]]
 w47 fun (e48 : Ending) (w49 : World) =>
 ∃ (x50 : Int),
 ∃ (x51 : Int),
 ∃ (x52 : Int),
 ∃ (x53 : Int),
 ∃ (a54 : Option Addr),
 ∃ (n55 : Nat),
 ∃ (n56 : Nat),
 e48 =
 Ending.returned
 (Value.agg
 #[Value.int IntKind.i64 x50, Value.int IntKind.i64 x51, Value.int IntKind.i64 x52, Value.int IntKind.i64 x53,
 Value.slice a54 n55 n56]) ∧
 Keeps [n1, n2, n3, n23] w47 w49 ∧
 ∀ (w57 : World),
 Evo [n3] w49 w57 →
 Under [n1, n2, n3, n23] w57 →
 R
 (Ending.returned
 (Value.tuple
 #[Value.agg
 #[Value.int IntKind.i64 x50, Value.int IntKind.i64 x51, Value.int IntKind.i64 x52, Value.int IntKind.i64 x53,
 Value.slice a54 n55 n56],
 Value.int IntKind.i64 0]))
 w57) ∧
 ((a_0 == 5) = false →
 ((a_0 == 6) = true →
 ∀ (w58 : World),
 Evo [n23] w6 w58 →
 Under [n1, n2, n3, n23] w58 →
 Calls Proofs.Try.prog 63
 #[Value.agg #[Value.int IntKind.i64 x18, Value.int IntKind.i64 x19, Value.int IntKind.i64 x20, Value.int IntKind.i64 x21],
 Value.agg #[Value.int IntKind.i64 a_3, Value.int IntKind.i64 a_4, Value.int IntKind.i64 a_5, Value.int IntKind.i64 a_6]]
 w58 fun (e59 : Ending) (w60 : World) =>
 ∃ (x61 : Int),
 ∃ (x62 : Int),
 ∃ (x63 : Int),
 ∃ (x64 : Int),
 ∃ (b65 : Bool),
 e59 =
 Ending.returned
 (Value.tuple
 #[Value.agg #[Value.int IntKind.i64 x61, Value.int IntKind.i64 x62, Value.int IntKind.i64 x63, Value.int IntKind.i64 x64],
 Value.bool b65]) ∧
 Keeps [n1, n2, n3, n23] w58 w60 ∧
 ∀ (n66 : Nat),
 w60.heap.size ≤ n66 →
 ((!b65) = true →
 ∀ (w67 : World),
 Evo [n3, n66] w60 w67 →
 Under [n1, n2, n3, n23, n66] w67 →
 R
 (Ending.returned
 (Value.tuple
 #[Value.agg
 #[Value.int IntKind.i64 m_0, Value.int IntKind.i64 m_1, Value.int IntKind.i64 m_2,
 Value.int IntKind.i64 m_3, Value.slice m_4a m_4n m_4c],
 Value.int IntKind.i64 41]))
 w67) ∧
 ((!b65) = false →
 ∀ (w68 : World),
 Evo [n66] w60 w68 →
 Under [n1, n2, n3, n23, n66] w68 →
 Calls Proofs.Try.prog 60
 #[Value.agg
 #[Value.int IntKind.i64 x61, Value.int IntKind.i64 x62, Value.int IntKind.i64 x63, Value.int IntKind.i64 x64]]
 w68 fun (e69 : Ending) (w70 : World) =>
 ∃ (b71 : Bool),
 e69 = Ending.returned (Value.bool b71) ∧
 Keeps [n1, n2, n3, n23, n66] w68 w70 ∧
 ((!b71) = true →
 ∀ (w72 : World),
 Evo [n3] w70 w72 →
 Under [n1, n2, n3, n23, n66] w72 →
 R
 (Ending.returned
 (Value.tuple
 #[Value.agg
 #[Value.int IntKind.i64 m_0, Value.int IntKind.i64 m_1, Value.int IntKind.i64 m_2,
 Value.int IntKind.i64 m_3, Value.slice m_4a m_4n m_4c],
 Value.int IntKind.i64 41]))
 w72) ∧
 ((!b71) = false →
 ∀ (w73 : World),
 Evo [n23] w70 w73 →
 Under [n1, n2, n3, n23, n66] w73 →
 Calls Proofs.Try.prog 61
 #[Value.agg
 #[Value.int IntKind.i64 m_0, Value.int IntKind.i64 m_1, Value.int IntKind.i64 m_2,
 Value.int IntKind.i64 m_3, Value.slice m_4a m_4n m_4c],
 Value.int IntKind.i64 x7,
 Value.agg
 #[Value.int IntKind.i64 x16, Value.int IntKind.i64 x17, Value.int IntKind.i64 x61,
 Value.int IntKind.i64 x62, Value.int IntKind.i64 x63, Value.int IntKind.i64 x64,
 Value.bool b22]]
 w73 fun (e74 : Ending) (w75 : World) =>
 ∃ (x76 : Int),
 ∃ (x77 : Int),
 ∃ (x78 : Int),
 ∃ (x79 : Int),
 ∃ (a80 : Option Addr),
 ∃ (n81 : Nat),
 ∃ (n82 : Nat),
 e74 =
 Ending.returned
 (Value.agg
 #[Value.int IntKind.i64 x76, Value.int IntKind.i64 x77,
 Value.int IntKind.i64 x78, Value.int IntKind.i64 x79,
 Value.slice a80 n81 n82]) ∧
 Keeps [n1, n2, n3, n23, n66] w73 w75 ∧
 ∀ (w83 : World),
 Evo [n3] w75 w83 →
 Under [n1, n2, n3, n23, n66] w83 →
 R
 (Ending.returned
 (Value.tuple
 #[Value.agg
 #[Value.int IntKind.i64 x76, Value.int IntKind.i64 x77,
 Value.int IntKind.i64 x78, Value.int IntKind.i64 x79,
 Value.slice a80 n81 n82],
 Value.int IntKind.i64 0]))
 w83))) ∧
 ((a_0 == 6) = false →
 ∀ (w84 : World),
 Evo [n23] w6 w84 →
 Under [n1, n2, n3, n23] w84 →
 Calls Proofs.Try.prog 64
 #[Value.agg #[Value.int IntKind.i64 x18, Value.int IntKind.i64 x19, Value.int IntKind.i64 x20, Value.int IntKind.i64 x21],
 Value.agg #[Value.int IntKind.i64 a_3, Value.int IntKind.i64 a_4, Value.int IntKind.i64 a_5, Value.int IntKind.i64 a_6]]
 w84 fun (e85 : Ending) (w86 : World) =>
 ∃ (x87 : Int),
 ∃ (x88 : Int),
 ∃ (x89 : Int),
 ∃ (x90 : Int),
 ∃ (b91 : Bool),
 e85 =
 Ending.returned
 (Value.tuple
 #[Value.agg #[Value.int IntKind.i64 x87, Value.int IntKind.i64 x88, Value.int IntKind.i64 x89, Value.int IntKind.i64 x90],
 Value.bool b91]) ∧
 Keeps [n1, n2, n3, n23] w84 w86 ∧
 ∀ (n92 : Nat),
 w86.heap.size ≤ n92 →
 ((!b91) = true →
 ∀ (w93 : World),
 Evo [n3, n92] w86 w93 →
 Under [n1, n2, n3, n23, n92] w93 →
 R
 (Ending.returned
 (Value.tuple
 #[Value.agg
 #[Value.int IntKind.i64 m_0, Value.int IntKind.i64 m_1, Value.int IntKind.i64 m_2,
 Value.int IntKind.i64 m_3, Value.slice m_4a m_4n m_4c],
 Value.int IntKind.i64 30]))
 w93) ∧
 ((!b91) = false →
 ∀ (w94 : World),
 Evo [n23, n92] w86 w94 →
 Under [n1, n2, n3, n23, n92] w94 →
 Calls Proofs.Try.prog 61
 #[Value.agg
 #[Value.int IntKind.i64 m_0, Value.int IntKind.i64 m_1, Value.int IntKind.i64 m_2, Value.int IntKind.i64 m_3,
 Value.slice m_4a m_4n m_4c],
 Value.int IntKind.i64 x7,
 Value.agg
 #[Value.int IntKind.i64 x16, Value.int IntKind.i64 x17, Value.int IntKind.i64 x87, Value.int IntKind.i64 x88,
 Value.int IntKind.i64 x89, Value.int IntKind.i64 x90, Value.bool b22]]
 w94 fun (e95 : Ending) (w96 : World) =>
 ∃ (x97 : Int),
 ∃ (x98 : Int),
 ∃ (x99 : Int),
 ∃ (x100 : Int),
 ∃ (a101 : Option Addr),
 ∃ (n102 : Nat),
 ∃ (n103 : Nat),
 e95 =
 Ending.returned
 (Value.agg
 #[Value.int IntKind.i64 x97, Value.int IntKind.i64 x98, Value.int IntKind.i64 x99,
 Value.int IntKind.i64 x100, Value.slice a101 n102 n103]) ∧
 Keeps [n1, n2, n3, n23, n92] w94 w96 ∧
 ∀ (w104 : World),
 Evo [n3] w96 w104 →
 Under [n1, n2, n3, n23, n92] w104 →
 R
 (Ending.returned
 (Value.tuple
 #[Value.agg
 #[Value.int IntKind.i64 x97, Value.int IntKind.i64 x98, Value.int IntKind.i64 x99,
 Value.int IntKind.i64 x100, Value.slice a101 n102 n103],
 Value.int IntKind.i64 0]))
 w104)))))))))) ∧
 (decide (a_2 < 1) = false →
 ((a_0 == 0) = true →
 Calls Proofs.Try.prog 60 #[Value.agg #[Value.int IntKind.i64 a_3, Value.int IntKind.i64 a_4, Value.int IntKind.i64 a_5, Value.int IntKind.i64 a_6]] w6 fun (e105 : Ending) (w106 : World) =>
 ∃ (b107 : Bool),
 e105 = Ending.returned (Value.bool b107) ∧
 Keeps [n1, n2, n3] w6 w106 ∧
 ((!b107) = true →
 ∀ (w108 : World),
 Evo [n3] w106 w108 →
 Under [n1, n2, n3] w108 →
 R
 (Ending.returned
 (Value.tuple
 #[Value.agg #[Value.int IntKind.i64 m_0, Value.int IntKind.i64 m_1, Value.int IntKind.i64 m_2, Value.int IntKind.i64 m_3, Value.slice m_4a m_4n m_4c], Value.int IntKind.i64 41]))
 w108) ∧
 ((!b107) = false →
 ∀ (w109 : World),
 Evo [n3] w106 w109 →
 Under [n1, n2, n3] w109 →
 R
 (Ending.returned
 (Value.tuple
 #[Value.agg #[Value.int IntKind.i64 a_3, Value.int IntKind.i64 a_4, Value.int IntKind.i64 a_5, Value.int IntKind.i64 a_6, Value.slice m_4a m_4n m_4c], Value.int IntKind.i64 0]))
 w109)) ∧
 ((a_0 == 0) = false →
 ((a_0 == 1) = true →
 (decide (a_2 > 1000) = true →
 ∀ (w110 : World),
 Evo [n3] w6 w110 →
 Under [n1, n2, n3] w110 →
 R
 (Ending.returned
 (Value.tuple
 #[Value.agg #[Value.int IntKind.i64 m_0, Value.int IntKind.i64 m_1, Value.int IntKind.i64 m_2, Value.int IntKind.i64 m_3, Value.slice m_4a m_4n m_4c], Value.int IntKind.i64 41]))
 w110) ∧
 (decide (a_2 > 1000) = false →
 (decide (x7 ≥ 0) = true →
 ∀ (w111 : World),
 Evo [n3] w6 w111 →
 Under [n1, n2, n3] w111 →
 R
 (Ending.returned
 (Value.tuple
 #[Value.agg #[Value.int IntKind.i64 m_0, Value.int IntKind.i64 m_1, Value.int IntKind.i64 m_2, Value.int IntKind.i64 m_3, Value.slice m_4a m_4n m_4c], Value.int IntKind.i64 42]))
 w111) ∧
 (decide (x7 ≥ 0) = false →
 Calls Proofs.Try.prog 61
 #[Value.agg #[Value.int IntKind.i64 m_0, Value.int IntKind.i64 m_1, Value.int IntKind.i64 m_2, Value.int IntKind.i64 m_3, Value.slice m_4a m_4n m_4c], Value.int IntKind.i64 (-1),
 Value.agg #[Value.int IntKind.i64 a_1, Value.int IntKind.i64 a_2, Value.int IntKind.i64 0, Value.int IntKind.i64 0, Value.int IntKind.i64 0, Value.int IntKind.i64 0, Value.bool true]]
 w6 fun (e112 : Ending) (w113 : World) =>
 ∃ (x114 : Int),
 ∃ (x115 : Int),
 ∃ (x116 : Int),
 ∃ (x117 : Int),
 ∃ (a118 : Option Addr),
 ∃ (n119 : Nat),
 ∃ (n120 : Nat),
 e112 = Ending.returned (Value.agg #[Value.int IntKind.i64 x114, Value.int IntKind.i64 x115, Value.int IntKind.i64 x116, Value.int IntKind.i64 x117, Value.slice a118 n119 n120]) ∧
 Keeps [n1, n2, n3] w6 w113 ∧
 ∀ (w121 : World),
 Evo [n3] w113 w121 →
 Under [n1, n2, n3] w121 →
 R
 (Ending.returned
 (Value.tuple
 #[Value.agg #[Value.int IntKind.i64 x114, Value.int IntKind.i64 x115, Value.int IntKind.i64 x116, Value.int IntKind.i64 x117, Value.slice a118 n119 n120],
 Value.int IntKind.i64 0]))
 w121))) ∧
 ((a_0 == 1) = false →
 (decide (x7 < 0) = true →
 ∀ (w122 : World),
 Evo [n3] w6 w122 →
 Under [n1, n2, n3] w122 →
 R
 (Ending.returned
 (Value.tuple
 #[Value.agg #[Value.int IntKind.i64 m_0, Value.int IntKind.i64 m_1, Value.int IntKind.i64 m_2, Value.int IntKind.i64 m_3, Value.slice m_4a m_4n m_4c], Value.int IntKind.i64 43]))
 w122) ∧
 (decide (x7 < 0) = false →
 ∃ (ad123 : Addr),
 Gives Proofs.Try.prog (Instr.indexAt 52 (Value.slice m_4a m_4n m_4c) (Value.int IntKind.i64 x7)) (Value.pointer (some ad123)) ∧
 ∃ (x124 : Int),
 ∃ (x125 : Int),
 ∃ (x126 : Int),
 ∃ (x127 : Int),
 ∃ (x128 : Int),
 ∃ (x129 : Int),
 ∃ (b130 : Bool),
 Reads Proofs.Try.prog [] (Instr.loadAt 63 (Value.pointer (some ad123))) w6
 (Value.agg
 #[Value.int IntKind.i64 x124, Value.int IntKind.i64 x125, Value.int IntKind.i64 x126, Value.int IntKind.i64 x127, Value.int IntKind.i64 x128, Value.int IntKind.i64 x129,
 Value.bool b130]) ∧
 ∀ (n131 : Nat),
 w6.heap.size ≤ n131 →
 ((a_0 == 2) = true →
 ∀ (w132 : World),
 Evo [n131] w6 w132 →
 Under [n1, n2, n3, n131] w132 →
 Calls Proofs.Try.prog 62
 #[Value.agg #[Value.int IntKind.i64 m_0, Value.int IntKind.i64 m_1, Value.int IntKind.i64 m_2, Value.int IntKind.i64 m_3, Value.slice m_4a m_4n m_4c],
 Value.int IntKind.i64 x7]
 w132 fun (e133 : Ending) (w134 : World) =>
 ∃ (x135 : Int),
 ∃ (x136 : Int),
 ∃ (x137 : Int),
 ∃ (x138 : Int),
 ∃ (a139 : Option Addr),
 ∃ (n140 : Nat),
 ∃ (n141 : Nat),
 e133 =
 Ending.returned
 (Value.agg
 #[Value.int IntKind.i64 x135, Value.int IntKind.i64 x136, Value.int IntKind.i64 x137, Value.int IntKind.i64 x138,
 Value.slice a139 n140 n141]) ∧
 Keeps [n1, n2, n3, n131] w132 w134 ∧
 ∀ (w142 : World),
 Evo [n3] w134 w142 →
 Under [n1, n2, n3, n131] w142 →
 R
 (Ending.returned
 (Value.tuple
 #[Value.agg
 #[Value.int IntKind.i64 x135, Value.int IntKind.i64 x136, Value.int IntKind.i64 x137, Value.int IntKind.i64 x138,
 Value.slice a139 n140 n141],
 Value.int IntKind.i64 0]))
 w142) ∧
 ((a_0 == 2) = false →
 ((a_0 == 3) = true →
 (decide (a_2 > 1000) = true →
 ∀ (w143 : World),
 Evo [n3, n131] w6 w143 →
 Under [n1, n2, n3, n131] w143 →
 R
 (Ending.returned
 (Value.tuple
 #[Value.agg #[Value.int IntKind.i64 m_0, Value.int IntKind.i64 m_1, Value.int IntKind.i64 m_2, Value.int IntKind.i64 m_3, Value.slice m_4a m_4n m_4c],
 Value.int IntKind.i64 41]))
 w143) ∧
 (decide (a_2 > 1000) = false →
 ∀ (w144 : World),
 Evo [n131, n131] w6 w144 →
 Under [n1, n2, n3, n131] w144 →
 Calls Proofs.Try.prog 61
 #[Value.agg #[Value.int IntKind.i64 m_0, Value.int IntKind.i64 m_1, Value.int IntKind.i64 m_2, Value.int IntKind.i64 m_3, Value.slice m_4a m_4n m_4c],
 Value.int IntKind.i64 x7,
 Value.agg
 #[Value.int IntKind.i64 x124, Value.int IntKind.i64 a_2, Value.int IntKind.i64 x126, Value.int IntKind.i64 x127, Value.int IntKind.i64 x128,
 Value.int IntKind.i64 x129, Value.bool b130]]
 w144 fun (e145 : Ending) (w146 : World) =>
 ∃ (x147 : Int),
 ∃ (x148 : Int),
 ∃ (x149 : Int),
 ∃ (x150 : Int),
 ∃ (a151 : Option Addr),
 ∃ (n152 : Nat),
 ∃ (n153 : Nat),
 e145 =
 Ending.returned
 (Value.agg
 #[Value.int IntKind.i64 x147, Value.int IntKind.i64 x148, Value.int IntKind.i64 x149, Value.int IntKind.i64 x150,
 Value.slice a151 n152 n153]) ∧
 Keeps [n1, n2, n3, n131] w144 w146 ∧
 ∀ (w154 : World),
 Evo [n3] w146 w154 →
 Under [n1, n2, n3, n131] w154 →
 R
 (Ending.returned
 (Value.tuple
 #[Value.agg
 #[Value.int IntKind.i64 x147, Value.int IntKind.i64 x148, Value.int IntKind.i64 x149, Value.int IntKind.i64 x150,
 Value.slice a151 n152 n153],
 Value.int IntKind.i64 0]))
 w154)) ∧
 ((a_0 == 3) = false →
 ((a_0 == 4) = true →
 ∀ (w155 : World),
 Evo [n131, n131] w6 w155 →
 Under [n1, n2, n3, n131] w155 →
 Calls Proofs.Try.prog 61
 #[Value.agg #[Value.int IntKind.i64 m_0, Value.int IntKind.i64 m_1, Value.int IntKind.i64 m_2, Value.int IntKind.i64 m_3, Value.slice m_4a m_4n m_4c],
 Value.int IntKind.i64 x7,
 Value.agg
 #[Value.int IntKind.i64 x124, Value.int IntKind.i64 x125, Value.int IntKind.i64 x126, Value.int IntKind.i64 x127, Value.int IntKind.i64 x128,
 Value.int IntKind.i64 x129, Value.bool true]]
 w155 fun (e156 : Ending) (w157 : World) =>
 ∃ (x158 : Int),
 ∃ (x159 : Int),
 ∃ (x160 : Int),
 ∃ (x161 : Int),
 ∃ (a162 : Option Addr),
 ∃ (n163 : Nat),
 ∃ (n164 : Nat),
 e156 =
 Ending.returned
 (Value.agg
 #[Value.int IntKind.i64 x158, Value.int IntKind.i64 x159, Value.int IntKind.i64 x160, Value.int IntKind.i64 x161,
 Value.slice a162 n163 n164]) ∧
 Keeps [n1, n2, n3, n131] w155 w157 ∧
 ∀ (w165 : World),
 Evo [n3] w157 w165 →
 Under [n1, n2, n3, n131] w165 →
 R
 (Ending.returned
 (Value.tuple
 #[Value.agg
 #[Value.int IntKind.i64 x158, Value.int IntKind.i64 x159, Value.int IntKind.i64 x160, Value.int IntKind.i64 x161,
 Value.slice a162 n163 n164],
 Value.int IntKind.i64 0]))
 w165) ∧
 ((a_0 == 4) = false →
 ((a_0 == 5) = true →
 ∀ (w166 : World),
 Evo [n131, n131] w6 w166 →
 Under [n1, n2, n3, n131] w166 →
 Calls Proofs.Try.prog 61
 #[Value.agg #[Value.int IntKind.i64 m_0, Value.int IntKind.i64 m_1, Value.int IntKind.i64 m_2, Value.int IntKind.i64 m_3, Value.slice m_4a m_4n m_4c],
 Value.int IntKind.i64 x7,
 Value.agg
 #[Value.int IntKind.i64 x124, Value.int IntKind.i64 x125, Value.int IntKind.i64 x126, Value.int IntKind.i64 x127, Value.int IntKind.i64 x128,
 Value.int IntKind.i64 x129, Value.bool false]]
 w166 fun (e167 : Ending) (w168 : World) =>
 ∃ (x169 : Int),
 ∃ (x170 : Int),
 ∃ (x171 : Int),
 ∃ (x172 : Int),
 ∃ (a173 : Option Addr),
 ∃ (n174 : Nat),
 ∃ (n175 : Nat),
 e167 =
 Ending.returned
 (Value.agg
 #[Value.int IntKind.i64 x169, Value.int IntKind.i64 x170, Value.int IntKind.i64 x171, Value.int IntKind.i64 x172,
 Value.slice a173 n174 n175]) ∧
 Keeps [n1, n2, n3, n131] w166 w168 ∧
 ∀ (w176 : World),
 Evo [n3] w168 w176 →
 Under [n1, n2, n3, n131] w176 →
 R
 (Ending.returned
 (Value.tuple
 #[Value.agg
 #[Value.int IntKind.i64 x169, Value.int IntKind.i64 x170, Value.int IntKind.i64 x171, Value.int IntKind.i64 x172,
 Value.slice a173 n174 n175],
 Value.int IntKind.i64 0]))
 w176) ∧
 ((a_0 == 5) = false →
 ((a_0 == 6) = true →
 ∀ (w177 : World),
 Evo [n131] w6 w177 →
 Under [n1, n2, n3, n131] w177 →
 Calls Proofs.Try.prog 63
 #[Value.agg #[Value.int IntKind.i64 x126, Value.int IntKind.i64 x127, Value.int IntKind.i64 x128, Value.int IntKind.i64 x129],
 Value.agg #[Value.int IntKind.i64 a_3, Value.int IntKind.i64 a_4, Value.int IntKind.i64 a_5, Value.int IntKind.i64 a_6]]
 w177 fun (e178 : Ending) (w179 : World) =>
 ∃ (x180 : Int),
 ∃ (x181 : Int),
 ∃ (x182 : Int),
 ∃ (x183 : Int),
 ∃ (b184 : Bool),
 e178 =
 Ending.returned
 (Value.tuple
 #[Value.agg #[Value.int IntKind.i64 x180, Value.int IntKind.i64 x181, Value.int IntKind.i64 x182, Value.int IntKind.i64 x183],
 Value.bool b184]) ∧
 Keeps [n1, n2, n3, n131] w177 w179 ∧
 ∀ (n185 : Nat),
 w179.heap.size ≤ n185 →
 ((!b184) = true →
 ∀ (w186 : World),
 Evo [n3, n185] w179 w186 →
 Under [n1, n2, n3, n131, n185] w186 →
 R
 (Ending.returned
 (Value.tuple
 #[Value.agg
 #[Value.int IntKind.i64 m_0, Value.int IntKind.i64 m_1, Value.int IntKind.i64 m_2,
 Value.int IntKind.i64 m_3, Value.slice m_4a m_4n m_4c],
 Value.int IntKind.i64 41]))
 w186) ∧
 ((!b184) = false →
 ∀ (w187 : World),
 Evo [n185] w179 w187 →
 Under [n1, n2, n3, n131, n185] w187 →
 Calls Proofs.Try.prog 60
 #[Value.agg
 #[Value.int IntKind.i64 x180, Value.int IntKind.i64 x181, Value.int IntKind.i64 x182,
 Value.int IntKind.i64 x183]]
 w187 fun (e188 : Ending) (w189 : World) =>
 ∃ (b190 : Bool),
 e188 = Ending.returned (Value.bool b190) ∧
 Keeps [n1, n2, n3, n131, n185] w187 w189 ∧
 ((!b190) = true →
 ∀ (w191 : World),
 Evo [n3] w189 w191 →
 Under [n1, n2, n3, n131, n185] w191 →
 R
 (Ending.returned
 (Value.tuple
 #[Value.agg
 #[Value.int IntKind.i64 m_0, Value.int IntKind.i64 m_1, Value.int IntKind.i64 m_2,
 Value.int IntKind.i64 m_3, Value.slice m_4a m_4n m_4c],
 Value.int IntKind.i64 41]))
 w191) ∧
 ((!b190) = false →
 ∀ (w192 : World),
 Evo [n131] w189 w192 →
 Under [n1, n2, n3, n131, n185] w192 →
 Calls Proofs.Try.prog 61
 #[Value.agg
 #[Value.int IntKind.i64 m_0, Value.int IntKind.i64 m_1, Value.int IntKind.i64 m_2,
 Value.int IntKind.i64 m_3, Value.slice m_4a m_4n m_4c],
 Value.int IntKind.i64 x7,
 Value.agg
 #[Value.int IntKind.i64 x124, Value.int IntKind.i64 x125, Value.int IntKind.i64 x180,
 Value.int IntKind.i64 x181, Value.int IntKind.i64 x182, Value.int IntKind.i64 x183,
 Value.bool b130]]
 w192 fun (e193 : Ending) (w194 : World) =>
 ∃ (x195 : Int),
 ∃ (x196 : Int),
 ∃ (x197 : Int),
 ∃ (x198 : Int),
 ∃ (a199 : Option Addr),
 ∃ (n200 : Nat),
 ∃ (n201 : Nat),
 e193 =
 Ending.returned
 (Value.agg
 #[Value.int IntKind.i64 x195, Value.int IntKind.i64 x196,
 Value.int IntKind.i64 x197, Value.int IntKind.i64 x198,
 Value.slice a199 n200 n201]) ∧
 Keeps [n1, n2, n3, n131, n185] w192 w194 ∧
 ∀ (w202 : World),
 Evo [n3] w194 w202 →
 Under [n1, n2, n3, n131, n185] w202 →
 R
 (Ending.returned
 (Value.tuple
 #[Value.agg
 #[Value.int IntKind.i64 x195, Value.int IntKind.i64 x196,
 Value.int IntKind.i64 x197, Value.int IntKind.i64 x198,
 Value.slice a199 n200 n201],
 Value.int IntKind.i64 0]))
 w202))) ∧
 ((a_0 == 6) = false →
 ∀ (w203 : World),
 Evo [n131] w6 w203 →
 Under [n1, n2, n3, n131] w203 →
 Calls Proofs.Try.prog 64
 #[Value.agg #[Value.int IntKind.i64 x126, Value.int IntKind.i64 x127, Value.int IntKind.i64 x128, Value.int IntKind.i64 x129],
 Value.agg #[Value.int IntKind.i64 a_3, Value.int IntKind.i64 a_4, Value.int IntKind.i64 a_5, Value.int IntKind.i64 a_6]]
 w203 fun (e204 : Ending) (w205 : World) =>
 ∃ (x206 : Int),
 ∃ (x207 : Int),
 ∃ (x208 : Int),
 ∃ (x209 : Int),
 ∃ (b210 : Bool),
 e204 =
 Ending.returned
 (Value.tuple
 #[Value.agg #[Value.int IntKind.i64 x206, Value.int IntKind.i64 x207, Value.int IntKind.i64 x208, Value.int IntKind.i64 x209],
 Value.bool b210]) ∧
 Keeps [n1, n2, n3, n131] w203 w205 ∧
 ∀ (n211 : Nat),
 w205.heap.size ≤ n211 →
 ((!b210) = true →
 ∀ (w212 : World),
 Evo [n3, n211] w205 w212 →
 Under [n1, n2, n3, n131, n211] w212 →
 R
 (Ending.returned
 (Value.tuple
 #[Value.agg
 #[Value.int IntKind.i64 m_0, Value.int IntKind.i64 m_1, Value.int IntKind.i64 m_2,
 Value.int IntKind.i64 m_3, Value.slice m_4a m_4n m_4c],
 Value.int IntKind.i64 30]))
 w212) ∧
 ((!b210) = false →
 ∀ (w213 : World),
 Evo [n131, n211] w205 w213 →
 Under [n1, n2, n3, n131, n211] w213 →
 Calls Proofs.Try.prog 61
 #[Value.agg
 #[Value.int IntKind.i64 m_0, Value.int IntKind.i64 m_1, Value.int IntKind.i64 m_2, Value.int IntKind.i64 m_3,
 Value.slice m_4a m_4n m_4c],
 Value.int IntKind.i64 x7,
 Value.agg
 #[Value.int IntKind.i64 x124, Value.int IntKind.i64 x125, Value.int IntKind.i64 x206,
 Value.int IntKind.i64 x207, Value.int IntKind.i64 x208, Value.int IntKind.i64 x209, Value.bool b130]]
 w213 fun (e214 : Ending) (w215 : World) =>
 ∃ (x216 : Int),
 ∃ (x217 : Int),
 ∃ (x218 : Int),
 ∃ (x219 : Int),
 ∃ (a220 : Option Addr),
 ∃ (n221 : Nat),
 ∃ (n222 : Nat),
 e214 =
 Ending.returned
 (Value.agg
 #[Value.int IntKind.i64 x216, Value.int IntKind.i64 x217, Value.int IntKind.i64 x218,
 Value.int IntKind.i64 x219, Value.slice a220 n221 n222]) ∧
 Keeps [n1, n2, n3, n131, n211] w213 w215 ∧
 ∀ (w223 : World),
 Evo [n3] w215 w223 →
 Under [n1, n2, n3, n131, n211] w223 →
 R
 (Ending.returned
 (Value.tuple
 #[Value.agg
 #[Value.int IntKind.i64 x216, Value.int IntKind.i64 x217,
 Value.int IntKind.i64 x218, Value.int IntKind.i64 x219,
 Value.slice a220 n221 n222],
 Value.int IntKind.i64 0]))
 w223))))))))))
theorem f20_eq (m_0 : Int) (m_1 : Int) (m_2 : Int) (m_3 : Int) (m_4a : Option Addr) (m_4n : Nat) (m_4c : Nat) (a_0 : Int) (a_1 : Int) (a_2 : Int) (a_3 : Int) (a_4 : Int) (a_5 : Int) (a_6 : Int) (w : World) (R : Ending → World → Prop) : (fnF Go.Proofs.Try.prog h20 Go.Proofs.Try.f20 [Value.agg #[Value.int IntKind.i64 m_0, Value.int IntKind.i64 m_1, Value.int IntKind.i64 m_2, Value.int IntKind.i64 m_3, Value.slice m_4a m_4n m_4c],
 Value.agg #[Value.int IntKind.i64 a_0, Value.int IntKind.i64 a_1, Value.int IntKind.i64 a_2, Value.int IntKind.i64 a_3, Value.int IntKind.i64 a_4, Value.int IntKind.i64 a_5, Value.int IntKind.i64 a_6]] w R).den = f20_vc m_0 m_1 m_2 m_3 m_4a m_4n m_4c a_0 a_1 a_2 a_3 a_4 a_5 a_6 w R := by kernel_rfl
theorem f20_calls (m_0 : Int) (m_1 : Int) (m_2 : Int) (m_3 : Int) (m_4a : Option Addr) (m_4n : Nat) (m_4c : Nat) (a_0 : Int) (a_1 : Int) (a_2 : Int) (a_3 : Int) (a_4 : Int) (a_5 : Int) (a_6 : Int) (w : World) (R : Ending → World → Prop) (h : f20_vc m_0 m_1 m_2 m_3 m_4a m_4n m_4c a_0 a_1 a_2 a_3 a_4 a_5 a_6 w R) : Calls Go.Proofs.Try.prog 20 (List.toArray [Value.agg #[Value.int IntKind.i64 m_0, Value.int IntKind.i64 m_1, Value.int IntKind.i64 m_2, Value.int IntKind.i64 m_3, Value.slice m_4a m_4n m_4c],
 Value.agg #[Value.int IntKind.i64 a_0, Value.int IntKind.i64 a_1, Value.int IntKind.i64 a_2, Value.int IntKind.i64 a_3, Value.int IntKind.i64 a_4, Value.int IntKind.i64 a_5, Value.int IntKind.i64 a_6]]) w R :=
 fn_sound (H := h20) (fn := Go.Proofs.Try.f20) (by kernel_rfl) (by kernel_rfl) (by kernel_rfl) ((f20_eq m_0 m_1 m_2 m_3 m_4a m_4n m_4c a_0 a_1 a_2 a_3 a_4 a_5 a_6 w R).mpr h)


/-! (manciple/mancipleref09.M).Order -/
def h21 : Hints := ⟨[1], [32, 40, 45, 54, 66], [12, 19, 26, 48, 61, 35, 57], [(12, [0, 1, 2, 3, 4, 5, 6, 7, 8, 9, 10, 11, 12, 13, 14, 15, 16, 17, 18, 19])], [], [(3, ⟨[(3, .sl), (4, .int .i64)], []⟩), (6, ⟨[(3, .sl), (5, .int .i64)], []⟩), (10, ⟨[(6, .int .i64), (7, .int .i64)], []⟩)], [], [], []⟩
def f21_vc (m_0 : Int) (m_1 : Int) (m_2 : Int) (m_3 : Int) (m_4a : Option Addr) (m_4n : Nat) (m_4c : Nat) (w : World) (R : Ending → World → Prop) : Prop :=
 ∀ (n1 : Nat),
 w.heap.size ≤ n1 →
 ∃ (J2 : (Option Addr × Nat × Nat) × Int × Unit → World → Prop),
 ∃ (J3 : (Option Addr × Nat × Nat) × Int × Unit → World → Nat),
 (∀ (w4 : World), Bel w w4 → Under [n1] w4 → J2 ((none, 0, 0), 0, ()) w4) ∧
 ∀ (a5 : Option Addr) (n6 n7 : Nat) (x8 : Int) (w9 : World),
 J2 ((a5, n6, n7), x8, ()) w9 →
 (decide (x8 < (↑m_4n : Int)) = true →
 ∃ (J10 : (Option Addr × Nat × Nat) × Int × Unit → World → Prop),
 ∃ (J11 : (Option Addr × Nat × Nat) × Int × Unit → World → Nat),
 J10 ((a5, n6, n7), 0, ()) w9 ∧
 ∀ (a12 : Option Addr) (n13 n14 : Nat) (x15 : Int) (w16 : World),
 J10 ((a12, n13, n14), x15, ()) w16 →
 (decide (x15 < (↑m_4n : Int)) = true →
 ∃ (J17 : Int × Int × Unit → World → Prop),
 ∃ (J18 : Int × Int × Unit → World → Nat),
 J17 (0, 0, ()) w16 ∧
 ∀ (x19 x20 : Int) (w21 : World),
 J17 (x19, x20, ()) w21 →
 (decide (x20 < (↑m_4n : Int)) = true →
 ∃ (ad22 : Addr),
 Gives Proofs.Try.prog (Instr.indexAt 52 (Value.slice m_4a m_4n m_4c) (Value.int IntKind.i64 x20)) (Value.pointer (some ad22)) ∧
 ∃ (b23 : Bool),
 Reads Proofs.Try.prog [] (Instr.loadAt 4 (Value.pointer (some (Addr.mk ad22.block (ad22.off + 6) none)))) w21 (Value.bool b23) ∧
 (b23 = true →
 ∃ (ad24 : Addr),
 Gives Proofs.Try.prog (Instr.indexAt 52 (Value.slice m_4a m_4n m_4c) (Value.int IntKind.i64 x20)) (Value.pointer (some ad24)) ∧
 ∃ (x25 : Int),
 ∃ (x26 : Int),
 ∃ (x27 : Int),
 ∃ (x28 : Int),
 ∃ (x29 : Int),
 ∃ (x30 : Int),
 ∃ (b31 : Bool),
 Reads Proofs.Try.prog [] (Instr.loadAt 63 (Value.pointer (some ad24))) w21
 (Value.agg
 #[Value.int IntKind.i64 x25, Value.int IntKind.i64 x26, Value.int IntKind.i64 x27, Value.int IntKind.i64 x28, Value.int IntKind.i64 x29,
 Value.int IntKind.i64 x30, Value.bool b31]) ∧
 ∃ (ad32 : Addr),
 Gives Proofs.Try.prog (Instr.indexAt 52 (Value.slice m_4a m_4n m_4c) (Value.int IntKind.i64 x15)) (Value.pointer (some ad32)) ∧
 ∃ (x33 : Int),
 ∃ (x34 : Int),
 ∃ (x35 : Int),
 ∃ (x36 : Int),
 ∃ (x37 : Int),
 ∃ (x38 : Int),
 ∃ (b39 : Bool),
 Reads Proofs.Try.prog [] (Instr.loadAt 63 (Value.pointer (some ad32))) w21
 (Value.agg
 #[Value.int IntKind.i64 x33, Value.int IntKind.i64 x34, Value.int IntKind.i64 x35, Value.int IntKind.i64 x36, Value.int IntKind.i64 x37,
 Value.int IntKind.i64 x38, Value.bool b39]) ∧
 ∀ (w40 : World),
 Bel w21 w40 →
 Under [n1] w40 →
 Calls Proofs.Try.prog 65
 #[Value.agg
 #[Value.int IntKind.i64 m_0, Value.int IntKind.i64 m_1, Value.int IntKind.i64 m_2, Value.int IntKind.i64 m_3,
 Value.slice m_4a m_4n m_4c],
 Value.agg
 #[Value.int IntKind.i64 x25, Value.int IntKind.i64 x26, Value.int IntKind.i64 x27, Value.int IntKind.i64 x28,
 Value.int IntKind.i64 x29, Value.int IntKind.i64 x30, Value.bool b31],
 Value.agg
 #[Value.int IntKind.i64 x33, Value.int IntKind.i64 x34, Value.int IntKind.i64 x35, Value.int IntKind.i64 x36,
 Value.int IntKind.i64 x37, Value.int IntKind.i64 x38, Value.bool b39]]
 w40 fun (e41 : Ending) (w42 : World) =>
 ∃ (b43 : Bool),
 e41 = Ending.returned (Value.bool b43) ∧
 Keeps [n1] w40 w42 ∧
 Reads Proofs.Try.prog [] (Instr.loadAt 4 (Value.pointer (some (Addr.mk ad22.block (ad22.off + 6) none)))) w42 (Value.bool b23) ∧
 (b43 = true →
 J17 (IntKind.i64.wrap (x19 + 1), IntKind.i64.wrap (x20 + 1), ()) w42 ∧
 J18 (IntKind.i64.wrap (x19 + 1), IntKind.i64.wrap (x20 + 1), ()) w42 < J18 (x19, x20, ()) w21) ∧
 (b43 = false →
 J17 (x19, IntKind.i64.wrap (x20 + 1), ()) w42 ∧ J18 (x19, IntKind.i64.wrap (x20 + 1), ()) w42 < J18 (x19, x20, ()) w21)) ∧
 (b23 = false →
 ∀ (w44 : World), Bel w21 w44 → Under [n1] w44 → J17 (x19, IntKind.i64.wrap (x20 + 1), ()) w44 ∧ J18 (x19, IntKind.i64.wrap (x20 + 1), ()) w44 < J18 (x19, x20, ()) w21)) ∧
 (decide (x20 < (↑m_4n : Int)) = false →
 ∃ (ad45 : Addr),
 Gives Proofs.Try.prog (Instr.indexAt 52 (Value.slice m_4a m_4n m_4c) (Value.int IntKind.i64 x15)) (Value.pointer (some ad45)) ∧
 ∃ (b46 : Bool),
 Reads Proofs.Try.prog [] (Instr.loadAt 4 (Value.pointer (some (Addr.mk ad45.block (ad45.off + 6) none)))) w21 (Value.bool b46) ∧
 (b46 = true →
 ((x19 == x8) = true →
 ∃ (ad47 : Addr),
 Gives Proofs.Try.prog (Instr.indexAt 52 (Value.slice m_4a m_4n m_4c) (Value.int IntKind.i64 x15)) (Value.pointer (some ad47)) ∧
 ∃ (x48 : Int),
 Reads Proofs.Try.prog [] (Instr.loadAt 2 (Value.pointer (some ad47))) w21 (Value.int IntKind.i64 x48) ∧
 OpW Proofs.Try.prog (valueS (Instr.buildSlice 29 1 #[(0, Value.int IntKind.i64 x48)])) w21 fun (v49 : Value) (w50 : World) =>
 ∃ (a51 : Option Addr),
 ∃ (n52 : Nat),
 ∃ (n53 : Nat),
 v49 = Value.slice a51 n52 n53 ∧
 Keeps [n1] w21 w50 ∧
 OpW Proofs.Try.prog (builtin Builtin.append #[29, 29] 29 #[false, false] #[Value.slice a12 n13 n14, Value.slice a51 n52 n53]) w50
 fun (v54 : Value) (w55 : World) =>
 ∃ (a56 : Option Addr),
 ∃ (n57 : Nat),
 ∃ (n58 : Nat),
 v54 = Value.slice a56 n57 n58 ∧
 Keeps [n1] w50 w55 ∧
 J10 ((a56, n57, n58), IntKind.i64.wrap (x15 + 1), ()) w55 ∧
 J11 ((a56, n57, n58), IntKind.i64.wrap (x15 + 1), ()) w55 < J11 ((a12, n13, n14), x15, ()) w16) ∧
 ((x19 == x8) = false →
 J10 ((a12, n13, n14), IntKind.i64.wrap (x15 + 1), ()) w21 ∧ J11 ((a12, n13, n14), IntKind.i64.wrap (x15 + 1), ()) w21 < J11 ((a12, n13, n14), x15, ()) w16)) ∧
 (b46 = false → J10 ((a12, n13, n14), IntKind.i64.wrap (x15 + 1), ()) w21 ∧ J11 ((a12, n13, n14), IntKind.i64.wrap (x15 + 1), ()) w21 < J11 ((a12, n13, n14), x15, ()) w16))) ∧
 (decide (x15 < (↑m_4n : Int)) = false → J2 ((a12, n13, n14), IntKind.i64.wrap (x8 + 1), ()) w16 ∧ J3 ((a12, n13, n14), IntKind.i64.wrap (x8 + 1), ()) w16 < J3 ((a5, n6, n7), x8, ()) w9)) ∧
 (decide (x8 < (↑m_4n : Int)) = false → R (Ending.returned (Value.slice a5 n6 n7)) w9)
theorem f21_eq (m_0 : Int) (m_1 : Int) (m_2 : Int) (m_3 : Int) (m_4a : Option Addr) (m_4n : Nat) (m_4c : Nat) (w : World) (R : Ending → World → Prop) : (fnF Go.Proofs.Try.prog h21 Go.Proofs.Try.f21 [Value.agg #[Value.int IntKind.i64 m_0, Value.int IntKind.i64 m_1, Value.int IntKind.i64 m_2, Value.int IntKind.i64 m_3, Value.slice m_4a m_4n m_4c]] w R).den = f21_vc m_0 m_1 m_2 m_3 m_4a m_4n m_4c w R := by kernel_rfl
theorem f21_calls (m_0 : Int) (m_1 : Int) (m_2 : Int) (m_3 : Int) (m_4a : Option Addr) (m_4n : Nat) (m_4c : Nat) (w : World) (R : Ending → World → Prop) (h : f21_vc m_0 m_1 m_2 m_3 m_4a m_4n m_4c w R) : Calls Go.Proofs.Try.prog 21 (List.toArray [Value.agg #[Value.int IntKind.i64 m_0, Value.int IntKind.i64 m_1, Value.int IntKind.i64 m_2, Value.int IntKind.i64 m_3, Value.slice m_4a m_4n m_4c]]) w R :=
 fn_sound (H := h21) (fn := Go.Proofs.Try.f21) (by kernel_rfl) (by kernel_rfl) (by kernel_rfl) ((f21_eq m_0 m_1 m_2 m_3 m_4a m_4n m_4c w R).mpr h)


/-! (manciple/mancipleref09.M).At -/
def h24 : Hints := ⟨[2], [16], [10, 20], [], [], [(2, ⟨[(5, .int .i64)], []⟩)], [], [], []⟩
def f24_vc (m_0 : Int) (m_1 : Int) (m_2 : Int) (m_3 : Int) (m_4a : Option Addr) (m_4n : Nat) (m_4c : Nat) (id : Int) (w : World) (R : Ending → World → Prop) : Prop :=
 ∀ (n1 : Nat),
 w.heap.size ≤ n1 →
 ∃ (J2 : Int × Unit → World → Prop),
 ∃ (J3 : Int × Unit → World → Nat),
 (∀ (w4 : World), Bel w w4 → Under [n1] w4 → J2 (0, ()) w4) ∧
 ∀ (x5 : Int) (w6 : World),
 J2 (x5, ()) w6 →
 (decide (x5 < (↑m_4n : Int)) = true →
 ∃ (ad7 : Addr),
 Gives Proofs.Try.prog (Instr.indexAt 52 (Value.slice m_4a m_4n m_4c) (Value.int IntKind.i64 x5)) (Value.pointer (some ad7)) ∧
 ∃ (x8 : Int),
 Reads Proofs.Try.prog [] (Instr.loadAt 2 (Value.pointer (some ad7))) w6 (Value.int IntKind.i64 x8) ∧
 ((x8 == id) = true → R (Ending.returned (Value.int IntKind.i64 x5)) w6) ∧ ((x8 == id) = false → J2 (IntKind.i64.wrap (x5 + 1), ()) w6 ∧ J3 (IntKind.i64.wrap (x5 + 1), ()) w6 < J3 (x5, ()) w6)) ∧
 (decide (x5 < (↑m_4n : Int)) = false → R (Ending.returned (Value.int IntKind.i64 (-1))) w6)
theorem f24_eq (m_0 : Int) (m_1 : Int) (m_2 : Int) (m_3 : Int) (m_4a : Option Addr) (m_4n : Nat) (m_4c : Nat) (id : Int) (w : World) (R : Ending → World → Prop) : (fnF Go.Proofs.Try.prog h24 Go.Proofs.Try.f24 [Value.agg #[Value.int IntKind.i64 m_0, Value.int IntKind.i64 m_1, Value.int IntKind.i64 m_2, Value.int IntKind.i64 m_3, Value.slice m_4a m_4n m_4c], Value.int IntKind.i64 id] w R).den = f24_vc m_0 m_1 m_2 m_3 m_4a m_4n m_4c id w R := by kernel_rfl
theorem f24_calls (m_0 : Int) (m_1 : Int) (m_2 : Int) (m_3 : Int) (m_4a : Option Addr) (m_4n : Nat) (m_4c : Nat) (id : Int) (w : World) (R : Ending → World → Prop) (h : f24_vc m_0 m_1 m_2 m_3 m_4a m_4n m_4c id w R) : Calls Go.Proofs.Try.prog 24 (List.toArray [Value.agg #[Value.int IntKind.i64 m_0, Value.int IntKind.i64 m_1, Value.int IntKind.i64 m_2, Value.int IntKind.i64 m_3, Value.slice m_4a m_4n m_4c], Value.int IntKind.i64 id]) w R :=
 fn_sound (H := h24) (fn := Go.Proofs.Try.f24) (by kernel_rfl) (by kernel_rfl) (by kernel_rfl) ((f24_eq m_0 m_1 m_2 m_3 m_4a m_4n m_4c id w R).mpr h)


/-! (manciple/mancipleref09.M).Part -/
def h25 : Hints := ⟨[2, 3, 4, 6], [], [], [], [], [], [], [], []⟩
def f25_vc (m_0 : Int) (m_1 : Int) (m_2 : Int) (m_3 : Int) (m_4a : Option Addr) (m_4n : Nat) (m_4c : Nat) (c_0 : Int) (c_1 : Int) (c_2 : Int) (c_3 : Int) (c_4 : Int) (c_5 : Int) (c_6 : Bool) (w : World) (R : Ending → World → Prop) : Prop :=
 ∀ (n1 : Nat),
 w.heap.size ≤ n1 →
 ∀ (n2 : Nat),
 w.heap.size ≤ n2 →
 ∀ (n3 : Nat),
 w.heap.size ≤ n3 →
 ∀ (w4 : World),
 Bel w w4 →
 Under [n1, n2, n3] w4 →
 Calls Proofs.Try.prog 67
 #[Value.agg #[Value.int IntKind.i64 c_2, Value.int IntKind.i64 c_3, Value.int IntKind.i64 c_4, Value.int IntKind.i64 c_5],
 Value.agg #[Value.int IntKind.i64 m_0, Value.int IntKind.i64 m_1, Value.int IntKind.i64 m_2, Value.int IntKind.i64 m_3]]
 w4 fun (e5 : Ending) (w6 : World) =>
 ∃ (x7 : Int),
 ∃ (x8 : Int),
 ∃ (x9 : Int),
 e5 = Ending.returned (Value.tuple #[Value.int IntKind.i64 x7, Value.agg #[Value.int IntKind.i64 x8, Value.int IntKind.i64 x9]]) ∧
 Keeps [n1, n2, n3] w4 w6 ∧
 ∀ (n10 : Nat), w6.heap.size ≤ n10 → ∀ (w11 : World), Evo [n3, n10] w6 w11 → Under [n1, n2, n3, n10] w11 → R (Ending.returned (Value.agg #[Value.int IntKind.i64 x8, Value.int IntKind.i64 x9])) w11
theorem f25_eq (m_0 : Int) (m_1 : Int) (m_2 : Int) (m_3 : Int) (m_4a : Option Addr) (m_4n : Nat) (m_4c : Nat) (c_0 : Int) (c_1 : Int) (c_2 : Int) (c_3 : Int) (c_4 : Int) (c_5 : Int) (c_6 : Bool) (w : World) (R : Ending → World → Prop) : (fnF Go.Proofs.Try.prog h25 Go.Proofs.Try.f25 [Value.agg #[Value.int IntKind.i64 m_0, Value.int IntKind.i64 m_1, Value.int IntKind.i64 m_2, Value.int IntKind.i64 m_3, Value.slice m_4a m_4n m_4c],
 Value.agg #[Value.int IntKind.i64 c_0, Value.int IntKind.i64 c_1, Value.int IntKind.i64 c_2, Value.int IntKind.i64 c_3, Value.int IntKind.i64 c_4, Value.int IntKind.i64 c_5, Value.bool c_6]] w R).den = f25_vc m_0 m_1 m_2 m_3 m_4a m_4n m_4c c_0 c_1 c_2 c_3 c_4 c_5 c_6 w R := by kernel_rfl
theorem f25_calls (m_0 : Int) (m_1 : Int) (m_2 : Int) (m_3 : Int) (m_4a : Option Addr) (m_4n : Nat) (m_4c : Nat) (c_0 : Int) (c_1 : Int) (c_2 : Int) (c_3 : Int) (c_4 : Int) (c_5 : Int) (c_6 : Bool) (w : World) (R : Ending → World → Prop) (h : f25_vc m_0 m_1 m_2 m_3 m_4a m_4n m_4c c_0 c_1 c_2 c_3 c_4 c_5 c_6 w R) : Calls Go.Proofs.Try.prog 25 (List.toArray [Value.agg #[Value.int IntKind.i64 m_0, Value.int IntKind.i64 m_1, Value.int IntKind.i64 m_2, Value.int IntKind.i64 m_3, Value.slice m_4a m_4n m_4c],
 Value.agg #[Value.int IntKind.i64 c_0, Value.int IntKind.i64 c_1, Value.int IntKind.i64 c_2, Value.int IntKind.i64 c_3, Value.int IntKind.i64 c_4, Value.int IntKind.i64 c_5, Value.bool c_6]]) w R :=
 fn_sound (H := h25) (fn := Go.Proofs.Try.f25) (by kernel_rfl) (by kernel_rfl) (by kernel_rfl) ((f25_eq m_0 m_1 m_2 m_3 m_4a m_4n m_4c c_0 c_1 c_2 c_3 c_4 c_5 c_6 w R).mpr h)


/-! manciple/mancipleref09.Small -/
def h60 : Hints := ⟨[1], [9, 14], [17, 12], [], [(2, 5)], [], [], [], []⟩
def f60_vc (a_0 : Int) (a_1 : Int) (a_2 : Int) (a_3 : Int) (w : World) (R : Ending → World → Prop) : Prop :=
 ∀ (n1 : Nat),
 w.heap.size ≤ n1 →
 (decide (a_0 < 0) = true → ∀ (w2 : World), Bel w w2 → Under [n1] w2 → R (Ending.returned (Value.bool false)) w2) ∧
 (decide (a_0 < 0) = false →
 (decide (a_0 > 9007199254740992) = true → ∀ (w3 : World), Bel w w3 → Under [n1] w3 → R (Ending.returned (Value.bool false)) w3) ∧
 (decide (a_0 > 9007199254740992) = false →
 (decide (a_1 < 0) = true → ∀ (w4 : World), Bel w w4 → Under [n1] w4 → R (Ending.returned (Value.bool false)) w4) ∧
 (decide (a_1 < 0) = false →
 (decide (a_1 > 9007199254740992) = true → ∀ (w5 : World), Bel w w5 → Under [n1] w5 → R (Ending.returned (Value.bool false)) w5) ∧
 (decide (a_1 > 9007199254740992) = false →
 (decide (a_2 < 0) = true → ∀ (w6 : World), Bel w w6 → Under [n1] w6 → R (Ending.returned (Value.bool false)) w6) ∧
 (decide (a_2 < 0) = false →
 (decide (a_2 > 9007199254740992) = true → ∀ (w7 : World), Bel w w7 → Under [n1] w7 → R (Ending.returned (Value.bool false)) w7) ∧
 (decide (a_2 > 9007199254740992) = false →
 (decide (a_3 < 0) = true → ∀ (w8 : World), Bel w w8 → Under [n1] w8 → R (Ending.returned (Value.bool false)) w8) ∧
 (decide (a_3 < 0) = false →
 (decide (a_3 > 9007199254740992) = true → ∀ (w9 : World), Bel w w9 → Under [n1] w9 → R (Ending.returned (Value.bool false)) w9) ∧
 (decide (a_3 > 9007199254740992) = false → ∀ (w10 : World), Bel w w10 → Under [n1] w10 → R (Ending.returned (Value.bool true)) w10))))))))
theorem f60_eq (a_0 : Int) (a_1 : Int) (a_2 : Int) (a_3 : Int) (w : World) (R : Ending → World → Prop) : (fnF Go.Proofs.Try.prog h60 Go.Proofs.Try.f60 [Value.agg #[Value.int IntKind.i64 a_0, Value.int IntKind.i64 a_1, Value.int IntKind.i64 a_2, Value.int IntKind.i64 a_3]] w R).den = f60_vc a_0 a_1 a_2 a_3 w R := by kernel_rfl
theorem f60_calls (a_0 : Int) (a_1 : Int) (a_2 : Int) (a_3 : Int) (w : World) (R : Ending → World → Prop) (h : f60_vc a_0 a_1 a_2 a_3 w R) : Calls Go.Proofs.Try.prog 60 (List.toArray [Value.agg #[Value.int IntKind.i64 a_0, Value.int IntKind.i64 a_1, Value.int IntKind.i64 a_2, Value.int IntKind.i64 a_3]]) w R :=
 fn_sound (H := h60) (fn := Go.Proofs.Try.f60) (by kernel_rfl) (by kernel_rfl) (by kernel_rfl) ((f60_eq a_0 a_1 a_2 a_3 w R).mpr h)


/-! (manciple/mancipleref09.M).with -/
def h61 : Hints := ⟨[3, 5, 6, 7], [33], [16, 21, 39], [(7, [0, 1, 2, 3, 4, 5, 6, 7, 8, 9, 10])], [], [(3, ⟨[(8, .int .i64)], [(7, .cons (.int .i64) (.cons (.int .i64) (.cons (.int .i64) (.cons (.int .i64) (.cons (.sl) (.nil))))))]⟩)], [], [], []⟩
def f61_vc (m_0 : Int) (m_1 : Int) (m_2 : Int) (m_3 : Int) (m_4a : Option Addr) (m_4n : Nat) (m_4c : Nat) (at' : Int) (c_0 : Int) (c_1 : Int) (c_2 : Int) (c_3 : Int) (c_4 : Int) (c_5 : Int) (c_6 : Bool) (w : World) (R : Ending → World → Prop) : Prop :=
 ∀ (n1 : Nat),
 w.heap.size ≤ n1 →
 ∀ (n2 : Nat),
 w.heap.size ≤ n2 →
 ∀ (n3 : Nat),
 w.heap.size ≤ n3 →
 ∀ (n4 : Nat),
 w.heap.size ≤ n4 →
 ∃ (J5 : Int × Int × Int × Int × Int × (Option Addr × Nat × Nat) × Unit → World → Prop),
 ∃ (J6 : Int × Int × Int × Int × Int × (Option Addr × Nat × Nat) × Unit → World → Nat),
 (∀ (w7 : World), Evo [n4] w w7 → Under [n1, n2, n3, n4] w7 → J5 (0, m_0, m_1, m_2, m_3, (none, 0, 0), ()) w7) ∧
 ∀ (x8 x9 x10 x11 x12 : Int) (a13 : Option Addr) (n14 n15 : Nat) (w16 : World),
 J5 (x8, x9, x10, x11, x12, (a13, n14, n15), ()) w16 →
 (decide (x8 < (↑m_4n : Int)) = true →
 ((x8 == at') = true →
 OpW Proofs.Try.prog
 (valueS
 (Instr.buildSlice 52 1
 #[(0, Value.agg #[Value.int IntKind.i64 c_0, Value.int IntKind.i64 c_1, Value.int IntKind.i64 c_2, Value.int IntKind.i64 c_3, Value.int IntKind.i64 c_4, Value.int IntKind.i64 c_5, Value.bool c_6])]))
 w16 fun (v17 : Value) (w18 : World) =>
 ∃ (a19 : Option Addr),
 ∃ (n20 : Nat),
 ∃ (n21 : Nat),
 v17 = Value.slice a19 n20 n21 ∧
 Keeps [n1, n2, n3, n4] w16 w18 ∧
 OpW Proofs.Try.prog (builtin Builtin.append #[52, 52] 52 #[false, false] #[Value.slice a13 n14 n15, Value.slice a19 n20 n21]) w18 fun (v22 : Value) (w23 : World) =>
 ∃ (a24 : Option Addr),
 ∃ (n25 : Nat),
 ∃ (n26 : Nat),
 v22 = Value.slice a24 n25 n26 ∧
 Keeps [n1, n2, n3, n4] w18 w23 ∧
 ∀ (w27 : World),
 Evo [n4] w23 w27 →
 Under [n1, n2, n3, n4] w27 →
 J5 (IntKind.i64.wrap (x8 + 1), x9, x10, x11, x12, (a24, n25, n26), ()) w27 ∧
 J6 (IntKind.i64.wrap (x8 + 1), x9, x10, x11, x12, (a24, n25, n26), ()) w27 < J6 (x8, x9, x10, x11, x12, (a13, n14, n15), ()) w16) ∧
 ((x8 == at') = false →
 ∃ (ad28 : Addr),
 Gives Proofs.Try.prog (Instr.indexAt 52 (Value.slice m_4a m_4n m_4c) (Value.int IntKind.i64 x8)) (Value.pointer (some ad28)) ∧
 ∃ (x29 : Int),
 ∃ (x30 : Int),
 ∃ (x31 : Int),
 ∃ (x32 : Int),
 ∃ (x33 : Int),
 ∃ (x34 : Int),
 ∃ (b35 : Bool),
 Reads Proofs.Try.prog [] (Instr.loadAt 63 (Value.pointer (some ad28))) w16
 (Value.agg
 #[Value.int IntKind.i64 x29, Value.int IntKind.i64 x30, Value.int IntKind.i64 x31, Value.int IntKind.i64 x32, Value.int IntKind.i64 x33, Value.int IntKind.i64 x34, Value.bool b35]) ∧
 ∀ (w36 : World),
 Bel w16 w36 →
 Under [n1, n2, n3, n4] w36 →
 OpW Proofs.Try.prog
 (valueS
 (Instr.buildSlice 52 1
 #[(0,
 Value.agg
 #[Value.int IntKind.i64 x29, Value.int IntKind.i64 x30, Value.int IntKind.i64 x31, Value.int IntKind.i64 x32, Value.int IntKind.i64 x33, Value.int IntKind.i64 x34,
 Value.bool b35])]))
 w36 fun (v37 : Value) (w38 : World) =>
 ∃ (a39 : Option Addr),
 ∃ (n40 : Nat),
 ∃ (n41 : Nat),
 v37 = Value.slice a39 n40 n41 ∧
 Keeps [n1, n2, n3, n4] w36 w38 ∧
 OpW Proofs.Try.prog (builtin Builtin.append #[52, 52] 52 #[false, false] #[Value.slice a13 n14 n15, Value.slice a39 n40 n41]) w38 fun (v42 : Value) (w43 : World) =>
 ∃ (a44 : Option Addr),
 ∃ (n45 : Nat),
 ∃ (n46 : Nat),
 v42 = Value.slice a44 n45 n46 ∧
 Keeps [n1, n2, n3, n4] w38 w43 ∧
 ∀ (w47 : World),
 Evo [n4] w43 w47 →
 Under [n1, n2, n3, n4] w47 →
 J5 (IntKind.i64.wrap (x8 + 1), x9, x10, x11, x12, (a44, n45, n46), ()) w47 ∧
 J6 (IntKind.i64.wrap (x8 + 1), x9, x10, x11, x12, (a44, n45, n46), ()) w47 < J6 (x8, x9, x10, x11, x12, (a13, n14, n15), ()) w16)) ∧
 (decide (x8 < (↑m_4n : Int)) = false →
 (decide (at' < 0) = true →
 OpW Proofs.Try.prog
 (valueS
 (Instr.buildSlice 52 1
 #[(0, Value.agg #[Value.int IntKind.i64 c_0, Value.int IntKind.i64 c_1, Value.int IntKind.i64 c_2, Value.int IntKind.i64 c_3, Value.int IntKind.i64 c_4, Value.int IntKind.i64 c_5, Value.bool c_6])]))
 w16 fun (v48 : Value) (w49 : World) =>
 ∃ (a50 : Option Addr),
 ∃ (n51 : Nat),
 ∃ (n52 : Nat),
 v48 = Value.slice a50 n51 n52 ∧
 Keeps [n1, n2, n3, n4] w16 w49 ∧
 OpW Proofs.Try.prog (builtin Builtin.append #[52, 52] 52 #[false, false] #[Value.slice a13 n14 n15, Value.slice a50 n51 n52]) w49 fun (v53 : Value) (w54 : World) =>
 ∃ (a55 : Option Addr),
 ∃ (n56 : Nat),
 ∃ (n57 : Nat),
 v53 = Value.slice a55 n56 n57 ∧
 Keeps [n1, n2, n3, n4] w49 w54 ∧
 ∀ (w58 : World),
 Evo [n3, n4] w54 w58 →
 Under [n1, n2, n3, n4] w58 →
 R (Ending.returned (Value.agg #[Value.int IntKind.i64 x9, Value.int IntKind.i64 x10, Value.int IntKind.i64 x11, Value.int IntKind.i64 x12, Value.slice a55 n56 n57])) w58) ∧
 (decide (at' < 0) = false →
 ∀ (w59 : World),
 Evo [n3] w16 w59 →
 Under [n1, n2, n3, n4] w59 → R (Ending.returned (Value.agg #[Value.int IntKind.i64 x9, Value.int IntKind.i64 x10, Value.int IntKind.i64 x11, Value.int IntKind.i64 x12, Value.slice a13 n14 n15])) w59))
theorem f61_eq (m_0 : Int) (m_1 : Int) (m_2 : Int) (m_3 : Int) (m_4a : Option Addr) (m_4n : Nat) (m_4c : Nat) (at' : Int) (c_0 : Int) (c_1 : Int) (c_2 : Int) (c_3 : Int) (c_4 : Int) (c_5 : Int) (c_6 : Bool) (w : World) (R : Ending → World → Prop) : (fnF Go.Proofs.Try.prog h61 Go.Proofs.Try.f61 [Value.agg #[Value.int IntKind.i64 m_0, Value.int IntKind.i64 m_1, Value.int IntKind.i64 m_2, Value.int IntKind.i64 m_3, Value.slice m_4a m_4n m_4c], Value.int IntKind.i64 at',
 Value.agg #[Value.int IntKind.i64 c_0, Value.int IntKind.i64 c_1, Value.int IntKind.i64 c_2, Value.int IntKind.i64 c_3, Value.int IntKind.i64 c_4, Value.int IntKind.i64 c_5, Value.bool c_6]] w R).den = f61_vc m_0 m_1 m_2 m_3 m_4a m_4n m_4c at' c_0 c_1 c_2 c_3 c_4 c_5 c_6 w R := by kernel_rfl
theorem f61_calls (m_0 : Int) (m_1 : Int) (m_2 : Int) (m_3 : Int) (m_4a : Option Addr) (m_4n : Nat) (m_4c : Nat) (at' : Int) (c_0 : Int) (c_1 : Int) (c_2 : Int) (c_3 : Int) (c_4 : Int) (c_5 : Int) (c_6 : Bool) (w : World) (R : Ending → World → Prop) (h : f61_vc m_0 m_1 m_2 m_3 m_4a m_4n m_4c at' c_0 c_1 c_2 c_3 c_4 c_5 c_6 w R) : Calls Go.Proofs.Try.prog 61 (List.toArray [Value.agg #[Value.int IntKind.i64 m_0, Value.int IntKind.i64 m_1, Value.int IntKind.i64 m_2, Value.int IntKind.i64 m_3, Value.slice m_4a m_4n m_4c], Value.int IntKind.i64 at',
 Value.agg #[Value.int IntKind.i64 c_0, Value.int IntKind.i64 c_1, Value.int IntKind.i64 c_2, Value.int IntKind.i64 c_3, Value.int IntKind.i64 c_4, Value.int IntKind.i64 c_5, Value.bool c_6]]) w R :=
 fn_sound (H := h61) (fn := Go.Proofs.Try.f61) (by kernel_rfl) (by kernel_rfl) (by kernel_rfl) ((f61_eq m_0 m_1 m_2 m_3 m_4a m_4n m_4c at' c_0 c_1 c_2 c_3 c_4 c_5 c_6 w R).mpr h)


/-! (manciple/mancipleref09.M).without -/
def h62 : Hints := ⟨[2, 4, 5], [25], [14, 19], [(6, [0, 1, 2, 3, 4, 5, 6, 7, 8, 9, 10])], [], [(3, ⟨[(6, .int .i64)], [(5, .cons (.int .i64) (.cons (.int .i64) (.cons (.int .i64) (.cons (.int .i64) (.cons (.sl) (.nil))))))]⟩)], [], [], []⟩
def f62_vc (m_0 : Int) (m_1 : Int) (m_2 : Int) (m_3 : Int) (m_4a : Option Addr) (m_4n : Nat) (m_4c : Nat) (at' : Int) (w : World) (R : Ending → World → Prop) : Prop :=
 ∀ (n1 : Nat),
 w.heap.size ≤ n1 →
 ∀ (n2 : Nat),
 w.heap.size ≤ n2 →
 ∀ (n3 : Nat),
 w.heap.size ≤ n3 →
 ∃ (J4 : Int × Int × Int × Int × Int × (Option Addr × Nat × Nat) × Unit → World → Prop),
 ∃ (J5 : Int × Int × Int × Int × Int × (Option Addr × Nat × Nat) × Unit → World → Nat),
 (∀ (w6 : World), Evo [n3] w w6 → Under [n1, n2, n3] w6 → J4 (0, m_0, m_1, m_2, m_3, (none, 0, 0), ()) w6) ∧
 ∀ (x7 x8 x9 x10 x11 : Int) (a12 : Option Addr) (n13 n14 : Nat) (w15 : World),
 J4 (x7, x8, x9, x10, x11, (a12, n13, n14), ()) w15 →
 (decide (x7 < (↑m_4n : Int)) = true →
 ((x7 != at') = true →
 ∃ (ad16 : Addr),
 Gives Proofs.Try.prog (Instr.indexAt 52 (Value.slice m_4a m_4n m_4c) (Value.int IntKind.i64 x7)) (Value.pointer (some ad16)) ∧
 ∃ (x17 : Int),
 ∃ (x18 : Int),
 ∃ (x19 : Int),
 ∃ (x20 : Int),
 ∃ (x21 : Int),
 ∃ (x22 : Int),
 ∃ (b23 : Bool),
 Reads Proofs.Try.prog [] (Instr.loadAt 63 (Value.pointer (some ad16))) w15
 (Value.agg
 #[Value.int IntKind.i64 x17, Value.int IntKind.i64 x18, Value.int IntKind.i64 x19, Value.int IntKind.i64 x20, Value.int IntKind.i64 x21, Value.int IntKind.i64 x22, Value.bool b23]) ∧
 ∀ (w24 : World),
 Bel w15 w24 →
 Under [n1, n2, n3] w24 →
 OpW Proofs.Try.prog
 (valueS
 (Instr.buildSlice 52 1
 #[(0,
 Value.agg
 #[Value.int IntKind.i64 x17, Value.int IntKind.i64 x18, Value.int IntKind.i64 x19, Value.int IntKind.i64 x20, Value.int IntKind.i64 x21, Value.int IntKind.i64 x22,
 Value.bool b23])]))
 w24 fun (v25 : Value) (w26 : World) =>
 ∃ (a27 : Option Addr),
 ∃ (n28 : Nat),
 ∃ (n29 : Nat),
 v25 = Value.slice a27 n28 n29 ∧
 Keeps [n1, n2, n3] w24 w26 ∧
 OpW Proofs.Try.prog (builtin Builtin.append #[52, 52] 52 #[false, false] #[Value.slice a12 n13 n14, Value.slice a27 n28 n29]) w26 fun (v30 : Value) (w31 : World) =>
 ∃ (a32 : Option Addr),
 ∃ (n33 : Nat),
 ∃ (n34 : Nat),
 v30 = Value.slice a32 n33 n34 ∧
 Keeps [n1, n2, n3] w26 w31 ∧
 ∀ (w35 : World),
 Evo [n3] w31 w35 →
 Under [n1, n2, n3] w35 →
 J4 (IntKind.i64.wrap (x7 + 1), x8, x9, x10, x11, (a32, n33, n34), ()) w35 ∧
 J5 (IntKind.i64.wrap (x7 + 1), x8, x9, x10, x11, (a32, n33, n34), ()) w35 < J5 (x7, x8, x9, x10, x11, (a12, n13, n14), ()) w15) ∧
 ((x7 != at') = false →
 J4 (IntKind.i64.wrap (x7 + 1), x8, x9, x10, x11, (a12, n13, n14), ()) w15 ∧ J5 (IntKind.i64.wrap (x7 + 1), x8, x9, x10, x11, (a12, n13, n14), ()) w15 < J5 (x7, x8, x9, x10, x11, (a12, n13, n14), ()) w15)) ∧
 (decide (x7 < (↑m_4n : Int)) = false →
 ∀ (w36 : World),
 Evo [n2] w15 w36 →
 Under [n1, n2, n3] w36 → R (Ending.returned (Value.agg #[Value.int IntKind.i64 x8, Value.int IntKind.i64 x9, Value.int IntKind.i64 x10, Value.int IntKind.i64 x11, Value.slice a12 n13 n14])) w36)
theorem f62_eq (m_0 : Int) (m_1 : Int) (m_2 : Int) (m_3 : Int) (m_4a : Option Addr) (m_4n : Nat) (m_4c : Nat) (at' : Int) (w : World) (R : Ending → World → Prop) : (fnF Go.Proofs.Try.prog h62 Go.Proofs.Try.f62 [Value.agg #[Value.int IntKind.i64 m_0, Value.int IntKind.i64 m_1, Value.int IntKind.i64 m_2, Value.int IntKind.i64 m_3, Value.slice m_4a m_4n m_4c], Value.int IntKind.i64 at'] w R).den = f62_vc m_0 m_1 m_2 m_3 m_4a m_4n m_4c at' w R := by kernel_rfl
theorem f62_calls (m_0 : Int) (m_1 : Int) (m_2 : Int) (m_3 : Int) (m_4a : Option Addr) (m_4n : Nat) (m_4c : Nat) (at' : Int) (w : World) (R : Ending → World → Prop) (h : f62_vc m_0 m_1 m_2 m_3 m_4a m_4n m_4c at' w R) : Calls Go.Proofs.Try.prog 62 (List.toArray [Value.agg #[Value.int IntKind.i64 m_0, Value.int IntKind.i64 m_1, Value.int IntKind.i64 m_2, Value.int IntKind.i64 m_3, Value.slice m_4a m_4n m_4c], Value.int IntKind.i64 at']) w R :=
 fn_sound (H := h62) (fn := Go.Proofs.Try.f62) (by kernel_rfl) (by kernel_rfl) (by kernel_rfl) ((f62_eq m_0 m_1 m_2 m_3 m_4a m_4n m_4c at' w R).mpr h)


/-! (manciple/mancipleref09.M).ahead -/
def h65 : Hints := ⟨[3, 4, 5], [], [21, 24], [(1, [0, 1, 3, 4, 5, 6, 8, 9, 2, 7, 10, 11])], [], [], [], [], []⟩
def f65_vc (m_0 : Int) (m_1 : Int) (m_2 : Int) (m_3 : Int) (m_4a : Option Addr) (m_4n : Nat) (m_4c : Nat) (a_0 : Int) (a_1 : Int) (a_2 : Int) (a_3 : Int) (a_4 : Int) (a_5 : Int) (a_6 : Bool) (b_0 : Int) (b_1 : Int) (b_2 : Int) (b_3 : Int) (b_4 : Int) (b_5 : Int) (b_6 : Bool) (w : World) (R : Ending → World → Prop) : Prop :=
 ∀ (n1 : Nat),
 w.heap.size ≤ n1 →
 ∀ (n2 : Nat),
 w.heap.size ≤ n2 →
 ∀ (n3 : Nat),
 w.heap.size ≤ n3 →
 ∀ (w4 : World),
 Bel w w4 →
 Under [n1, n2, n3] w4 →
 Calls Proofs.Try.prog 25
 #[Value.agg #[Value.int IntKind.i64 m_0, Value.int IntKind.i64 m_1, Value.int IntKind.i64 m_2, Value.int IntKind.i64 m_3, Value.slice m_4a m_4n m_4c],
 Value.agg #[Value.int IntKind.i64 a_0, Value.int IntKind.i64 a_1, Value.int IntKind.i64 a_2, Value.int IntKind.i64 a_3, Value.int IntKind.i64 a_4, Value.int IntKind.i64 a_5, Value.bool a_6]]
 w4 fun (e5 : Ending) (w6 : World) =>
 ∃ (x7 : Int),
 ∃ (x8 : Int),
 e5 = Ending.returned (Value.agg #[Value.int IntKind.i64 x7, Value.int IntKind.i64 x8]) ∧
 Keeps [n1, n2, n3] w4 w6 ∧
 Calls Proofs.Try.prog 25
 #[Value.agg #[Value.int IntKind.i64 m_0, Value.int IntKind.i64 m_1, Value.int IntKind.i64 m_2, Value.int IntKind.i64 m_3, Value.slice m_4a m_4n m_4c],
 Value.agg #[Value.int IntKind.i64 b_0, Value.int IntKind.i64 b_1, Value.int IntKind.i64 b_2, Value.int IntKind.i64 b_3, Value.int IntKind.i64 b_4, Value.int IntKind.i64 b_5, Value.bool b_6]]
 w6 fun (e9 : Ending) (w10 : World) =>
 ∃ (x11 : Int),
 ∃ (x12 : Int),
 e9 = Ending.returned (Value.agg #[Value.int IntKind.i64 x11, Value.int IntKind.i64 x12]) ∧
 Keeps [n1, n2, n3] w6 w10 ∧
 Calls Proofs.Try.prog 94
 #[Value.agg #[Value.int IntKind.i64 x7, Value.int IntKind.i64 x8], Value.int IntKind.i64 a_1, Value.agg #[Value.int IntKind.i64 x11, Value.int IntKind.i64 x12], Value.int IntKind.i64 b_1] w10
 fun (e13 : Ending) (w14 : World) =>
 ∃ (x15 : Int),
 e13 = Ending.returned (Value.int IntKind.i64 x15) ∧
 Keeps [n1, n2, n3] w10 w14 ∧
 (decide (x15 < 0) = true → R (Ending.returned (Value.bool true)) w14) ∧
 (decide (x15 < 0) = false → ((x15 == 0) = true → R (Ending.returned (Value.bool (decide (a_0 < b_0)))) w14) ∧ ((x15 == 0) = false → R (Ending.returned (Value.bool false)) w14))
theorem f65_eq (m_0 : Int) (m_1 : Int) (m_2 : Int) (m_3 : Int) (m_4a : Option Addr) (m_4n : Nat) (m_4c : Nat) (a_0 : Int) (a_1 : Int) (a_2 : Int) (a_3 : Int) (a_4 : Int) (a_5 : Int) (a_6 : Bool) (b_0 : Int) (b_1 : Int) (b_2 : Int) (b_3 : Int) (b_4 : Int) (b_5 : Int) (b_6 : Bool) (w : World) (R : Ending → World → Prop) : (fnF Go.Proofs.Try.prog h65 Go.Proofs.Try.f65 [Value.agg #[Value.int IntKind.i64 m_0, Value.int IntKind.i64 m_1, Value.int IntKind.i64 m_2, Value.int IntKind.i64 m_3, Value.slice m_4a m_4n m_4c],
 Value.agg #[Value.int IntKind.i64 a_0, Value.int IntKind.i64 a_1, Value.int IntKind.i64 a_2, Value.int IntKind.i64 a_3, Value.int IntKind.i64 a_4, Value.int IntKind.i64 a_5, Value.bool a_6],
 Value.agg #[Value.int IntKind.i64 b_0, Value.int IntKind.i64 b_1, Value.int IntKind.i64 b_2, Value.int IntKind.i64 b_3, Value.int IntKind.i64 b_4, Value.int IntKind.i64 b_5, Value.bool b_6]] w R).den = f65_vc m_0 m_1 m_2 m_3 m_4a m_4n m_4c a_0 a_1 a_2 a_3 a_4 a_5 a_6 b_0 b_1 b_2 b_3 b_4 b_5 b_6 w R := by kernel_rfl
theorem f65_calls (m_0 : Int) (m_1 : Int) (m_2 : Int) (m_3 : Int) (m_4a : Option Addr) (m_4n : Nat) (m_4c : Nat) (a_0 : Int) (a_1 : Int) (a_2 : Int) (a_3 : Int) (a_4 : Int) (a_5 : Int) (a_6 : Bool) (b_0 : Int) (b_1 : Int) (b_2 : Int) (b_3 : Int) (b_4 : Int) (b_5 : Int) (b_6 : Bool) (w : World) (R : Ending → World → Prop) (h : f65_vc m_0 m_1 m_2 m_3 m_4a m_4n m_4c a_0 a_1 a_2 a_3 a_4 a_5 a_6 b_0 b_1 b_2 b_3 b_4 b_5 b_6 w R) : Calls Go.Proofs.Try.prog 65 (List.toArray [Value.agg #[Value.int IntKind.i64 m_0, Value.int IntKind.i64 m_1, Value.int IntKind.i64 m_2, Value.int IntKind.i64 m_3, Value.slice m_4a m_4n m_4c],
 Value.agg #[Value.int IntKind.i64 a_0, Value.int IntKind.i64 a_1, Value.int IntKind.i64 a_2, Value.int IntKind.i64 a_3, Value.int IntKind.i64 a_4, Value.int IntKind.i64 a_5, Value.bool a_6],
 Value.agg #[Value.int IntKind.i64 b_0, Value.int IntKind.i64 b_1, Value.int IntKind.i64 b_2, Value.int IntKind.i64 b_3, Value.int IntKind.i64 b_4, Value.int IntKind.i64 b_5, Value.bool b_6]]) w R :=
 fn_sound (H := h65) (fn := Go.Proofs.Try.f65) (by kernel_rfl) (by kernel_rfl) (by kernel_rfl) ((f65_eq m_0 m_1 m_2 m_3 m_4a m_4n m_4c a_0 a_1 a_2 a_3 a_4 a_5 a_6 b_0 b_1 b_2 b_3 b_4 b_5 b_6 w R).mpr h)

end Vcs

/- The document's sorter: At, Part, Small, with, without, ahead. -/
set_option maxRecDepth 20000
set_option maxHeartbeats 1000000
namespace Go.Vc.S
open Go Go.Vc Go.RowKit Go.Proofs Go.Vc.T Vcs

variable {w W W' W1 : World} {M N : Nat → Prop} {gs ds : List Nat} {T n : Ar4} {m m0 m1 : List (Int × Cl)} {id : Int} {c : Cl} {a : Option Addr} {ln lc : Nat}

abbrev rcE (x : Int × Cl) : List Value := [.int .i64 x.1, .int .i64 x.2.w, .int .i64 x.2.s.1, .int .i64 x.2.s.2.1, .int .i64 x.2.s.2.2.1, .int .i64 x.2.s.2.2.2, .bool x.2.aw]
abbrev rcV (x : Int × Cl) : Value := .agg #[.int .i64 x.1, .int .i64 x.2.w, .int .i64 x.2.s.1, .int .i64 x.2.s.2.1, .int .i64 x.2.s.2.2.1, .int .i64 x.2.s.2.2.2, .bool x.2.aw]
abbrev mV (T : Ar4) (s : Value) : Value := .agg #[.int .i64 T.1, .int .i64 T.2.1, .int .i64 T.2.2.1, .int .i64 T.2.2.2, s]
theorem midx_first {α : Type} {k : Int} : ∀ {m : List (Int × α)} {i : Nat} {x : Int × α}, (∀ y ∈ m.take i, y.1 ≠ k) → m[i]? = some x → x.1 = k → midx k m = some i
  | [], i, x, _, h, _ => by simp at h
  | y :: m, 0, x, _, h, e => by
    simp at h
    subst h
    unfold midx
    rw [if_pos e.symm]
  | y :: m, i + 1, x, h1, h, e => by
    unfold midx
    rw [if_neg (fun e2 => h1 y (by simp) e2.symm), midx_first (i := i) (fun z hz => h1 z (by simp [hz])) (by simpa using h) e]
    rfl
theorem midx_no {α : Type} {k : Int} : ∀ {m : List (Int × α)}, (∀ y ∈ m, y.1 ≠ k) → midx k m = none
  | [], _ => rfl
  | y :: m, h => by
    unfold midx
    rw [if_neg (fun e2 => h y (by simp) e2.symm), midx_no fun z hz => h z (by simp [hz])]
    rfl
def atI {α : Type} (k : Int) (m : List (Int × α)) : Int := match midx k m with
  | some i => i
  | none => -1
theorem c24 (w : World) (hs : SlE w 7 rcE m a ln lc) (hl : m.length < 100000) (id : Int) : Ret Try.prog 24 #[mV T (.slice a ln lc), .int .i64 id] w (.int .i64 (atI id m)) := by
  intro R h
  refine f24_calls _ _ _ _ _ _ _ _ w R ?_
  unfold f24_vc
  have hln := hs.1
  refine go_n (At.refl w) fun n1 h1 => ⟨fun s W => At w [n1] W ∧ ∃ i : Nat, s.1 = i ∧ i ≤ ln ∧ ∀ y ∈ m.take i, y.1 ≠ id, fun s _ => ln - s.1.toNat, go_below (At.refl w) fun w4 hA => ⟨hA, 0, rfl, Nat.zero_le _, by simp⟩, ?_⟩
  rintro x5 w6 ⟨hA, i, hi, hil, hno⟩
  simp only at hi
  subst hi
  refine brD (fun hlt => ?_) fun hge => ?_
  · have him : i < m.length := by omega
    obtain ⟨ad, g1, el, _⟩ := elt_at (P := Try.prog) (k := .i64) (t := 52) (hs.call hA.below) (List.getElem?_eq_getElem him) (e := 63) (by kernel_rfl) (by kernel_rfl)
    refine ⟨ad, g1, _, el.one (by kernel_rfl) no_ds, brE (fun he => leaf h hA ?_) fun hne => ?_⟩
    · unfold atI
      rw [midx_first hno (List.getElem?_eq_getElem him) he]
    · have hw : IntKind.i64.wrap ((i : Int) + 1) = ((i + 1 : Nat) : Int) := by rw [wrap_i64 (by omega) (by omega)]; omega
      rw [hw]
      refine ⟨⟨hA, i + 1, rfl, by omega, fun y hy => ?_⟩, by simp only; omega⟩
      rw [List.take_add_one, List.getElem?_eq_getElem him, List.mem_append] at hy
      rcases hy with hy | hy
      · exact hno y hy
      · simp at hy
        rw [hy]; exact hne
  · refine leaf h hA ?_
    rw [List.take_of_length_le (by omega)] at hno
    unfold atI
    rw [midx_no hno]
theorem c25 (w : World) (T : Ar4) (x : Int × Cl) : Ret Try.prog 25 #[mV T (.slice a ln lc), rcV x] w (fracV (domT T x.2.s).1 (domT T x.2.s).2) := by
  intro R h
  refine f25_calls _ _ _ _ _ _ _ _ _ _ _ _ _ _ w R ?_
  unfold f25_vc
  have hA := At.refl w
  refine go_n hA fun n1 h1 => go_n hA fun n2 h2 => go_n hA fun n3 h3 => go_below hA fun w4 hA => ?_
  exact at_call hA (c67 _ _ _ _ _ _ _ _ _) fun w6 hA hk => ⟨_, _, _, rfl, hk, go_n hA fun n10 h10 => go_evo hA (by simp; omega) fun w11 hA => leaf h hA rfl⟩
theorem c60 (a : Ar4) (w : World) : Ret Try.prog 60 #[arT a] w (.bool (decide (sm4 a))) := by
  intro R h
  refine f60_calls _ _ _ _ w R ?_
  unfold f60_vc
  have hA := At.refl w
  have no : ¬ sm4 a → ∀ W, At w [] W → R (.returned (.bool false)) W := fun hn W hA => leaf h hA (by rw [decide_eq_false hn])
  unfold sm4 at no
  refine go_n hA fun n1 _ => ?_
  refine brD (fun h1 => go_below (gs' := [n1]) hA fun _ hA => no (by omega) _ hA.off) (fun h1 => brD (fun h2 => go_below (gs' := [n1]) hA fun _ hA => no (by omega) _ hA.off) (fun h2 => ?_))
  refine brD (fun h3 => go_below (gs' := [n1]) hA fun _ hA => no (by omega) _ hA.off) (fun h3 => brD (fun h4 => go_below (gs' := [n1]) hA fun _ hA => no (by omega) _ hA.off) (fun h4 => ?_))
  refine brD (fun h5 => go_below (gs' := [n1]) hA fun _ hA => no (by omega) _ hA.off) (fun h5 => brD (fun h6 => go_below (gs' := [n1]) hA fun _ hA => no (by omega) _ hA.off) (fun h6 => ?_))
  refine brD (fun h7 => go_below (gs' := [n1]) hA fun _ hA => no (by omega) _ hA.off) (fun h7 => brD (fun h8 => go_below (gs' := [n1]) hA fun _ hA => no (by omega) _ hA.off) (fun h8 => ?_))
  refine go_below (gs' := [n1]) hA fun _ hA => ?_
  exact leaf h hA (by rw [decide_eq_true (show sm4 a by unfold sm4; omega)])
theorem c65 (w : World) (T : Ar4) (x y : Int × Cl) : Ret Try.prog 65 #[mV T (.slice a ln lc), rcV x, rcV y] w (.bool (decide (cfP (plc T x) (plc T y) < 0))) := by
  intro R h
  refine f65_calls _ _ _ _ _ _ _ _ _ _ _ _ _ _ _ _ _ _ _ _ _ w R ?_
  unfold f65_vc
  have hA := At.refl w
  refine go_n hA fun n1 h1 => go_n hA fun n2 h2 => go_n hA fun n3 h3 => go_below hA fun w4 hA => ?_
  refine at_call hA (c25 _ T x) fun w6 hA hk => ⟨_, _, rfl, hk, ?_⟩
  refine at_call hA (c25 _ T y) fun w10 hA hk => ⟨_, _, rfl, hk, ?_⟩
  refine at_call hA (c94 _ _ _ _ _ _ _) fun w14 hA hk => ⟨_, rfl, hk, ?_⟩
  have e : cfP (plc T x) (plc T y) = if sCmp (domT T x.2.s).1 (domT T x.2.s).2 x.2.w (domT T y.2.s).1 (domT T y.2.s).2 y.2.w ≠ 0 then sCmp (domT T x.2.s).1 (domT T x.2.s).2 x.2.w (domT T y.2.s).1 (domT T y.2.s).2 y.2.w else cmpI x.1 y.1 := rfl
  rw [e] at h
  refine brD (fun hlt => leaf h hA ?_) fun hnlt => brE (fun hz => leaf h hA ?_) fun hnz => leaf h hA ?_
  · rw [if_pos (by omega), decide_eq_true hlt]
  · rw [if_neg (fun e => e hz)]
    have : (cmpI x.1 y.1 < 0) = (x.1 < y.1) := propext cmpI_neg
    simp only [this]
  · rw [if_pos hnz, decide_eq_false hnlt]
end Go.Vc.S

/- The document's sorter: with, without. -/
set_option maxRecDepth 20000
set_option maxHeartbeats 1000000
namespace Go.Vc.S
open Go Go.Vc Go.RowKit Go.Proofs Go.Vc.T Vcs

variable {w W W' W1 : World} {M N : Nat → Prop} {gs ds : List Nat} {T n : Ar4} {m m0 m1 : List (Int × Cl)} {id : Int} {c : Cl} {a : Option Addr} {ln lc : Nat}

/-- Returns a sorter of the document, its row new. -/
def RetM (f : FuncId) (args : Array Value) (W : World) (T : Ar4) (l : List (Int × Cl)) : Prop := RetQ Try.prog f args W fun v w' => ∃ s, v = mV T s ∧ w'.ownsRow W.heap.size 63 7 s l.length (l.flatMap rcE)
theorem leafM {R : Ending → World → Prop} {l l' : List (Int × Cl)} {v : Value} (h : ∀ v w', Bel w w' → (∃ s, v = mV T s ∧ w'.ownsRow w.heap.size 63 7 s l.length (l.flatMap rcE)) → R (.returned v) w') (hA : At w gs W) (ho : OwnL w gs W 63 7 rcE v l') (hl : l' = l) : R (.returned (mV T v)) W :=
  h _ _ hA.below ⟨v, rfl, hl ▸ ho.row⟩
def withL (at' : Int) (x : Int × Cl) (m : List (Int × Cl)) : List (Int × Cl) := if at' < 0 then m ++ [x] else m.set at'.toNat x
theorem c61 (w : World) (T : Ar4) (hs : SlE w 7 rcE m a ln lc) (hl : m.length < 100000) (at' : Int) (x : Int × Cl) : RetM 61 #[mV T (.slice a ln lc), .int .i64 at', rcV x] w T (withL at' x m) := by
  intro R h
  refine f61_calls _ _ _ _ _ _ _ _ _ _ _ _ _ _ _ w R ?_
  unfold f61_vc
  have hln := hs.1
  refine go_n (At.refl w) fun n1 h1 => go_n (At.refl w) fun n2 h2 => go_n (At.refl w) fun n3 h3 => go_n (At.refl w) fun n4 h4 => ?_
  have hQ : ∃ Q : List (Int × Cl), Q = (if at' < 0 then m else m.set at'.toNat x) ∧ Q.length = m.length := ⟨_, rfl, by split <;> simp⟩
  obtain ⟨Q, hQ, hQl⟩ := hQ
  refine ⟨fun s W => At w [n1, n2, n3, n4] W ∧ ∃ i : Nat, s.1 = i ∧ i ≤ ln ∧ (s.2.1, s.2.2.1, s.2.2.2.1, s.2.2.2.2.1) = T ∧ OwnL w [n1, n2, n3, n4] W 63 7 rcE (.slice s.2.2.2.2.2.1.1 s.2.2.2.2.2.1.2.1 s.2.2.2.2.2.1.2.2) (Q.take i) ∧ s.2.2.2.2.2.1.2.1 = i, fun s _ => ln - s.1.toNat, go_evo (At.refl w) (by simpa using h4) fun w4 hA => ⟨hA, 0, rfl, Nat.zero_le _, rfl, OwnF.nil, rfl⟩, ?_⟩
  rintro x8 x9 x10 x11 x12 a13 n14 n15 w16 ⟨hA, i, hi, hil, hT, ho, hn⟩
  simp only at hi hT ho hn
  subst hi hT
  have hlq : n14 = (Q.take i).length := by rw [List.length_take]; omega
  subst hlq
  have hw : IntKind.i64.wrap ((i : Int) + 1) = ((i + 1 : Nat) : Int) := by rw [wrap_i64 (by omega) (by omega)]; omega
  refine brD (fun hlt => ?_) fun hge => ?_
  · have him : i < m.length := by omega
    have hiq : i < Q.length := by omega
    have tk : ∀ y, Q[i]? = some y → Q.take i ++ [y] = Q.take (i + 1) := fun y hy => by rw [List.take_add_one, hy, Option.toList_some]
    rw [hw]
    have step : ∀ (y : Int × Cl) (W : World) (_ : At w [n1, n2, n3, n4] W) (_ : OwnL w [n1, n2, n3, n4] W 63 7 rcE (.slice a13 (Q.take i).length n15) (Q.take i)) (_ : Q[i]? = some y) (K : Option Addr → Nat → Nat → World → Prop), (∀ a' n' c' w2, At w [n1, n2, n3, n4] w2 → OwnL w [n1, n2, n3, n4] w2 63 7 rcE (.slice a' n' c') (Q.take (i + 1)) → n' = i + 1 → K a' n' c' w2) → OpW Try.prog (valueS (Instr.buildSlice 52 1 #[(0, rcV y)])) W fun v w1 => ∃ a1 n1' c1, v = .slice a1 n1' c1 ∧ Keeps [n1, n2, n3, n4] W w1 ∧ OpW Try.prog (builtin .append #[52, 52] 52 #[false, false] #[.slice a13 (Q.take i).length n15, .slice a1 n1' c1]) w1 fun v w2 => ∃ a2 n2' c2, v = .slice a2 n2' c2 ∧ Keeps [n1, n2, n3, n4] w1 w2 ∧ K a2 n2' c2 w2 := by
      intro y W hA ho hy K hK
      refine opw_push (e' := 63) (bytes := 56) hA ho y (by kernel_rfl) (by kernel_rfl) rfl (fun _ _ => rfl) (by simp [Value.oneCell']) (by rw [List.length_take]; omega) (by decide) fun a2 c2 w2 hA ho _ _ => ?_
      rw [tk y hy] at ho
      refine hK a2 _ c2 w2 hA ?_ (by rw [tk y hy, List.length_take]; omega)
      rw [tk y hy]
      exact ho
    refine brE (fun he => ?_) fun hne => ?_
    · refine step x w16 hA ho (by rw [hQ, if_neg (by omega), ← he]; simp [him]) _ fun a2 n2' c2 w2 hA ho hn' => go_evo_too hA (by simpa using h4) fun w27 hA hb => ?_
      exact ⟨⟨hA, i + 1, rfl, by omega, rfl, ho.evo (by simp) hb, hn'⟩, by simp only; omega⟩
    · have hqi : Q[i]? = some m[i] := by
        rw [hQ]
        split
        · exact List.getElem?_eq_getElem him
        · rw [List.getElem?_set_ne (by omega)]; exact List.getElem?_eq_getElem him
      obtain ⟨ad, g1, el, _⟩ := elt_at (P := Try.prog) (k := .i64) (t := 52) (hs.call hA.below) (List.getElem?_eq_getElem him) (e := 63) (by kernel_rfl) (by kernel_rfl)
      refine ⟨ad, g1, _, _, _, _, _, _, _, el.agg 7 (by kernel_rfl) (by kernel_rfl) (by simp) no_ds, go_below_too hA fun w36 hA hb => ?_⟩
      refine step m[i] w36 hA (ho.call hb) hqi _ fun a2 n2' c2 w2 hA ho hn' => go_evo_too hA (by simpa using h4) fun w27 hA hb => ?_
      exact ⟨⟨hA, i + 1, rfl, by omega, rfl, ho.evo (by simp) hb, hn'⟩, by simp only; omega⟩
  · have hie : i = ln := by omega
    have hQi : Q.take i = Q := List.take_of_length_le (by omega)
    rw [hQi] at ho ⊢
    refine brD (fun hneg => ?_) fun hpos => ?_
    · refine opw_push (e' := 63) (bytes := 56) hA ho x (by kernel_rfl) (by kernel_rfl) rfl (fun _ _ => rfl) (by simp [Value.oneCell']) (by omega) (by decide) fun a2 c2 w2 hA ho _ _ => ?_
      refine go_evo_too hA (by simp; omega) fun w58 hA hb => leafM h hA (ho.evo (by simp) hb) ?_
      rw [hQ, if_pos hneg, withL, if_pos hneg]
    · refine go_evo_too hA (by simpa using h3) fun w58 hA hb => leafM h hA (ho.evo (by simp) hb) ?_
      rw [hQ, if_neg hpos, withL, if_neg hpos]
theorem c62 (w : World) (T : Ar4) (hs : SlE w 7 rcE m a ln lc) (hl : m.length < 100000) (k : Nat) : RetM 62 #[mV T (.slice a ln lc), .int .i64 (k : Int)] w T (m.eraseIdx k) := by
  intro R h
  refine f62_calls _ _ _ _ _ _ _ _ w R ?_
  unfold f62_vc
  have hln := hs.1
  refine go_n (At.refl w) fun n1 h1 => go_n (At.refl w) fun n2 h2 => go_n (At.refl w) fun n3 h3 => ?_
  refine ⟨fun s W => At w [n1, n2, n3] W ∧ ∃ i : Nat, s.1 = i ∧ i ≤ ln ∧ (s.2.1, s.2.2.1, s.2.2.2.1, s.2.2.2.2.1) = T ∧ OwnL w [n1, n2, n3] W 63 7 rcE (.slice s.2.2.2.2.2.1.1 s.2.2.2.2.2.1.2.1 s.2.2.2.2.2.1.2.2) ((m.take i).eraseIdx k) ∧ s.2.2.2.2.2.1.2.1 = ((m.take i).eraseIdx k).length, fun s _ => ln - s.1.toNat, go_evo (At.refl w) (by simpa using h3) fun w4 hA => ⟨hA, 0, rfl, Nat.zero_le _, rfl, by simpa using OwnF.nil, by simp⟩, ?_⟩
  rintro x8 x9 x10 x11 x12 a13 n14 n15 w16 ⟨hA, i, hi, hil, hT, ho, hn⟩
  simp only at hi hT ho hn
  subst hi hT hn
  have hw : IntKind.i64.wrap ((i : Int) + 1) = ((i + 1 : Nat) : Int) := by rw [wrap_i64 (by omega) (by omega)]; omega
  have hel : ((m.take i).eraseIdx k).length ≤ i := by
    rw [List.length_eraseIdx, List.length_take]
    split <;> omega
  refine brD (fun hlt => ?_) fun hge => ?_
  · have him : i < m.length := by omega
    have htk : (m.take i).length = i := by rw [List.length_take]; omega
    have htk1 : m.take (i + 1) = m.take i ++ [m[i]] := by rw [List.take_add_one, List.getElem?_eq_getElem him, Option.toList_some]
    rw [hw]
    refine brN (fun hne => ?_) fun he => ?_
    · obtain ⟨ad, g1, el, _⟩ := elt_at (P := Try.prog) (k := .i64) (t := 52) (hs.call hA.below) (List.getElem?_eq_getElem him) (e := 63) (by kernel_rfl) (by kernel_rfl)
      refine ⟨ad, g1, _, _, _, _, _, _, _, el.agg 7 (by kernel_rfl) (by kernel_rfl) (by simp) no_ds, go_below_too hA fun w36 hA hb => ?_⟩
      refine opw_push (e' := 63) (bytes := 56) hA (ho.call hb) m[i] (by kernel_rfl) (by kernel_rfl) rfl (fun _ _ => rfl) (by simp [Value.oneCell']) (by omega) (by decide) fun a2 c2 w2 hA ho _ _ => ?_
      have e : (m.take i).eraseIdx k ++ [m[i]] = (m.take (i + 1)).eraseIdx k := by
        rw [htk1]
        by_cases hk : k < i
        · rw [List.eraseIdx_append_of_lt_length (by omega)]
        · rw [List.eraseIdx_of_length_le (by omega), List.eraseIdx_of_length_le (by simp; omega)]
      rw [e] at ho ⊢
      refine go_evo_too hA (by simpa using h3) fun w27 hA hb => ?_
      exact ⟨⟨hA, i + 1, rfl, by omega, rfl, ho.evo (by simp) hb, rfl⟩, by simp only; omega⟩
    · have hik : i = k := by omega
      subst hik
      have e : (m.take i).eraseIdx i = (m.take (i + 1)).eraseIdx i := by
        rw [htk1, List.eraseIdx_append_of_length_le (by omega), List.eraseIdx_of_length_le (by omega), htk, Nat.sub_self]
        simp
      rw [e] at ho ⊢
      exact ⟨⟨hA, i + 1, rfl, by omega, rfl, ho, rfl⟩, by simp only; omega⟩
  · have hQi : m.take i = m := List.take_of_length_le (by omega)
    rw [hQi] at ho ⊢
    exact go_evo_too hA (by simpa using h2) fun w58 hA hb => leafM h hA (ho.evo (by simp) hb) rfl
end Go.Vc.S

/- The document's sorter: Do. -/
set_option maxRecDepth 20000
set_option maxHeartbeats 2000000
namespace Go.Vc.S
open Go Go.Vc Go.RowKit Go.Proofs Go.Vc.T Vcs

variable {w W W' W1 : World} {M N : Nat → Prop} {gs ds : List Nat} {T n : Ar4} {m m0 m1 : List (Int × Cl)} {id : Int} {c : Cl} {a : Option Addr} {ln lc : Nat}

/-- What Do returns: the same row, or a new one. -/
def RowQ (w : World) (s0 : Value) (m : List (Int × Cl)) (m' : List (Int × Cl)) (s : Value) (W' : World) : Prop := (s = s0 ∧ m' = m) ∨ W'.ownsRow w.heap.size 63 7 s m'.length (m'.flatMap rcE)
def DoQ (w : World) (s0 : Value) (T : Ar4) (m : List (Int × Cl)) (act : Act) (v : Value) (W' : World) : Prop := ∃ s, v = .tuple #[mV (doD (T, m) act).1.1 s, .int .i64 (doD (T, m) act).2] ∧ RowQ w s0 m (doD (T, m) act).1.2 s W'
theorem fin61 {f : FuncId} {args : Array Value} {n3 : Nat} {l : List (Int × Cl)} {R : Ending → World → Prop} (hA : At w gs W) (hc : RetM f args W T l) (h3 : w.heap.size ≤ n3) (h3g : n3 ∈ gs)
    (hR : ∀ s W', Bel w W' → W'.ownsRow w.heap.size 63 7 s l.length (l.flatMap rcE) → R (.returned (.tuple #[mV T s, .int .i64 0])) W') :
    Calls Try.prog f args W fun e w' => ∃ (x1 x2 x3 x4 : Int) (a1 : Option Addr) (n1 c1 : Nat), e = .returned (.agg #[.int .i64 x1, .int .i64 x2, .int .i64 x3, .int .i64 x4, .slice a1 n1 c1]) ∧ Keeps gs W w' ∧ ∀ w'', Evo [n3] w' w'' → Under gs w'' → R (.returned (.tuple #[.agg #[.int .i64 x1, .int .i64 x2, .int .i64 x3, .int .i64 x4, .slice a1 n1 c1], .int .i64 0])) w'' := by
  refine at_callq hA hc fun v w' hA' hk hb ⟨s, hv, hq⟩ => ?_
  subst hv
  have ho : OwnL w gs w' 63 7 rcE s l := OwnF.ret hA hq rfl rfl
  obtain ⟨a1, c1, rfl, _⟩ := ho.slice fun _ _ => rfl
  refine ⟨_, _, _, _, _, _, _, rfl, hk, fun w'' he hu => ?_⟩
  have hA2 := hA'.evo (gs' := gs) (by simpa using h3) he hu
  exact hR _ _ hA2.below (ho.evo (fun d hd hng => by rw [List.mem_singleton.1 hd] at hng; exact absurd h3g hng) he).row

theorem c20 (w : World) (T : Ar4) (hs : SlE w 7 rcE m a ln lc) (hl : m.length < 100000) (act : Act) : RetQ Try.prog 20 #[mV T (.slice a ln lc), acV act] w (DoQ w (.slice a ln lc) T m act) := by
  obtain ⟨k, id, wt, nn⟩ := act
  intro R h
  refine f20_calls _ _ _ _ _ _ _ _ _ _ _ _ _ _ w R ?_
  unfold f20_vc
  have hA := At.refl w
  refine go_n hA fun n1 h1 => go_n hA fun n2 h2 => go_n hA fun n3 h3 => go_below_too hA fun w4 hA hb4 => ?_
  refine at_callb hA (c24 _ (hs.call hb4) hl id) fun w6 hA hk hb6 => ⟨_, rfl, hk, ?_⟩
  have hs6 := hs.call hA.below
  have keep : ∀ {gs : List Nat} {W : World} (T' : Ar4) (e : Int), doD (T, m) (k, id, wt, nn) = ((T', m), e) → At w gs W → R (.returned (.tuple #[mV T' (.slice a ln lc), .int .i64 e])) W := fun T' e he hA => h _ _ hA.below ⟨_, by rw [he], .inl ⟨rfl, by rw [he]⟩⟩
  have neu : ∀ (l : List (Int × Cl)), doD (T, m) (k, id, wt, nn) = ((T, l), 0) → ∀ s W', Bel w W' → W'.ownsRow w.heap.size 63 7 s l.length (l.flatMap rcE) → R (.returned (.tuple #[mV T s, .int .i64 0])) W' := fun l he s W' hb hq => h _ _ hb ⟨s, by rw [he], .inr (by rw [he]; exact hq)⟩
  have ev3 : ∀ d ∈ [n3], w.heap.size ≤ d := by simpa using h3
  have hn3 : n3 ∈ [n1, n2, n3] := by simp
  have zero : k = 0 → Calls Try.prog 60 #[arT nn] w6 fun e w9 => ∃ b10, e = .returned (.bool b10) ∧ Keeps [n1, n2, n3] w6 w9 ∧ ((!b10) = true → ∀ w11, Evo [n3] w9 w11 → Under [n1, n2, n3] w11 → R (.returned (.tuple #[mV T (.slice a ln lc), .int .i64 41])) w11) ∧ ((!b10) = false → ∀ w12, Evo [n3] w9 w12 → Under [n1, n2, n3] w12 → R (.returned (.tuple #[mV nn (.slice a ln lc), .int .i64 0])) w12) := by
    intro h0
    subst h0
    refine at_call hA (c60 nn _) fun w9 hA hk => ⟨_, rfl, hk, brND (fun hn => go_evo hA ev3 fun w11 hA => keep T 41 ?_ hA) fun hp => go_evo hA ev3 fun w12 hA => keep nn 0 ?_ hA⟩
    · simp only [doD, if_pos, if_neg hn]
    · simp only [doD, if_pos, if_pos hp]
  have hgone : midx id m = none → ¬ k = 0 → ¬ k = 1 → doD (T, m) (k, id, wt, nn) = ((T, m), 43) := by
    intro hx h0 h1
    have hg : mget id m = none := by rw [mget_idx, hx]; rfl
    simp only [doD, if_neg h0, if_neg h1, dropD, turnD, hg, ite_self]
  refine brD (fun hw1 => ?_) fun hw1 => ?_
  · have hheavy : heavy wt = true := by unfold heavy; exact decide_eq_true (.inl hw1)
    refine brE (fun e0 => zero e0) fun e0 => brE (fun e1 => go_evo hA ev3 fun w13 hA => keep T 41 ?_ hA) fun e1 => ?_
    · simp only [doD, if_neg e0, if_pos e1, putD, hheavy, if_true]
    refine brD (fun hneg => go_evo hA ev3 fun w14 hA => keep T 43 ?_ hA) fun hneg => ?_
    · have hx : midx id m = none := by
        unfold atI at hneg
        cases hx : midx id m with
        | none => rfl
        | some i => rw [hx] at hneg; simp only at hneg; omega
      exact hgone hx e0 e1
    obtain ⟨i, hx⟩ : ∃ i, midx id m = some i := by
      unfold atI at hneg
      cases hx : midx id m with
      | none => rw [hx] at hneg; exact absurd (by decide) hneg
      | some i => exact ⟨i, rfl⟩
    obtain ⟨c, hgi⟩ := midx_key hx
    have hg : mget id m = some c := by rw [mget_idx, hx]; simp [hgi]
    have e7 : atI id m = (i : Int) := by unfold atI; rw [hx]
    have hset : ∀ v, mset id v m = withL (i : Int) (id, v) m := fun v => by rw [mset_at hx, withL, if_neg (by omega)]; rfl
    rw [e7]
    obtain ⟨ad, g1, el, _⟩ := elt_at (P := Try.prog) (k := .i64) (t := 52) hs6 hgi (e := 63) (by kernel_rfl) (by kernel_rfl)
    refine ⟨ad, g1, _, _, _, _, _, _, _, el.agg 7 (by kernel_rfl) (by kernel_rfl) (by simp) no_ds, go_n hA fun n23 h23 => ?_⟩
    have ev : ∀ d ∈ [n23], w.heap.size ≤ d := by simpa using h23
    have ev2 : ∀ d ∈ [n23, n23], w.heap.size ≤ d := by simpa using h23
    have ev32 : ∀ d ∈ [n3, n23], w.heap.size ≤ d := by simp; omega
    have tn : ∀ f : Cl → Cl × Int, (f c).2 = 0 → turnD m id f = (withL (i : Int) (id, (f c).1) m, 0) := fun f hz => by
      unfold turnD
      rw [hg]
      simp only [if_pos hz, hset]
    have tn0 : ∀ f : Cl → Cl × Int, (f c).2 ≠ 0 → turnD m id f = (m, (f c).2) := fun f hz => by
      unfold turnD
      rw [hg]
      simp only [if_neg hz]
    refine brE (fun e2 => go_evo hA ev fun w24 hA => ?_) fun e2 => ?_
    · refine fin61 hA (c62 _ T (hs.call hA.below) hl i) h3 (by simp) (neu _ ?_)
      simp only [doD, if_neg e0, if_neg e1, if_pos e2, dropD, hg, mdel_at hx]
    refine brE (fun e3 => go_evo hA ev32 fun w35 hA => keep T 41 ?_ hA) fun e3 => ?_
    · simp only [doD, if_neg e0, if_neg e1, if_neg e2, if_pos e3]
      rw [tn0 (weighF wt) (by unfold weighF; rw [hheavy]; exact (by decide : (41 : Int) ≠ 0))]
      unfold weighF; rw [hheavy]; rfl
    refine brE (fun e4 => go_evo hA ev2 fun w36 hA => ?_) fun e4 => ?_
    · refine fin61 hA (c61 _ T (hs.call hA.below) hl i (id, ⟨c.w, c.s, true⟩)) h3 (by simp) (neu _ ?_)
      simp only [doD, if_neg e0, if_neg e1, if_neg e2, if_neg e3, if_pos e4]
      rw [tn (wakeF true) rfl]; rfl
    refine brE (fun e5 => go_evo hA ev2 fun w36 hA => ?_) fun e5 => ?_
    · refine fin61 hA (c61 _ T (hs.call hA.below) hl i (id, ⟨c.w, c.s, false⟩)) h3 (by simp) (neu _ ?_)
      simp only [doD, if_neg e0, if_neg e1, if_neg e2, if_neg e3, if_neg e4, if_pos e5]
      rw [tn (wakeF false) rfl]; rfl
    refine brE (fun e6 => go_evo hA ev fun w36 hA => ?_) fun e6 => go_evo hA ev fun w36 hA => ?_
    · refine at_call hA (c63 _ _ _ _ _ _ _ _ _) fun w60 hA hk => ?_
      have ed : ∀ q, turnD m id (giveF nn) = q → doD (T, m) (k, id, wt, nn) = ((T, q.1), q.2) := fun q hq => by
        simp only [doD, if_neg e0, if_neg e1, if_neg e2, if_neg e3, if_neg e4, if_neg e5, if_pos e6, hq]
      by_cases hsm : sR4 c.s ∧ sR4 nn ∧ sR4 (ad4 c.s nn)
      · have ef0 : addD c.s nn = some (ad4 c.s nn) := by unfold addD; rw [if_pos hsm]
        unfold sumA
        simp only [if_pos hsm]
        refine ⟨_, _, _, _, _, rfl, hk, go_n hA fun n66 h66 => brB (fun e => by cases e) fun _ => go_evo hA (by simpa using h66) fun w68 hA => ?_⟩
        refine at_call hA (c60 (ad4 c.s nn) _) fun w70 hA hk => ⟨_, rfl, hk, brND (fun hn => go_evo hA ev3 fun w72 hA => keep T 41 ?_ hA) fun hp => go_evo hA ev fun w73 hA => ?_⟩
        · have ef : giveF nn c = (c, 41) := by unfold giveF; rw [ef0]; simp only [if_neg hn]
          rw [ed _ (tn0 (giveF nn) (by rw [ef]; exact (by decide : (41 : Int) ≠ 0))), ef]
        · have ef : giveF nn c = (⟨c.w, ad4 c.s nn, c.aw⟩, 0) := by unfold giveF; rw [ef0]; simp only [if_pos hp]
          refine fin61 hA (c61 _ T (hs.call hA.below) hl i (id, ⟨c.w, ad4 c.s nn, c.aw⟩)) h3 (by simp) (neu _ ?_)
          rw [ed _ (tn (giveF nn) (by rw [ef])), ef]
      · have ef : giveF nn c = (c, 41) := by unfold giveF addD; rw [if_neg hsm]
        unfold sumA
        simp only [if_neg hsm]
        refine ⟨_, _, _, _, _, rfl, hk, go_n hA fun n66 h66 => brB (fun _ => go_evo hA (by simp; omega) fun w68 hA => keep T 41 ?_ hA) fun e => by cases e⟩
        rw [ed _ (tn0 (giveF nn) (by rw [ef]; exact (by decide : (41 : Int) ≠ 0))), ef]
    · refine at_call hA (c64 _ _ _ _ _ _ _ _ _) fun w60 hA hk => ?_
      have ed : ∀ q, turnD m id (takeF nn) = q → doD (T, m) (k, id, wt, nn) = ((T, q.1), q.2) := fun q hq => by
        simp only [doD, if_neg e0, if_neg e1, if_neg e2, if_neg e3, if_neg e4, if_neg e5, if_neg e6, hq]
      by_cases hsm : sH4 c.s nn
      · have ef : takeF nn c = (⟨c.w, sb4 c.s nn, c.aw⟩, 0) := by unfold takeF subD; rw [if_pos hsm]
        unfold sumS
        simp only [if_pos hsm]
        refine ⟨_, _, _, _, _, rfl, hk, go_n hA fun n66 h66 => brB (fun e => by cases e) fun _ => go_evo hA (by simp; omega) fun w68 hA => ?_⟩
        refine fin61 hA (c61 _ T (hs.call hA.below) hl i (id, ⟨c.w, sb4 c.s nn, c.aw⟩)) h3 (by simp) (neu _ ?_)
        rw [ed _ (tn (takeF nn) (by rw [ef])), ef]
      · have ef : takeF nn c = (c, 30) := by unfold takeF subD; rw [if_neg hsm]
        unfold sumS
        simp only [if_neg hsm]
        refine ⟨_, _, _, _, _, rfl, hk, go_n hA fun n66 h66 => brB (fun _ => go_evo hA (by simp; omega) fun w68 hA => keep T 30 ?_ hA) fun e => by cases e⟩
        rw [ed _ (tn0 (takeF nn) (by rw [ef]; exact (by decide : (30 : Int) ≠ 0))), ef]
  · refine brE (fun e0 => zero e0) fun e0 => brE (fun e1 => brD (fun hgt => go_evo hA ev3 fun w13 hA => keep T 41 ?_ hA) fun hngt => brD (fun hge => go_evo hA ev3 fun w13 hA => keep T 42 ?_ hA) fun hlt => ?_) fun e1 => ?_
    · have hheavy : heavy wt = true := by unfold heavy; exact decide_eq_true (.inr hgt)
      simp only [doD, if_neg e0, if_pos e1, putD, hheavy, if_true]
    · have hheavy : heavy wt = false := by unfold heavy; exact decide_eq_false (fun e => e.elim hw1 hngt)
      cases hx : midx id m with
      | none => unfold atI at hge; rw [hx] at hge; exact absurd hge (by decide)
      | some i =>
        obtain ⟨c, hgi⟩ := midx_key hx
        have hg : mget id m = some c := by rw [mget_idx, hx]; simp [hgi]
        simp only [doD, if_neg e0, if_pos e1, putD, hheavy, hg]
        rfl
    · have hheavy : heavy wt = false := by unfold heavy; exact decide_eq_false (fun e => e.elim hw1 hngt)
      cases hx : midx id m with
      | some i => unfold atI at hlt; rw [hx] at hlt; simp only at hlt; omega
      | none =>
        have hg : mget id m = none := by rw [mget_idx, hx]; rfl
        refine fin61 hA (c61 _ T hs6 hl (-1) (id, ⟨wt, (0, 0, 0, 0), true⟩)) h3 (by simp) (neu _ ?_)
        simp only [doD, if_neg e0, if_pos e1, putD, hheavy, hg, mset_new hx]
        rfl
    refine brD (fun hneg => go_evo hA ev3 fun w14 hA => keep T 43 ?_ hA) fun hneg => ?_
    · have hx : midx id m = none := by
        unfold atI at hneg
        cases hx : midx id m with
        | none => rfl
        | some i => rw [hx] at hneg; simp only at hneg; omega
      exact hgone hx e0 e1
    obtain ⟨i, hx⟩ : ∃ i, midx id m = some i := by
      unfold atI at hneg
      cases hx : midx id m with
      | none => rw [hx] at hneg; exact absurd (by decide) hneg
      | some i => exact ⟨i, rfl⟩
    obtain ⟨c, hgi⟩ := midx_key hx
    have hg : mget id m = some c := by rw [mget_idx, hx]; simp [hgi]
    have e7 : atI id m = (i : Int) := by unfold atI; rw [hx]
    have hset : ∀ v, mset id v m = withL (i : Int) (id, v) m := fun v => by rw [mset_at hx, withL, if_neg (by omega)]; rfl
    rw [e7]
    obtain ⟨ad, g1, el, _⟩ := elt_at (P := Try.prog) (k := .i64) (t := 52) hs6 hgi (e := 63) (by kernel_rfl) (by kernel_rfl)
    refine ⟨ad, g1, _, _, _, _, _, _, _, el.agg 7 (by kernel_rfl) (by kernel_rfl) (by simp) no_ds, go_n hA fun n23 h23 => ?_⟩
    have ev : ∀ d ∈ [n23], w.heap.size ≤ d := by simpa using h23
    have ev2 : ∀ d ∈ [n23, n23], w.heap.size ≤ d := by simpa using h23
    have ev32 : ∀ d ∈ [n3, n23], w.heap.size ≤ d := by simp; omega
    have tn : ∀ f : Cl → Cl × Int, (f c).2 = 0 → turnD m id f = (withL (i : Int) (id, (f c).1) m, 0) := fun f hz => by
      unfold turnD
      rw [hg]
      simp only [if_pos hz, hset]
    have tn0 : ∀ f : Cl → Cl × Int, (f c).2 ≠ 0 → turnD m id f = (m, (f c).2) := fun f hz => by
      unfold turnD
      rw [hg]
      simp only [if_neg hz]
    refine brE (fun e2 => go_evo hA ev fun w24 hA => ?_) fun e2 => ?_
    · refine fin61 hA (c62 _ T (hs.call hA.below) hl i) h3 (by simp) (neu _ ?_)
      simp only [doD, if_neg e0, if_neg e1, if_pos e2, dropD, hg, mdel_at hx]
    refine brE (fun e3 => brD (fun hgt => go_evo hA ev32 fun w35 hA => keep T 41 ?_ hA) fun hngt => go_evo hA ev2 fun w35 hA => ?_) fun e3 => ?_
    · have hheavy : heavy wt = true := by unfold heavy; exact decide_eq_true (.inr hgt)
      simp only [doD, if_neg e0, if_neg e1, if_neg e2, if_pos e3]
      rw [tn0 (weighF wt) (by unfold weighF; rw [hheavy]; exact (by decide : (41 : Int) ≠ 0))]
      unfold weighF; rw [hheavy]; rfl
    · have hheavy : heavy wt = false := by unfold heavy; exact decide_eq_false (fun e => e.elim hw1 hngt)
      have ef : weighF wt c = (⟨wt, c.s, c.aw⟩, 0) := by unfold weighF; rw [hheavy]; rfl
      refine fin61 hA (c61 _ T (hs.call hA.below) hl i (id, ⟨wt, c.s, c.aw⟩)) h3 (by simp) (neu _ ?_)
      simp only [doD, if_neg e0, if_neg e1, if_neg e2, if_pos e3]
      rw [tn (weighF wt) (by rw [ef]), ef]
    refine brE (fun e4 => go_evo hA ev2 fun w36 hA => ?_) fun e4 => ?_
    · refine fin61 hA (c61 _ T (hs.call hA.below) hl i (id, ⟨c.w, c.s, true⟩)) h3 (by simp) (neu _ ?_)
      simp only [doD, if_neg e0, if_neg e1, if_neg e2, if_neg e3, if_pos e4]
      rw [tn (wakeF true) rfl]; rfl
    refine brE (fun e5 => go_evo hA ev2 fun w36 hA => ?_) fun e5 => ?_
    · refine fin61 hA (c61 _ T (hs.call hA.below) hl i (id, ⟨c.w, c.s, false⟩)) h3 (by simp) (neu _ ?_)
      simp only [doD, if_neg e0, if_neg e1, if_neg e2, if_neg e3, if_neg e4, if_pos e5]
      rw [tn (wakeF false) rfl]; rfl
    refine brE (fun e6 => go_evo hA ev fun w36 hA => ?_) fun e6 => go_evo hA ev fun w36 hA => ?_
    · refine at_call hA (c63 _ _ _ _ _ _ _ _ _) fun w60 hA hk => ?_
      have ed : ∀ q, turnD m id (giveF nn) = q → doD (T, m) (k, id, wt, nn) = ((T, q.1), q.2) := fun q hq => by
        simp only [doD, if_neg e0, if_neg e1, if_neg e2, if_neg e3, if_neg e4, if_neg e5, if_pos e6, hq]
      by_cases hsm : sR4 c.s ∧ sR4 nn ∧ sR4 (ad4 c.s nn)
      · have ef0 : addD c.s nn = some (ad4 c.s nn) := by unfold addD; rw [if_pos hsm]
        unfold sumA
        simp only [if_pos hsm]
        refine ⟨_, _, _, _, _, rfl, hk, go_n hA fun n66 h66 => brB (fun e => by cases e) fun _ => go_evo hA (by simpa using h66) fun w68 hA => ?_⟩
        refine at_call hA (c60 (ad4 c.s nn) _) fun w70 hA hk => ⟨_, rfl, hk, brND (fun hn => go_evo hA ev3 fun w72 hA => keep T 41 ?_ hA) fun hp => go_evo hA ev fun w73 hA => ?_⟩
        · have ef : giveF nn c = (c, 41) := by unfold giveF; rw [ef0]; simp only [if_neg hn]
          rw [ed _ (tn0 (giveF nn) (by rw [ef]; exact (by decide : (41 : Int) ≠ 0))), ef]
        · have ef : giveF nn c = (⟨c.w, ad4 c.s nn, c.aw⟩, 0) := by unfold giveF; rw [ef0]; simp only [if_pos hp]
          refine fin61 hA (c61 _ T (hs.call hA.below) hl i (id, ⟨c.w, ad4 c.s nn, c.aw⟩)) h3 (by simp) (neu _ ?_)
          rw [ed _ (tn (giveF nn) (by rw [ef])), ef]
      · have ef : giveF nn c = (c, 41) := by unfold giveF addD; rw [if_neg hsm]
        unfold sumA
        simp only [if_neg hsm]
        refine ⟨_, _, _, _, _, rfl, hk, go_n hA fun n66 h66 => brB (fun _ => go_evo hA (by simp; omega) fun w68 hA => keep T 41 ?_ hA) fun e => by cases e⟩
        rw [ed _ (tn0 (giveF nn) (by rw [ef]; exact (by decide : (41 : Int) ≠ 0))), ef]
    · refine at_call hA (c64 _ _ _ _ _ _ _ _ _) fun w60 hA hk => ?_
      have ed : ∀ q, turnD m id (takeF nn) = q → doD (T, m) (k, id, wt, nn) = ((T, q.1), q.2) := fun q hq => by
        simp only [doD, if_neg e0, if_neg e1, if_neg e2, if_neg e3, if_neg e4, if_neg e5, if_neg e6, hq]
      by_cases hsm : sH4 c.s nn
      · have ef : takeF nn c = (⟨c.w, sb4 c.s nn, c.aw⟩, 0) := by unfold takeF subD; rw [if_pos hsm]
        unfold sumS
        simp only [if_pos hsm]
        refine ⟨_, _, _, _, _, rfl, hk, go_n hA fun n66 h66 => brB (fun e => by cases e) fun _ => go_evo hA (by simp; omega) fun w68 hA => ?_⟩
        refine fin61 hA (c61 _ T (hs.call hA.below) hl i (id, ⟨c.w, sb4 c.s nn, c.aw⟩)) h3 (by simp) (neu _ ?_)
        rw [ed _ (tn (takeF nn) (by rw [ef])), ef]
      · have ef : takeF nn c = (c, 30) := by unfold takeF subD; rw [if_neg hsm]
        unfold sumS
        simp only [if_neg hsm]
        refine ⟨_, _, _, _, _, rfl, hk, go_n hA fun n66 h66 => brB (fun _ => go_evo hA (by simp; omega) fun w68 hA => keep T 30 ?_ hA) fun e => by cases e⟩
        rw [ed _ (tn0 (takeF nn) (by rw [ef]; exact (by decide : (30 : Int) ≠ 0))), ef]
end Go.Vc.S

/- Counting who stands ahead gives the order, plainly. -/
set_option maxRecDepth 20000
namespace Go.Vc.S
open Go Go.Vc Go.Vc.T

variable {T : Ar4} {m : List (Int × Cl)}
noncomputable def ahB (T : Ar4) (y z : Int × Cl) : Bool := z.2.aw && decide (cfP (plc T z) (plc T y) < 0)
noncomputable def cntA (T : Ar4) (m : List (Int × Cl)) (y : Int × Cl) : Nat := m.countP (ahB T y)
noncomputable def pkB (T : Ar4) (m : List (Int × Cl)) (k : Nat) (y : Int × Cl) : Bool := y.2.aw && decide (cntA T m y = k)
noncomputable def rowN (T : Ar4) (m : List (Int × Cl)) (k : Nat) : List Int := (m.filter (pkB T m k)).map (·.1)
noncomputable def ordN (T : Ar4) (m : List (Int × Cl)) : Nat → List Int
  | 0 => []
  | k + 1 => ordN T m k ++ rowN T m k
theorem countP_srt {S : Pl → Prop} (h : Tr.OrdOn S cfP) {o : List Pl} (hS : ∀ y ∈ o, S y) (hs : Tr.Srt cfP o) {j : Nat} (hj : j < o.length) : o.countP (fun p => decide (cfP p o[j] < 0)) = j := by
  have hp := List.pairwise_iff_getElem.1 hs
  have e : o = o.take j ++ o.drop j := (List.take_append_drop j o).symm
  have h1 : (o.take j).countP (fun p => decide (cfP p o[j] < 0)) = (o.take j).length := by
    rw [List.countP_eq_length]
    intro p hm
    obtain ⟨i, hi, rfl⟩ := List.getElem_of_mem hm
    rw [List.length_take] at hi
    rw [List.getElem_take]
    exact decide_eq_true (hp i j (by omega) hj (by omega))
  have h2 : (o.drop j).countP (fun p => decide (cfP p o[j] < 0)) = 0 := by
    rw [List.countP_eq_zero]
    intro p hm
    obtain ⟨i, hi, rfl⟩ := List.getElem_of_mem hm
    rw [List.length_drop] at hi
    rw [List.getElem_drop]
    have hSj := hS _ (List.getElem_mem hj)
    have hSi := hS _ (List.getElem_mem (show j + i < o.length by omega))
    simp only [decide_eq_true_eq]
    intro hlt
    by_cases h0 : i = 0
    · subst h0
      exact h.irrefl _ hSj hlt
    · have := hp j (j + i) hj (by omega) (by omega)
      exact h.irrefl _ hSj (h.trans _ _ _ hSj hSi hSj this hlt)
  have h3 := congrArg (List.countP (fun p => decide (cfP p o[j] < 0))) e
  rw [List.countP_append, h1, h2, List.length_take] at h3
  omega
theorem list_one {α : Type} {l : List α} {v : α} (hn : l.Nodup) (ha : ∀ y ∈ l, y = v) (hm : v ∈ l) : l = [v] := by
  cases l with
  | nil => cases hm
  | cons a l =>
    have e := ha a (by simp)
    subst e
    cases l with
    | nil => rfl
    | cons b l =>
      have e := ha b (by simp)
      subst e
      simp at hn
theorem plc_inj (hg : Good T m) {x y : Int × Cl} (hx : x ∈ m) (hy : y ∈ m) (e : plc T x = plc T y) : x = y := nd_eq hg.nd hx hy (congrArg Pl.d e)
theorem nodup_m (hg : Good T m) : m.Nodup := List.Pairwise.of_map (·.1) (fun _ _ h e => h (congrArg _ e)) hg.nd
theorem cnt_at (hg : Good T m) {o : List Pl} (ho : IsOrd T m o) {y : Int × Cl} (hy : y ∈ m) {j : Nat} (hj : j < o.length) (e : plc T y = o[j]) : cntA T m y = j := by
  have hS : ∀ p ∈ o, SP T m p := fun p hp => by
    obtain ⟨x, hx, _, e⟩ := (ho.2 p).1 hp
    exact ⟨x, hx, e⟩
  have hA : ((m.filter (·.2.aw)).map (plc T)).Perm o := by
    refine (List.perm_ext_iff_of_nodup ?_ (srt_nodup hg.ps.ord hS ho.1)).2 fun p => ?_
    · refine List.Pairwise.map _ (R := fun a b => a ∈ m ∧ b ∈ m ∧ a ≠ b) (fun a b h e => h.2.2 (plc_inj hg h.1 h.2.1 e)) ?_
      have hn := (nodup_m hg).filter (·.2.aw)
      exact List.Pairwise.imp_of_mem (fun ha hb h => ⟨(List.mem_filter.1 ha).1, (List.mem_filter.1 hb).1, h⟩) hn
    · rw [ho.2, List.mem_map]
      constructor
      · rintro ⟨x, hx, rfl⟩
        exact ⟨x, (List.mem_filter.1 hx).1, (List.mem_filter.1 hx).2, rfl⟩
      · rintro ⟨x, hx, ha, rfl⟩
        exact ⟨x, List.mem_filter.2 ⟨hx, ha⟩, rfl⟩
  have h1 := hA.countP_eq (fun p => decide (cfP p o[j] < 0))
  rw [countP_srt hg.ps.ord hS ho.1 hj, List.countP_map, List.countP_filter] at h1
  rw [← h1]
  unfold cntA ahB
  congr 1
  funext z
  simp only [Function.comp, e]
  rw [Bool.and_comm]
theorem rowN_at (hg : Good T m) {o : List Pl} (ho : IsOrd T m o) (k : Nat) : rowN T m k = if h : k < o.length then [o[k].d] else [] := by
  have key : ∀ y ∈ m.filter (pkB T m k), ∃ h : k < o.length, plc T y = o[k] := fun y hy => by
    obtain ⟨hm, hp⟩ := List.mem_filter.1 hy
    unfold pkB at hp
    simp only [Bool.and_eq_true, decide_eq_true_eq] at hp
    obtain ⟨j, hj, e⟩ := List.getElem_of_mem ((ho.2 (plc T y)).2 ⟨y, hm, hp.1, rfl⟩)
    have := cnt_at hg ho hm hj e.symm
    have hjk : j = k := by omega
    subst hjk
    exact ⟨hj, e.symm⟩
  unfold rowN
  split
  · rename_i hk
    obtain ⟨x, hx, ha, e⟩ := (ho.2 o[k]).1 (List.getElem_mem hk)
    have hxm : x ∈ m.filter (pkB T m k) := List.mem_filter.2 ⟨hx, by
      unfold pkB
      simp only [Bool.and_eq_true, decide_eq_true_eq]
      exact ⟨ha, cnt_at hg ho hx hk e.symm⟩⟩
    have e1 : m.filter (pkB T m k) = [x] := list_one ((nodup_m hg).filter _) (fun y hy => by
      obtain ⟨_, e2⟩ := key y hy
      exact plc_inj hg (List.mem_filter.1 hy).1 hx (e2.trans e)) hxm
    rw [e1, e]
    rfl
  · rename_i hk
    cases h : m.filter (pkB T m k) with
    | nil => rfl
    | cons y l =>
      obtain ⟨hk', _⟩ := key y (by rw [h]; simp)
      exact absurd hk' hk
theorem ordN_take (hg : Good T m) {o : List Pl} (ho : IsOrd T m o) : ∀ k, ordN T m k = (o.take k).map Pl.d
  | 0 => rfl
  | k + 1 => by
    rw [ordN, ordN_take hg ho k, rowN_at hg ho k, List.take_add_one]
    split
    · rename_i hk
      rw [List.getElem?_eq_getElem hk, Option.toList_some, List.map_append]; rfl
    · rename_i hk
      rw [List.getElem?_eq_none (by omega)]
      simp
theorem ordN_all (hg : Good T m) (ho : IsOrd T m (ordL T m)) (hl : (ordL T m).length ≤ m.length) : ordN T m m.length = (ordL T m).map Pl.d := by
  rw [ordN_take hg ho, List.take_of_length_le hl]
end Go.Vc.S

/- The document's order. -/
set_option maxRecDepth 20000
set_option maxHeartbeats 1000000
namespace Go.Vc.S
open Go Go.Vc Go.RowKit Go.Proofs Go.Vc.T Vcs

variable {w W W' W1 : World} {M N : Nat → Prop} {gs ds : List Nat} {T n : Ar4} {m m0 m1 : List (Int × Cl)} {id : Int} {c : Cl} {a : Option Addr} {ln lc : Nat}

theorem c21 (w : World) (T : Ar4) (hs : SlE w 7 rcE m a ln lc) (hl : m.length < 100000) : RetL Try.prog 21 #[mV T (.slice a ln lc)] w 2 1 i1E (ordN T m m.length) := by
  intro R h
  refine f21_calls _ _ _ _ _ _ _ w R ?_
  unfold f21_vc
  have hln := hs.1
  refine go_n (At.refl w) fun n1 h1 => ?_
  refine ⟨fun s W => At w [n1] W ∧ ∃ K : Nat, s.2.1 = K ∧ K ≤ ln ∧ OwnL w [n1] W 2 1 i1E (.slice s.1.1 s.1.2.1 s.1.2.2) (ordN T m K) ∧ s.1.2.1 = (ordN T m K).length ∧ (ordN T m K).length ≤ K * 100000, fun s _ => ln - s.2.1.toNat, go_below (At.refl w) fun w4 hA => ⟨hA, 0, rfl, Nat.zero_le _, OwnF.nil, rfl, Nat.le_refl _⟩, ?_⟩
  rintro a5 n6 n7 x8 w9 ⟨hA, K, hK, hKl, ho, hn, hb⟩
  simp only at hK ho hn
  subst hK hn
  refine brD (fun hlt => ?_) fun hge => ?_
  · refine ⟨fun s W => At w [n1] W ∧ ∃ i : Nat, s.2.1 = i ∧ i ≤ ln ∧ OwnL w [n1] W 2 1 i1E (.slice s.1.1 s.1.2.1 s.1.2.2) (ordN T m K ++ ((m.take i).filter (pkB T m K)).map (·.1)) ∧ s.1.2.1 = (ordN T m K ++ ((m.take i).filter (pkB T m K)).map (·.1)).length ∧ (ordN T m K ++ ((m.take i).filter (pkB T m K)).map (·.1)).length ≤ K * 100000 + i, fun s _ => ln - s.2.1.toNat, ⟨hA, 0, rfl, Nat.zero_le _, by simpa using ho, by simp, by simpa using hb⟩, ?_⟩
    rintro a12 n13 n14 x15 w16 ⟨hA, i, hi, hil, ho, hn, hb⟩
    simp only at hi ho hn
    subst hi hn
    refine brD (fun hlt2 => ?_) fun hge2 => ?_
    · have him : i < m.length := by omega
      have hgi := List.getElem?_eq_getElem him
      refine ⟨fun s W => At w [n1] W ∧ ∃ k : Nat, s.2.1 = k ∧ k ≤ ln ∧ s.1 = ((m.take k).countP (ahB T m[i]) : Nat) ∧ (m.take k).countP (ahB T m[i]) ≤ k ∧ OwnL w [n1] W 2 1 i1E (.slice a12 (ordN T m K ++ ((m.take i).filter (pkB T m K)).map (·.1)).length n14) (ordN T m K ++ ((m.take i).filter (pkB T m K)).map (·.1)), fun s _ => ln - s.2.1.toNat, ⟨hA, 0, rfl, Nat.zero_le _, by simp, by simp, ho⟩, ?_⟩
      rintro x19 x20 w21 ⟨hA, k, hk, hkl, hx, hck, ho⟩
      simp only at hk hx
      subst hk hx
      have hslA := hs.call hA.below
      obtain ⟨adi, gi, eli, _⟩ := elt_at (P := Try.prog) (k := .i64) (t := 52) hslA hgi (e := 63) (by kernel_rfl) (by kernel_rfl)
      refine brD (fun hlt3 => ?_) fun hge3 => ?_
      · have hkm : k < m.length := by omega
        have hgk := List.getElem?_eq_getElem hkm
        obtain ⟨adk, gk, elk, _⟩ := elt_at (P := Try.prog) (k := .i64) (t := 52) hslA hgk (e := 63) (by kernel_rfl) (by kernel_rfl)
        have htk : (m.take (k + 1)).countP (ahB T m[i]) = (m.take k).countP (ahB T m[i]) + (if ahB T m[i] m[k] then 1 else 0) := by
          rw [List.take_add_one, hgk, Option.toList_some, List.countP_append, List.countP_singleton]
        have hw : IntKind.i64.wrap ((k : Int) + 1) = ((k + 1 : Nat) : Int) := by rw [wrap_i64 (by omega) (by omega)]; omega
        have hw2 : IntKind.i64.wrap (((m.take k).countP (ahB T m[i]) : Nat) + (1 : Int)) = (((m.take k).countP (ahB T m[i]) + 1 : Nat) : Int) := by rw [wrap_i64 (by omega) (by omega)]; omega
        rw [hw, hw2]
        have rb : ∀ {W : World}, Elt W adk (rcE m[k]) → Reads Try.prog [] (Instr.loadAt 4 (.pointer (some (Addr.mk adk.block (adk.off + 6) none)))) W (.bool m[k].2.aw) := fun el => (el.sub (o := 6) (by decide)).one (by kernel_rfl) no_ds
        refine ⟨adk, gk, _, rb elk, brB (fun hb1 => ?_) fun hb1 => go_below_too hA fun w44 hA hb44 => ?_⟩
        · refine ⟨adk, gk, _, _, _, _, _, _, _, elk.agg 7 (by kernel_rfl) (by kernel_rfl) (by simp) no_ds, adi, gi, _, _, _, _, _, _, _, eli.agg 7 (by kernel_rfl) (by kernel_rfl) (by simp) no_ds, go_below_too hA fun w40 hA hb40 => ?_⟩
          refine at_callb hA (c65 _ T m[k] m[i]) fun w42 hA hk42 hb42 => ⟨_, rfl, hk42, rb ((elk.below hb40).below hb42), ?_⟩
          have ho := (ho.call hb40).call hb42
          have e0 : ahB T m[i] m[k] = decide (cfP (plc T m[k]) (plc T m[i]) < 0) := by unfold ahB; rw [hb1]; rfl
          refine brD (fun hc => ?_) fun hc => ?_
          · rw [e0, if_pos (decide_eq_true hc)] at htk
            exact ⟨⟨hA, k + 1, rfl, by omega, by rw [htk], by omega, ho⟩, by simp only; omega⟩
          · rw [e0, if_neg (by simpa using hc)] at htk
            exact ⟨⟨hA, k + 1, rfl, by omega, by rw [htk]; rfl, by omega, ho⟩, by simp only; omega⟩
        · have e0 : ahB T m[i] m[k] = false := by unfold ahB; rw [hb1]; rfl
          rw [e0] at htk
          exact ⟨⟨hA, k + 1, rfl, by omega, by rw [htk]; simp, by simp at htk; omega, ho.call hb44⟩, by simp only; omega⟩
      · have hkl2 : m.take k = m := List.take_of_length_le (by omega)
        rw [hkl2] at hck ⊢
        have hw : IntKind.i64.wrap ((i : Int) + 1) = ((i + 1 : Nat) : Int) := by rw [wrap_i64 (by omega) (by omega)]; omega
        rw [hw]
        have htk : (m.take (i + 1)).filter (pkB T m K) = (m.take i).filter (pkB T m K) ++ (if pkB T m K m[i] then [m[i]] else []) := by
          rw [List.take_add_one, hgi, Option.toList_some, List.filter_append, List.filter_cons, List.filter_nil]
        have nopick : pkB T m K m[i] = false → ordN T m K ++ ((m.take (i + 1)).filter (pkB T m K)).map (·.1) = ordN T m K ++ ((m.take i).filter (pkB T m K)).map (·.1) := fun e => by rw [htk, e]; simp
        have stay : pkB T m K m[i] = false → ∀ W, At w [n1] W → OwnL w [n1] W 2 1 i1E (.slice a12 (ordN T m K ++ ((m.take i).filter (pkB T m K)).map (·.1)).length n14) (ordN T m K ++ ((m.take i).filter (pkB T m K)).map (·.1)) → At w [n1] W ∧ ∃ j : Nat, ((i + 1 : Nat) : Int) = j ∧ j ≤ ln ∧ OwnL w [n1] W 2 1 i1E (.slice a12 (ordN T m K ++ ((m.take i).filter (pkB T m K)).map (·.1)).length n14) (ordN T m K ++ ((m.take j).filter (pkB T m K)).map (·.1)) ∧ (ordN T m K ++ ((m.take i).filter (pkB T m K)).map (·.1)).length = (ordN T m K ++ ((m.take j).filter (pkB T m K)).map (·.1)).length ∧ (ordN T m K ++ ((m.take j).filter (pkB T m K)).map (·.1)).length ≤ K * 100000 + j := fun e W hA ho => ⟨hA, i + 1, rfl, by omega, by rw [nopick e]; exact ho, by rw [nopick e], by rw [nopick e]; omega⟩
        refine ⟨adi, gi, _, (eli.sub (o := 6) (by decide)).one (by kernel_rfl) no_ds, brB (fun hb1 => ?_) fun hb1 => ?_⟩
        · refine brE (fun he => ?_) fun hne => ?_
          · have hp : pkB T m K m[i] = true := by
              unfold pkB cntA
              rw [hb1]
              simp only [Bool.true_and, decide_eq_true_eq]
              omega
            have e3 : ordN T m K ++ ((m.take i).filter (pkB T m K)).map (·.1) ++ [m[i].1] = ordN T m K ++ ((m.take (i + 1)).filter (pkB T m K)).map (·.1) := by
              rw [htk, hp]; simp
            refine ⟨adi, gi, _, eli.one (by kernel_rfl) no_ds, ?_⟩
            refine opw_push (e' := 2) (bytes := 8) hA ho m[i].1 (by kernel_rfl) (by kernel_rfl) rfl (fun _ _ => rfl) (by simp [Value.oneCell']) (by omega) (by decide) fun a2 c2 w55 hA ho _ _ => ?_
            have hlen := congrArg List.length e3
            rw [List.length_append, List.length_singleton] at hlen
            rw [e3] at ho ⊢
            exact ⟨⟨hA, i + 1, rfl, by omega, ho, rfl, by omega⟩, by simp only; omega⟩
          · have hp : pkB T m K m[i] = false := by
              unfold pkB cntA
              rw [hb1]
              simp only [Bool.true_and, decide_eq_false_iff_not]
              omega
            exact ⟨stay hp w21 hA ho, by simp only; omega⟩
        · have hp : pkB T m K m[i] = false := by
            unfold pkB
            rw [hb1]; rfl
          exact ⟨stay hp w21 hA ho, by simp only; omega⟩
    · have hw : IntKind.i64.wrap ((K : Int) + 1) = ((K + 1 : Nat) : Int) := by rw [wrap_i64 (by omega) (by omega)]; omega
      rw [hw]
      have hie : m.take i = m := List.take_of_length_le (by omega)
      rw [hie] at ho hb ⊢
      exact ⟨⟨hA, K + 1, rfl, by omega, ho, rfl, by simp only [ordN, rowN] at hb ⊢; omega⟩, by simp only; omega⟩
  · have hKe : K = m.length := by omega
    subst hKe
    exact leafl h hA ho rfl
end Go.Vc.S

/- The formulas of functions, printed by a program (VcTool.lean): each is what the generator's formula comes to, by the kernel's reckoning; whoever proves one has the function's contract. -/
set_option maxRecDepth 100000
set_option maxHeartbeats 1000000
set_option linter.unusedVariables false
namespace Vcs
open Go Go.Vc Go.RowKit
/-! manciple/manciplelaw09.SorterPlays -/
def h5 : Hints := ⟨[6, 8, 13, 15], [33, 41, 79, 132, 144, 155], [20, 26, 45, 91, 108, 59, 67, 74, 76, 84, 87, 111, 115, 120, 124, 127, 137, 149, 160], [(14, [0, 2, 1, 3, 4, 5, 6, 8, 9, 10, 7, 11, 12, 13, 14, 15, 16, 17, 18, 19, 20, 21, 22, 23, 24, 25, 26, 27, 28, 29, 30, 31, 32, 33, 34, 35, 36, 37]), (21, [0, 1, 2, 3, 4, 5, 6, 7, 8, 9, 10, 11, 12, 13, 14, 15, 16, 17, 18, 19, 20, 21, 22, 23, 24, 25, 26, 27, 28, 29, 30, 31, 32, 33, 34, 35, 36, 37, 38, 39, 40])], [], [(6, ⟨[(7, .int .i64)], [(6, .cons (.int .i64) (.cons (.int .i64) (.cons (.int .i64) (.cons (.int .i64) (.cons (.sl) (.nil))))))]⟩)], [(7, ⟨[], [(6, .cons (.int .i64) (.cons (.int .i64) (.cons (.int .i64) (.cons (.int .i64) (.cons (.sl) (.nil))))))]⟩)], [], [(8, (.op 0 (.op 1 (.op 2 (.op 3 (.op 4 (.alt (.op 5 (.op 6 (.op 7 (.op 8 (.op 9 (.op 10 (.op 11 .nil))))))) (.op 9 (.op 5 (.op 6 (.op 7 (.op 8 (.op 10 (.op 11 .nil))))))))))))))]⟩
def f5_vc (la : Option Addr) (ln : Nat) (lc : Nat) (id : Int) (w : World) (R : Ending → World → Prop) : Prop :=
 (decide ((↑ln : Int) > 60) = true → R (Ending.returned (Value.bool true)) w) ∧
 (decide ((↑ln : Int) > 60) = false →
 Calls Proofs.Try.prog 8 #[] w fun (e1 : Ending) (w2 : World) =>
 ∃ (a3 : Option Addr),
 e1 = Ending.returned (Value.pointer a3) ∧
 ∀ (n4 : Nat),
 w2.heap.size ≤ n4 →
 ∃ (J5 : Int × Int × Int × Int × Int × (Option Addr × Nat × Nat) × Unit → World → Prop),
 ∃ (J6 : Int × Int × Int × Int × Int × (Option Addr × Nat × Nat) × Unit → World → Nat),
 (∀ (w7 : World), Evo [n4] w2 w7 → Under [n4] w7 → J5 (0, 0, 0, 0, 0, (none, 0, 0), ()) w7) ∧
 ∀ (x8 x9 x10 x11 x12 : Int) (a13 : Option Addr) (n14 n15 : Nat) (w16 : World),
 J5 (x8, x9, x10, x11, x12, (a13, n14, n15), ()) w16 →
 (decide (x8 < (↑ln : Int)) = true →
 ∃ (J17 : Int × Int × Int × Int × (Option Addr × Nat × Nat) × Unit → World → Prop),
 (∃ (ad18 : Addr),
 Gives Proofs.Try.prog (Instr.indexAt 22 (Value.slice la ln lc) (Value.int IntKind.i64 x8)) (Value.pointer (some ad18)) ∧
 ∃ (x19 : Int),
 ∃ (x20 : Int),
 ∃ (x21 : Int),
 ∃ (x22 : Int),
 ∃ (x23 : Int),
 ∃ (x24 : Int),
 ∃ (x25 : Int),
 Reads Proofs.Try.prog [] (Instr.loadAt 28 (Value.pointer (some ad18))) w16
 (Value.agg
 #[Value.int IntKind.i64 x19, Value.int IntKind.i64 x20, Value.int IntKind.i64 x21, Value.int IntKind.i64 x22, Value.int IntKind.i64 x23, Value.int IntKind.i64 x24,
 Value.int IntKind.i64 x25]) ∧
 (∀ (w26 : World),
 Bel w16 w26 →
 Under [n4] w26 →
 Calls Proofs.Try.prog 20
 #[Value.agg #[Value.int IntKind.i64 x9, Value.int IntKind.i64 x10, Value.int IntKind.i64 x11, Value.int IntKind.i64 x12, Value.slice a13 n14 n15],
 Value.agg
 #[Value.int IntKind.i64 x19, Value.int IntKind.i64 x20, Value.int IntKind.i64 x21, Value.int IntKind.i64 x22, Value.int IntKind.i64 x23, Value.int IntKind.i64 x24,
 Value.int IntKind.i64 x25]]
 w26 fun (e27 : Ending) (w28 : World) =>
 ∃ (x29 : Int),
 ∃ (x30 : Int),
 ∃ (x31 : Int),
 ∃ (x32 : Int),
 ∃ (a33 : Option Addr),
 ∃ (n34 : Nat),
 ∃ (n35 : Nat),
 ∃ (x36 : Int),
 e27 =
 Ending.returned
 (Value.tuple
 #[Value.agg #[Value.int IntKind.i64 x29, Value.int IntKind.i64 x30, Value.int IntKind.i64 x31, Value.int IntKind.i64 x32, Value.slice a33 n34 n35],
 Value.int IntKind.i64 x36]) ∧
 Keeps [n4] w26 w28 ∧
 ∀ (n37 : Nat),
 w28.heap.size ≤ n37 →
 ∃ (ad38 : Addr),
 Gives Proofs.Try.prog (Instr.indexAt 22 (Value.slice la ln lc) (Value.int IntKind.i64 x8)) (Value.pointer (some ad38)) ∧
 ∃ (x39 : Int),
 ∃ (x40 : Int),
 ∃ (x41 : Int),
 ∃ (x42 : Int),
 ∃ (x43 : Int),
 ∃ (x44 : Int),
 ∃ (x45 : Int),
 Reads Proofs.Try.prog [n37] (Instr.loadAt 28 (Value.pointer (some ad38))) w28
 (Value.agg
 #[Value.int IntKind.i64 x39, Value.int IntKind.i64 x40, Value.int IntKind.i64 x41, Value.int IntKind.i64 x42,
 Value.int IntKind.i64 x43, Value.int IntKind.i64 x44, Value.int IntKind.i64 x45]) ∧
 ∀ (w46 : World),
 Evo [n37] w28 w46 →
 Under [n4, n37] w46 →
 Calls Proofs.Try.prog 9
 #[Value.pointer a3,
 Value.agg
 #[Value.int IntKind.i64 x39, Value.int IntKind.i64 x40, Value.int IntKind.i64 x41, Value.int IntKind.i64 x42,
 Value.int IntKind.i64 x43, Value.int IntKind.i64 x44, Value.int IntKind.i64 x45]]
 w46 fun (e47 : Ending) (w48 : World) =>
 ∃ (x49 : Int),
 e47 = Ending.returned (Value.int IntKind.i64 x49) ∧
 Keeps [n4, n37] w46 w48 ∧
 ((x49 != x36) = true → R (Ending.returned (Value.bool false)) w48) ∧
 ((x49 != x36) = false →
 ∀ (w50 : World),
 Evo [n4] w48 w50 →
 Under [n4, n37] w50 →
 Calls Proofs.Try.prog 21
 #[Value.agg
 #[Value.int IntKind.i64 x29, Value.int IntKind.i64 x30, Value.int IntKind.i64 x31,
 Value.int IntKind.i64 x32, Value.slice a33 n34 n35]]
 w50 fun (e51 : Ending) (w52 : World) =>
 ∃ (a53 : Option Addr),
 ∃ (n54 : Nat),
 ∃ (n55 : Nat),
 e51 = Ending.returned (Value.slice a53 n54 n55) ∧
 Keeps [n4, n37] w50 w52 ∧
 Calls Proofs.Try.prog 22 #[Value.pointer a3] w52 fun (e56 : Ending) (w57 : World) =>
 ∃ (x58 : Int),
 ∃ (b59 : Bool),
 e56 = Ending.returned (Value.tuple #[Value.int IntKind.i64 x58, Value.bool b59]) ∧
 Keeps [n4, n37] w52 w57 ∧
 ∀ (w60 : World),
 Bel w57 w60 →
 Under [n4, n37] w60 →
 Calls Proofs.Try.prog 10 #[Value.pointer a3] w60
 fun (e61 : Ending) (w62 : World) =>
 ∃ (a63 : Option Addr),
 ∃ (n64 : Nat),
 ∃ (n65 : Nat),
 e61 = Ending.returned (Value.slice a63 n64 n65) ∧
 Keeps [n4, n37] w60 w62 ∧
 Calls Proofs.Try.prog 17
 #[Value.slice a63 n64 n65, Value.slice a53 n54 n55] w62
 fun (e66 : Ending) (w67 : World) =>
 ∃ (b68 : Bool),
 e66 = Ending.returned (Value.bool b68) ∧
 Keeps [n4, n37] w62 w67 ∧
 ((!b68) = true → R (Ending.returned (Value.bool false)) w67) ∧
 ((!b68) = false →
 Calls Proofs.Try.prog 13 #[Value.pointer a3] w67
 fun (e69 : Ending) (w70 : World) =>
 ∃ (x71 : Int),
 e69 = Ending.returned (Value.int IntKind.i64 x71) ∧
 Keeps [n4, n37] w67 w70 ∧
 ((x71 != (↑n34 : Int)) = true →
 R (Ending.returned (Value.bool false)) w70) ∧
 ((x71 != (↑n34 : Int)) = false →
 ((!b59 == decide ((↑n54 : Int) > 0)) = true →
 R (Ending.returned (Value.bool false))
 w70) ∧
 ((!b59 == decide ((↑n54 : Int) > 0)) =
 false →
 (b59 = true →
 ∃ (ad72 : Addr),
 Gives Proofs.Try.prog
 (Instr.indexAt 29
 (Value.slice a53 n54 n55)
 (Value.int IntKind.i64 0))
 (Value.pointer (some ad72)) ∧
 ∃ (x73 : Int),
 Reads Proofs.Try.prog []
 (Instr.loadAt 2
 (Value.pointer
 (some ad72)))
 w70
 (Value.int IntKind.i64
 x73) ∧
 ((x58 != x73) = true →
 R
 (Ending.returned
 (Value.bool false))
 w70) ∧
 ((x58 != x73) = false →
 ((!b59) = true →
 ((x58 != 0) = true →
 R
 (Ending.returned
 (Value.bool
 false))
 w70) ∧
 ((x58 != 0) =
 false →
 J17
 (x29, x30, x31,
 x32,
 (a33, n34,
 n35),
 ())
 w70)) ∧
 ((!b59) = false →
 J17
 (x29, x30, x31, x32,
 (a33, n34, n35),
 ())
 w70))) ∧
 (b59 = false →
 ((!b59) = true →
 ((x58 != 0) = true →
 R
 (Ending.returned
 (Value.bool false))
 w70) ∧
 ((x58 != 0) = false →
 J17
 (x29, x30, x31, x32,
 (a33, n34, n35), ())
 w70)) ∧
 ((!b59) = false →
 J17
 (x29, x30, x31, x32,
 (a33, n34, n35), ())
 w70))))))) ∧
 ∀ (n74 : Nat),
 w16.heap.size ≤ n74 →
 Reads Proofs.Try.prog [] (Instr.loadAt 28 (Value.pointer (some ad18))) w16
 (Value.agg
 #[Value.int IntKind.i64 x19, Value.int IntKind.i64 x20, Value.int IntKind.i64 x21, Value.int IntKind.i64 x22, Value.int IntKind.i64 x23, Value.int IntKind.i64 x24,
 Value.int IntKind.i64 x25]) ∧
 ∀ (w75 : World),
 Bel w16 w75 →
 Under [n4, n74] w75 →
 Calls Proofs.Try.prog 20
 #[Value.agg #[Value.int IntKind.i64 x9, Value.int IntKind.i64 x10, Value.int IntKind.i64 x11, Value.int IntKind.i64 x12, Value.slice a13 n14 n15],
 Value.agg
 #[Value.int IntKind.i64 x19, Value.int IntKind.i64 x20, Value.int IntKind.i64 x21, Value.int IntKind.i64 x22, Value.int IntKind.i64 x23, Value.int IntKind.i64 x24,
 Value.int IntKind.i64 x25]]
 w75 fun (e76 : Ending) (w77 : World) =>
 ∃ (x78 : Int),
 ∃ (x79 : Int),
 ∃ (x80 : Int),
 ∃ (x81 : Int),
 ∃ (a82 : Option Addr),
 ∃ (n83 : Nat),
 ∃ (n84 : Nat),
 ∃ (x85 : Int),
 e76 =
 Ending.returned
 (Value.tuple
 #[Value.agg #[Value.int IntKind.i64 x78, Value.int IntKind.i64 x79, Value.int IntKind.i64 x80, Value.int IntKind.i64 x81, Value.slice a82 n83 n84],
 Value.int IntKind.i64 x85]) ∧
 Keeps [n4, n74] w75 w77 ∧
 ∃ (ad86 : Addr),
 Gives Proofs.Try.prog (Instr.indexAt 22 (Value.slice la ln lc) (Value.int IntKind.i64 x8)) (Value.pointer (some ad86)) ∧
 ∃ (x87 : Int),
 ∃ (x88 : Int),
 ∃ (x89 : Int),
 ∃ (x90 : Int),
 ∃ (x91 : Int),
 ∃ (x92 : Int),
 ∃ (x93 : Int),
 Reads Proofs.Try.prog [n74] (Instr.loadAt 28 (Value.pointer (some ad86))) w77
 (Value.agg
 #[Value.int IntKind.i64 x87, Value.int IntKind.i64 x88, Value.int IntKind.i64 x89, Value.int IntKind.i64 x90,
 Value.int IntKind.i64 x91, Value.int IntKind.i64 x92, Value.int IntKind.i64 x93]) ∧
 ∀ (w94 : World),
 Evo [n74] w77 w94 →
 Under [n4, n74] w94 →
 Calls Proofs.Try.prog 9
 #[Value.pointer a3,
 Value.agg
 #[Value.int IntKind.i64 x87, Value.int IntKind.i64 x88, Value.int IntKind.i64 x89, Value.int IntKind.i64 x90,
 Value.int IntKind.i64 x91, Value.int IntKind.i64 x92, Value.int IntKind.i64 x93]]
 w94 fun (e95 : Ending) (w96 : World) =>
 ∃ (x97 : Int),
 e95 = Ending.returned (Value.int IntKind.i64 x97) ∧
 Keeps [n4, n74] w94 w96 ∧
 ((x97 != x85) = true → R (Ending.returned (Value.bool false)) w96) ∧
 ((x97 != x85) = false →
 ∀ (w98 : World),
 Evo [n4] w96 w98 →
 Under [n4, n74] w98 →
 Calls Proofs.Try.prog 21
 #[Value.agg
 #[Value.int IntKind.i64 x78, Value.int IntKind.i64 x79, Value.int IntKind.i64 x80,
 Value.int IntKind.i64 x81, Value.slice a82 n83 n84]]
 w98 fun (e99 : Ending) (w100 : World) =>
 ∃ (a101 : Option Addr),
 ∃ (n102 : Nat),
 ∃ (n103 : Nat),
 e99 = Ending.returned (Value.slice a101 n102 n103) ∧
 Keeps [n4, n74] w98 w100 ∧
 Calls Proofs.Try.prog 22 #[Value.pointer a3] w100 fun (e104 : Ending) (w105 : World) =>
 ∃ (x106 : Int),
 ∃ (b107 : Bool),
 e104 = Ending.returned (Value.tuple #[Value.int IntKind.i64 x106, Value.bool b107]) ∧
 Keeps [n4, n74] w100 w105 ∧
 ∀ (w108 : World),
 Bel w105 w108 →
 Under [n4, n74] w108 →
 Calls Proofs.Try.prog 10 #[Value.pointer a3] w108
 fun (e109 : Ending) (w110 : World) =>
 ∃ (a111 : Option Addr),
 ∃ (n112 : Nat),
 ∃ (n113 : Nat),
 e109 = Ending.returned (Value.slice a111 n112 n113) ∧
 Keeps [n4, n74] w108 w110 ∧
 Calls Proofs.Try.prog 17
 #[Value.slice a111 n112 n113, Value.slice a101 n102 n103] w110
 fun (e114 : Ending) (w115 : World) =>
 ∃ (b116 : Bool),
 e114 = Ending.returned (Value.bool b116) ∧
 Keeps [n4, n74] w110 w115 ∧
 ((!b116) = true →
 R (Ending.returned (Value.bool false)) w115) ∧
 ((!b116) = false →
 Calls Proofs.Try.prog 13 #[Value.pointer a3] w115
 fun (e117 : Ending) (w118 : World) =>
 ∃ (x119 : Int),
 e117 =
 Ending.returned (Value.int IntKind.i64 x119) ∧
 Keeps [n4, n74] w115 w118 ∧
 ((x119 != (↑n83 : Int)) = true →
 R (Ending.returned (Value.bool false))
 w118) ∧
 ((x119 != (↑n83 : Int)) = false →
 ((!b107 == decide ((↑n102 : Int) > 0)) =
 true →
 R (Ending.returned (Value.bool false))
 w118) ∧
 ((!b107 == decide ((↑n102 : Int) > 0)) =
 false →
 (b107 = true →
 ∃ (ad120 : Addr),
 Gives Proofs.Try.prog
 (Instr.indexAt 29
 (Value.slice a101 n102 n103)
 (Value.int IntKind.i64 0))
 (Value.pointer (some ad120)) ∧
 ∃ (x121 : Int),
 Reads Proofs.Try.prog []
 (Instr.loadAt 2
 (Value.pointer
 (some ad120)))
 w118
 (Value.int IntKind.i64
 x121) ∧
 ((x106 != x121) = true →
 R
 (Ending.returned
 (Value.bool false))
 w118) ∧
 ((x106 != x121) = false →
 ((!b107) = true →
 ((x106 != 0) =
 true →
 R
 (Ending.returned
 (Value.bool
 false))
 w118) ∧
 ((x106 != 0) =
 false →
 J17
 (x78, x79,
 x80, x81,
 (a82, n83,
 n84),
 ())
 w118)) ∧
 ((!b107) = false →
 J17
 (x78, x79, x80,
 x81,
 (a82, n83, n84),
 ())
 w118))) ∧
 (b107 = false →
 ((!b107) = true →
 ((x106 != 0) = true →
 R
 (Ending.returned
 (Value.bool false))
 w118) ∧
 ((x106 != 0) = false →
 J17
 (x78, x79, x80, x81,
 (a82, n83, n84), ())
 w118)) ∧
 ((!b107) = false →
 J17
 (x78, x79, x80, x81,
 (a82, n83, n84), ())
 w118))))))) ∧
 ∀ (x122 x123 x124 x125 : Int) (a126 : Option Addr) (n127 n128 : Nat) (w129 : World),
 J17 (x122, x123, x124, x125, (a126, n127, n128), ()) w129 →
 J5 (IntKind.i64.wrap (x8 + 1), x122, x123, x124, x125, (a126, n127, n128), ()) w129 ∧
 J6 (IntKind.i64.wrap (x8 + 1), x122, x123, x124, x125, (a126, n127, n128), ()) w129 < J6 (x8, x9, x10, x11, x12, (a13, n14, n15), ()) w16) ∧
 (decide (x8 < (↑ln : Int)) = false →
 Calls Proofs.Try.prog 23 #[Value.pointer a3, Value.int IntKind.i64 id] w16 fun (e130 : Ending) (w131 : World) =>
 ∃ (x132 : Int),
 ∃ (x133 : Int),
 ∃ (x134 : Int),
 ∃ (x135 : Int),
 ∃ (b136 : Bool),
 e130 = Ending.returned (Value.tuple #[Value.agg #[Value.int IntKind.i64 x132, Value.int IntKind.i64 x133, Value.int IntKind.i64 x134, Value.int IntKind.i64 x135], Value.bool b136]) ∧
 Keeps [n4] w16 w131 ∧
 ∀ (n137 : Nat),
 w131.heap.size ≤ n137 →
 ∀ (w138 : World),
 Evo [n137] w131 w138 →
 Under [n4, n137] w138 →
 Calls Proofs.Try.prog 11 #[Value.pointer a3, Value.int IntKind.i64 id] w138 fun (e139 : Ending) (w140 : World) =>
 ∃ (x141 : Int),
 ∃ (x142 : Int),
 ∃ (x143 : Int),
 ∃ (b144 : Bool),
 e139 = Ending.returned (Value.tuple #[Value.agg #[Value.int IntKind.i64 x141, Value.int IntKind.i64 x142, Value.int IntKind.i64 x143], Value.bool b144]) ∧
 Keeps [n4, n137] w138 w140 ∧
 ∀ (n145 : Nat),
 w140.heap.size ≤ n145 →
 ∀ (w146 : World),
 Evo [n145] w140 w146 →
 Under [n4, n137, n145] w146 →
 Calls Proofs.Try.prog 24
 #[Value.agg #[Value.int IntKind.i64 x9, Value.int IntKind.i64 x10, Value.int IntKind.i64 x11, Value.int IntKind.i64 x12, Value.slice a13 n14 n15],
 Value.int IntKind.i64 id]
 w146 fun (e147 : Ending) (w148 : World) =>
 ∃ (x149 : Int),
 e147 = Ending.returned (Value.int IntKind.i64 x149) ∧
 Keeps [n4, n137, n145] w146 w148 ∧
 (decide (x149 < 0) = true →
 ((!b136) = true →
 ((!b144) = true →
 ((x132 == 0 && (x133 == 0 && (x134 == 0 && (x135 == 0 && true)))) = true →
 Calls Proofs.Try.prog 14 #[] w148 fun (e150 : Ending) (w151 : World) =>
 ∃ (b152 : Bool),
 e150 = Ending.returned (Value.bool b152) ∧ Keeps [n4, n137, n145] w148 w151 ∧ R (Ending.returned (Value.bool b152)) w151) ∧
 ((x132 == 0 && (x133 == 0 && (x134 == 0 && (x135 == 0 && true)))) = false → R (Ending.returned (Value.bool false)) w148)) ∧
 ((!b144) = false → R (Ending.returned (Value.bool false)) w148)) ∧
 ((!b136) = false → R (Ending.returned (Value.bool false)) w148)) ∧
 (decide (x149 < 0) = false →
 (b136 = true →
 (b144 = true →
 ∃ (ad153 : Addr),
 Gives Proofs.Try.prog (Instr.indexAt 52 (Value.slice a13 n14 n15) (Value.int IntKind.i64 x149)) (Value.pointer (some ad153)) ∧
 ∃ (x154 : Int),
 ∃ (x155 : Int),
 ∃ (x156 : Int),
 ∃ (x157 : Int),
 Reads Proofs.Try.prog [] (Instr.loadAt 26 (Value.pointer (some (Addr.mk ad153.block (ad153.off + 2) none)))) w148
 (Value.agg
 #[Value.int IntKind.i64 x154, Value.int IntKind.i64 x155, Value.int IntKind.i64 x156, Value.int IntKind.i64 x157]) ∧
 ((x132 == x154 && (x133 == x155 && (x134 == x156 && (x135 == x157 && true)))) = true →
 ∃ (ad158 : Addr),
 Gives Proofs.Try.prog (Instr.indexAt 52 (Value.slice a13 n14 n15) (Value.int IntKind.i64 x149))
 (Value.pointer (some ad158)) ∧
 ∃ (x159 : Int),
 ∃ (x160 : Int),
 ∃ (x161 : Int),
 ∃ (x162 : Int),
 ∃ (x163 : Int),
 ∃ (x164 : Int),
 ∃ (b165 : Bool),
 Reads Proofs.Try.prog [] (Instr.loadAt 63 (Value.pointer (some ad158))) w148
 (Value.agg
 #[Value.int IntKind.i64 x159, Value.int IntKind.i64 x160, Value.int IntKind.i64 x161,
 Value.int IntKind.i64 x162, Value.int IntKind.i64 x163, Value.int IntKind.i64 x164,
 Value.bool b165]) ∧
 ∀ (w166 : World),
 Bel w148 w166 →
 Under [n4, n137, n145] w166 →
 Calls Proofs.Try.prog 25
 #[Value.agg
 #[Value.int IntKind.i64 x9, Value.int IntKind.i64 x10, Value.int IntKind.i64 x11,
 Value.int IntKind.i64 x12, Value.slice a13 n14 n15],
 Value.agg
 #[Value.int IntKind.i64 x159, Value.int IntKind.i64 x160, Value.int IntKind.i64 x161,
 Value.int IntKind.i64 x162, Value.int IntKind.i64 x163, Value.int IntKind.i64 x164,
 Value.bool b165]]
 w166 fun (e167 : Ending) (w168 : World) =>
 ∃ (x169 : Int),
 ∃ (x170 : Int),
 e167 =
 Ending.returned (Value.agg #[Value.int IntKind.i64 x169, Value.int IntKind.i64 x170]) ∧
 Keeps [n4, n137, n145] w166 w168 ∧
 Reads Proofs.Try.prog []
 (Instr.loadAt 26 (Value.pointer (some (Addr.mk ad153.block (ad153.off + 2) none))))
 w168
 (Value.agg
 #[Value.int IntKind.i64 x154, Value.int IntKind.i64 x155,
 Value.int IntKind.i64 x156, Value.int IntKind.i64 x157]) ∧
 ((x141 == x169 && (x142 == x170 && true)) = true →
 ∃ (ad171 : Addr),
 Gives Proofs.Try.prog
 (Instr.indexAt 52 (Value.slice a13 n14 n15) (Value.int IntKind.i64 x149))
 (Value.pointer (some ad171)) ∧
 ∃ (x172 : Int),
 Reads Proofs.Try.prog []
 (Instr.loadAt 2
 (Value.pointer (some (Addr.mk ad171.block (ad171.off + 1) none))))
 w168 (Value.int IntKind.i64 x172) ∧
 ((x143 == x172) = true →
 Calls Proofs.Try.prog 14 #[] w168
 fun (e173 : Ending) (w174 : World) =>
 ∃ (b175 : Bool),
 e173 = Ending.returned (Value.bool b175) ∧
 Keeps [n4, n137, n145] w168 w174 ∧
 Reads Proofs.Try.prog []
 (Instr.loadAt 2
 (Value.pointer
 (some (Addr.mk ad171.block (ad171.off + 1) none))))
 w174 (Value.int IntKind.i64 x172) ∧
 Reads Proofs.Try.prog []
 (Instr.loadAt 26
 (Value.pointer
 (some (Addr.mk ad153.block (ad153.off + 2) none))))
 w174
 (Value.agg
 #[Value.int IntKind.i64 x154,
 Value.int IntKind.i64 x155,
 Value.int IntKind.i64 x156,
 Value.int IntKind.i64 x157]) ∧
 R (Ending.returned (Value.bool b175)) w174) ∧
 ((x143 == x172) = false →
 R (Ending.returned (Value.bool false)) w168)) ∧
 ((x141 == x169 && (x142 == x170 && true)) = false →
 R (Ending.returned (Value.bool false)) w168)) ∧
 ((x132 == x154 && (x133 == x155 && (x134 == x156 && (x135 == x157 && true)))) = false →
 ∀ (w176 : World), Bel w148 w176 → Under [n4, n137, n145] w176 → R (Ending.returned (Value.bool false)) w176)) ∧
 (b144 = false → ∀ (w177 : World), Bel w148 w177 → Under [n4, n137, n145] w177 → R (Ending.returned (Value.bool false)) w177)) ∧
 (b136 = false → ∀ (w178 : World), Bel w148 w178 → Under [n4, n137, n145] w178 → R (Ending.returned (Value.bool false)) w178))))
theorem f5_eq (la : Option Addr) (ln : Nat) (lc : Nat) (id : Int) (w : World) (R : Ending → World → Prop) : (fnF Go.Proofs.Try.prog h5 Go.Proofs.Try.f5 [Value.slice la ln lc, Value.int IntKind.i64 id] w R).den = f5_vc la ln lc id w R := by kernel_rfl
theorem f5_calls (la : Option Addr) (ln : Nat) (lc : Nat) (id : Int) (w : World) (R : Ending → World → Prop) (h : f5_vc la ln lc id w R) : Calls Go.Proofs.Try.prog 5 (List.toArray [Value.slice la ln lc, Value.int IntKind.i64 id]) w R :=
 fn_sound (H := h5) (fn := Go.Proofs.Try.f5) (by kernel_rfl) (by kernel_rfl) (by kernel_rfl) ((f5_eq la ln lc id w R).mpr h)

end Vcs

/- Law 5: the sorter plays as the document's. -/
set_option maxRecDepth 20000
set_option maxHeartbeats 4000000
set_option linter.unusedVariables false
namespace Go.Vc.S
open Go Go.Vc Go.RowKit Go.Proofs Go.Vc.T Vcs

variable {w W W' W1 : World} {g : Nat} {T n : Ar4} {m : List (Int × Cl)} {B B' : Nat → Prop}

/-- What holds between acts. -/
structure PlI (w W : World) (g n4 : Nat) (T : Ar4) (m : List (Int × Cl)) (s : Value) (B : Nat → Prop) : Prop where
  so : SoX W B g T m
  low : ∀ b, B b → w.heap.size ≤ b ∧ b < W.heap.size
  nB : ¬ B n4
  row : OwnL w [n4] W 63 7 rcE s m
  ap : ∀ k, s.ownBlock = some k → ¬ B k
theorem OwnL.gs' {α : Type} {gs gs' : List Nat} {e : TypeId} {size : Nat} {f : α → List Value} {v : Value} {l : List α} (h : OwnL w gs W e size f v l) (hg : ∀ x ∈ gs', v.ownBlock ≠ some x) : OwnL w gs' W e size f v l := OwnF.base h (fun k hk => h.mine k hk) hg

abbrev acE5 (a : Act) : List Value := [.int .i64 a.1, .int .i64 a.2.1, .int .i64 a.2.2.1, .int .i64 a.2.2.2.1, .int .i64 a.2.2.2.2.1, .int .i64 a.2.2.2.2.2.1, .int .i64 a.2.2.2.2.2.2]
theorem law5 {L : List Act} {la : Option Addr} {ln lc : Nat} (id : Int) (w : World) (hL : SlE w 7 acE5 L la ln lc) : Ret Try.prog 5 #[.slice la ln lc, .int .i64 id] w (.bool true) := by
  intro R h
  refine f5_calls _ _ _ _ w R ?_
  unfold f5_vc
  refine brD (fun _ => leaf h (At.refl w) rfl) fun hle => ?_
  refine at_callq (At.refl w) (c8 w) fun v w2 hA _ hb2 ⟨g, hv, hX⟩ => ?_
  subst hv
  have hX : SoO w w2 g (0, 0, 0, 0) [] := hX.mono fun b hl hb => ⟨hb, hl⟩
  have hln := hL.1
  refine ⟨_, rfl, fun n4 h4 => ?_⟩
  have hw2 := hA.size
  refine ⟨fun s W => At w [n4] W ∧ ∃ (i : Nat) (T : Ar4) (m : List (Int × Cl)) (B : Nat → Prop), s.1 = i ∧ i ≤ ln ∧ m.length ≤ i ∧ (s.2.1, s.2.2.1, s.2.2.2.1, s.2.2.2.2.1) = T ∧ PlI w W g n4 T m (.slice s.2.2.2.2.2.1.1 s.2.2.2.2.2.1.2.1 s.2.2.2.2.2.1.2.2) B, fun s _ => ln - s.1.toNat, fun w7 he hu => ?_, ?_⟩
  · have hb := he.bel (by simpa using h4)
    exact ⟨⟨(hA.call hb).chg, hu⟩, 0, _, [], _, rfl, Nat.zero_le _, Nat.le_refl _, rfl, SoX.call hX hb, fun b hb' => ⟨hb'.1, Nat.lt_of_lt_of_le hb'.2 hb.size⟩, fun e => by omega, OwnF.nil, fun k hk => by cases hk⟩
  rintro x8 x9 x10 x11 x12 a13 n14 n15 w16 ⟨hA, i, T, m, B, hi, hil, hml, hT, hP⟩
  simp only at hi hT hP
  subst hi hT
  generalize hTT : ((x9, x10, x11, x12) : Ar4) = T at hP
  have t1 : x9 = T.1 := by rw [← hTT]
  have t2 : x10 = T.2.1 := by rw [← hTT]
  have t3 : x11 = T.2.2.1 := by rw [← hTT]
  have t4 : x12 = T.2.2.2 := by rw [← hTT]
  subst t1 t2 t3 t4
  clear hTT
  obtain ⟨hX, hlow, hnB, hrow, hap⟩ := hP
  obtain ⟨a13', c13', e13, hsl⟩ := hrow.slice fun _ _ => rfl
  cases e13
  have hml2 : m.length < 99999 := by omega
  have hu4 := hA.under n4 (by simp)
  refine brD (fun hlt => ?_) fun hge => ?_
  · have hiL : i < L.length := by omega
    have hgL := List.getElem?_eq_getElem hiL
    have hmd := doD_len (T, m) L[i]
    simp only at hmd
    refine ⟨fun s W => At w [n4] W ∧ ∃ B', (s.1, s.2.1, s.2.2.1, s.2.2.2.1) = (doD (T, m) L[i]).1.1 ∧ PlI w W g n4 (doD (T, m) L[i]).1.1 (doD (T, m) L[i]).1.2 (.slice s.2.2.2.2.1.1 s.2.2.2.2.1.2.1 s.2.2.2.2.1.2.2) B', ?_, ?_⟩
    · obtain ⟨ad, g1, el, _⟩ := elt_at (P := Try.prog) (k := .i64) (t := 22) (hL.call hA.below) hgL (e := 28) (by kernel_rfl) (by kernel_rfl)
      refine ⟨ad, g1, _, _, _, _, _, _, _, el.agg 7 (by kernel_rfl) (by kernel_rfl) (by simp) no_ds, ?_, ?_⟩
      · refine go_below_too hA fun w26 hA hb26 => ?_
        have hu26 := hA.under n4 (by simp)
        have hA26 := hA
        refine at_callq hA (c20 _ T (hsl.call hb26) (by omega) L[i]) fun v w28 hA hk28 hb28 ⟨s', hv, hq⟩ => ?_
        subst hv
        have hs26 := hb26.size
        have hs28 := hb28.size
        have hrow' : OwnL w [] w28 63 7 rcE s' (doD (T, m) L[i]).1.2 ∧ ∀ k, s'.ownBlock = some k → ((¬ B k) ∧ k ≠ n4 ∧ k < w28.heap.size) := by
          rcases hq with ⟨e1, e2⟩ | hq
          · rw [e1, e2]
            refine ⟨OwnL.gs' ((hrow.call hb26).call hb28) (by simp), fun k hk => ⟨hap k hk, fun e => hrow.apart n4 (by simp) (e ▸ hk), by have := hrow.lt k hk; omega⟩⟩
          · have ho : OwnL w [] w28 63 7 rcE s' (doD (T, m) L[i]).1.2 := OwnF.ret hA26.off hq rfl rfl
            refine ⟨ho, fun k hk => ⟨fun e => ?_, ?_, ho.lt k hk⟩⟩
            · have := (hq.lt k hk).1
              have := hlow k e
              omega
            · have := (hq.lt k hk).1
              omega
        obtain ⟨hrow', hap'⟩ := hrow'
        obtain ⟨a33, c35, e33, hsl33⟩ := hrow'.slice fun _ _ => rfl
        subst e33
        refine ⟨_, _, _, _, _, _, _, _, rfl, hk28, fun n37 h37 => ?_⟩
        have hn4 : n4 < w28.heap.size := hA.under n4 (by simp)
        have el2 := (el.below hb26).below hb28
        have hell := el.lt
        refine ⟨ad, g1, _, _, _, _, _, _, _, el2.agg 7 (by kernel_rfl) (by kernel_rfl) (by simp) (fun d hd => by rw [List.mem_singleton.1 hd]; omega), ?_⟩
        intro w46 he hu
        have hs46 := he.size
        have hA : At w [n4, n37] w46 := ⟨(hA.call (he.bel (by simpa using h37))).chg, hu⟩
        have hX46 : SoX w46 B g T m := ((hX.call hb26).call hb28).call (he.bel (by simpa using h37))
        have hn37 : ¬ B n37 := fun e => by have := hlow n37 e; omega
        have hu4' := hA.under n4 (by simp)
        have hu37' := hA.under n37 (by simp)
        have hrow46 := OwnL.gs' (hrow'.call (he.bel (by simpa using h37))) (show ∀ x ∈ [n4, n37], _ ≠ some x from fun x hx e => by have := hap' x e; simp at hx; omega)
        refine at_callF hA (c9 hX46 (by omega) L[i]) (fun b _ hb => .inl (hlow b hb).1) (fun y hy hb => by
          simp at hy
          rcases hy with rfl | rfl
          · exact hnB hb
          · exact hn37 hb) fun v w48 hA hk hch ⟨hv, hX48⟩ => ?_
        subst hv
        refine ⟨_, rfl, hk, brN (fun e => absurd rfl e) fun _ => ?_⟩
        have hs48 := hch.size
        have hrow48 : OwnL w [n4, n37] w48 63 7 rcE _ _ := hrow46.chg hch fun k hk hB => (hap' k hk).1 hB
        have hX48 : SoX w48 (fun b => (B b ∨ w46.heap.size ≤ b) ∧ b < w48.heap.size) g _ _ := hX48.mono fun b hl hb => ⟨hb, hl⟩
        refine go_evo_too hA (by simpa using (show w.heap.size ≤ n4 by omega)) fun w50 hA he50 => ?_
        have hX50 := hX48.evo he50 fun d hd hB => by
          rw [List.mem_singleton.1 hd] at hB ⊢
          rcases hB.1 with e | e
          · exact absurd e hnB
          · omega
        have hrow50 := hrow48.evo (by simp) he50
        obtain ⟨_, _, e50, hsl50⟩ := hrow50.slice fun _ _ => rfl
        cases e50
        have hs50 := he50.size
        have hlen5 : (doD (T, m) L[i]).1.2.length < 100000 := by omega
        have hord := hX50.is
        have hc21 := c21 w50 (doD (T, m) L[i]).1.1 hsl50 hlen5
        rw [ordN_all hX50.good hord.1 hord.2] at hc21
        refine at_calll hA hc21 (fun _ _ => rfl) fun a53 c55 w52 hA hk hb52 _ hsl53 => ⟨_, _, _, rfl, hk, ?_⟩
        have hX52 := hX50.call hb52
        refine at_callb hA (c22 hX52 hlen5) fun w57 hA hk hb57 => ?_
        have hX57 := hX52.call hb57
        have hsl57 := hsl53.call hb57
        have tail : ∀ (x58 : Int) (b59 : Bool), (fstV (ordL (doD (T, m) L[i]).1.1 (doD (T, m) L[i]).1.2) = .tuple #[.int .i64 x58, .bool b59]) → b59 = decide (((((ordL (doD (T, m) L[i]).1.1 (doD (T, m) L[i]).1.2).map Pl.d).length : Nat) : Int) > 0) := by
          intro x58 b59 hf
          cases hx : ordL (doD (T, m) L[i]).1.1 (doD (T, m) L[i]).1.2 with
          | nil => rw [hx] at hf; simp [fstV] at hf; simp [hf.2]
          | cons y l => rw [hx] at hf; simp [fstV] at hf; simp [hf.2]
        have hfst : ∃ x58 b59, fstV (ordL (doD (T, m) L[i]).1.1 (doD (T, m) L[i]).1.2) = .tuple #[.int .i64 x58, .bool b59] ∧ (b59 = true → ((ordL (doD (T, m) L[i]).1.1 (doD (T, m) L[i]).1.2).map Pl.d)[0]? = some x58) ∧ (b59 = false → x58 = 0) := by
          cases hx : ordL (doD (T, m) L[i]).1.1 (doD (T, m) L[i]).1.2 with
          | nil => exact ⟨0, false, rfl, (fun e => by cases e), fun _ => rfl⟩
          | cons y l => exact ⟨y.d, true, rfl, (fun _ => rfl), fun e => by cases e⟩
        obtain ⟨x58, b59, hf, hf1, hf0⟩ := hfst
        have hfb := tail x58 b59 hf
        rw [hf]
        refine ⟨_, _, rfl, hk, go_below_too hA fun w60 hA hb60 => ?_⟩
        have hX60 := hX57.call hb60
        have hsl60 := hsl57.call hb60
        refine at_calll hA (c10 hX60 hlen5) (fun _ _ => rfl) fun a63 c65 w62 hA hk hb62 _ hsl63 => ⟨_, _, _, rfl, hk, ?_⟩
        have hX62 := hX60.call hb62
        have hsl62 := hsl60.call hb62
        have hol : ((ordL (doD (T, m) L[i]).1.1 (doD (T, m) L[i]).1.2).map Pl.d).length < 1000000 := by rw [List.length_map]; omega
        refine at_callb hA (c17 _ hsl63 hsl62 hol hol) fun w67 hA hk hb67 => ⟨_, rfl, hk, brB (fun e => by simp at e) fun _ => ?_⟩
        have hX67 := hX62.call hb67
        have hsl67 := hsl62.call hb67
        refine at_callb hA (c13 hX67) fun w70 hA hk hb70 => ⟨_, rfl, hk, brN (fun e => absurd rfl e) fun _ => ?_⟩
        have hX70 := hX67.call hb70
        have hsl70 := hsl67.call hb70
        have hrow70 := ((((hrow50.call hb52).call hb57).call hb60).call hb62).call hb67 |>.call hb70
        have hs52 := hb52.size
        have hs57 := hb57.size
        have hs60 := hb60.size
        have hs62 := hb62.size
        have hs67 := hb67.size
        have hs70 := hb70.size
        have fin : At w [n4] w70 ∧ ∃ B', PlI w w70 g n4 (doD (T, m) L[i]).1.1 (doD (T, m) L[i]).1.2 (.slice a33 (doD (T, m) L[i]).1.2.length c35) B' := by
          refine ⟨⟨hA.chg, fun x hx => hA.under x (by simp at hx ⊢; omega)⟩, _, hX70, fun b hb => ⟨?_, ?_⟩, fun e => ?_, OwnL.gs' hrow70 fun x hx => hrow70.apart x (by simp at hx ⊢; omega), fun k hk e => ?_⟩
          · rcases hb.1 with e | e
            · exact (hlow b e).1
            · have := hA26.size; omega
          · have := hb.2; omega
          · rcases e.1 with e | e
            · exact hnB e
            · omega
          · obtain ⟨q1, q2⟩ := hap' k hk
            rcases e.1 with e | e
            · exact q1 e
            · omega
        refine ⟨fun e => ?_, fun _ => brB (fun hb1 => ?_) fun hb0 => ?_⟩
        · rw [← hfb] at e; simp at e
        · obtain ⟨ad3, g3, el3, _⟩ := elt_at (P := Try.prog) (k := .i64) (t := 29) hsl70 (hf1 hb1) (e := 2) (by kernel_rfl) (by kernel_rfl)
          refine ⟨ad3, g3, _, el3.one (by kernel_rfl) no_ds, brN (fun e => absurd rfl e) fun _ => ⟨fun e => by rw [hb1] at e; simp at e, fun _ => ⟨fin.1, fin.2.choose, rfl, fin.2.choose_spec⟩⟩⟩
        · exact ⟨fun _ => brN (fun e => absurd (hf0 hb0) e) fun _ => ⟨fin.1, fin.2.choose, rfl, fin.2.choose_spec⟩, fun e => by rw [hb0] at e; simp at e⟩
      · intro n37 h37
        have hn37a : ¬ B n37 := fun e => by have := hlow n37 e; omega
        refine ⟨el.agg 7 (by kernel_rfl) (by kernel_rfl) (by simp) no_ds, go_below_too hA fun w26 hA hb26 => ?_⟩
        have hu26 := hA.under n4 (by simp)
        have hA26 := hA
        have hu37 := hA.under n37 (by simp)
        refine at_callq hA (c20 _ T (hsl.call hb26) (by omega) L[i]) fun v w28 hA hk28 hb28 ⟨s', hv, hq⟩ => ?_
        subst hv
        have hs26 := hb26.size
        have hs28 := hb28.size
        have hrow' : OwnL w [] w28 63 7 rcE s' (doD (T, m) L[i]).1.2 ∧ ∀ k, s'.ownBlock = some k → ((¬ B k) ∧ k ≠ n4 ∧ k < w28.heap.size ∧ k ≠ n37) := by
          rcases hq with ⟨e1, e2⟩ | hq
          · rw [e1, e2]
            refine ⟨OwnL.gs' ((hrow.call hb26).call hb28) (by simp), fun k hk => ⟨hap k hk, fun e => hrow.apart n4 (by simp) (e ▸ hk), by have := hrow.lt k hk; omega, by have := hrow.lt k hk; omega⟩⟩
          · have ho : OwnL w [] w28 63 7 rcE s' (doD (T, m) L[i]).1.2 := OwnF.ret hA26.off hq rfl rfl
            refine ⟨ho, fun k hk => ⟨fun e => ?_, ?_, ho.lt k hk, by have := (hq.lt k hk).1; omega⟩⟩
            · have := (hq.lt k hk).1
              have := hlow k e
              omega
            · have := (hq.lt k hk).1
              omega
        obtain ⟨hrow', hap'⟩ := hrow'
        obtain ⟨a33, c35, e33, hsl33⟩ := hrow'.slice fun _ _ => rfl
        subst e33
        refine ⟨_, _, _, _, _, _, _, _, rfl, hk28, ?_⟩
        have hn4 : n4 < w28.heap.size := hA.under n4 (by simp)
        have el2 := (el.below hb26).below hb28
        have hell := el.lt
        refine ⟨ad, g1, _, _, _, _, _, _, _, el2.agg 7 (by kernel_rfl) (by kernel_rfl) (by simp) (fun d hd => by rw [List.mem_singleton.1 hd]; omega), ?_⟩
        intro w46 he hu
        have hs46 := he.size
        have hA : At w [n4, n37] w46 := hA.evo (by simpa using (show w.heap.size ≤ n37 by omega)) he hu
        have hX46 : SoX w46 B g T m := ((hX.call hb26).call hb28).evo he fun d hd hB => by rw [List.mem_singleton.1 hd] at hB; exact absurd hB hn37a
        have hn37 : ¬ B n37 := hn37a
        have hu4' := hA.under n4 (by simp)
        have hu37' := hA.under n37 (by simp)
        have hrow46 := OwnL.gs' (hrow'.chg (Chg.of_evo he) fun k hk hm => by have := hap' k hk; have := List.mem_singleton.1 hm; omega) (show ∀ x ∈ [n4, n37], _ ≠ some x from fun x hx e => by have := hap' x e; simp at hx; omega)
        refine at_callF hA (c9 hX46 (by omega) L[i]) (fun b _ hb => .inl (hlow b hb).1) (fun y hy hb => by
          simp at hy
          rcases hy with rfl | rfl
          · exact hnB hb
          · exact hn37 hb) fun v w48 hA hk hch ⟨hv, hX48⟩ => ?_
        subst hv
        refine ⟨_, rfl, hk, brN (fun e => absurd rfl e) fun _ => ?_⟩
        have hs48 := hch.size
        have hrow48 : OwnL w [n4, n37] w48 63 7 rcE _ _ := hrow46.chg hch fun k hk hB => (hap' k hk).1 hB
        have hX48 : SoX w48 (fun b => (B b ∨ w46.heap.size ≤ b) ∧ b < w48.heap.size) g _ _ := hX48.mono fun b hl hb => ⟨hb, hl⟩
        refine go_evo_too hA (by simpa using (show w.heap.size ≤ n4 by omega)) fun w50 hA he50 => ?_
        have hX50 := hX48.evo he50 fun d hd hB => by
          rw [List.mem_singleton.1 hd] at hB ⊢
          rcases hB.1 with e | e
          · exact absurd e hnB
          · omega
        have hrow50 := hrow48.evo (by simp) he50
        obtain ⟨_, _, e50, hsl50⟩ := hrow50.slice fun _ _ => rfl
        cases e50
        have hs50 := he50.size
        have hlen5 : (doD (T, m) L[i]).1.2.length < 100000 := by omega
        have hord := hX50.is
        have hc21 := c21 w50 (doD (T, m) L[i]).1.1 hsl50 hlen5
        rw [ordN_all hX50.good hord.1 hord.2] at hc21
        refine at_calll hA hc21 (fun _ _ => rfl) fun a53 c55 w52 hA hk hb52 _ hsl53 => ⟨_, _, _, rfl, hk, ?_⟩
        have hX52 := hX50.call hb52
        refine at_callb hA (c22 hX52 hlen5) fun w57 hA hk hb57 => ?_
        have hX57 := hX52.call hb57
        have hsl57 := hsl53.call hb57
        have tail : ∀ (x58 : Int) (b59 : Bool), (fstV (ordL (doD (T, m) L[i]).1.1 (doD (T, m) L[i]).1.2) = .tuple #[.int .i64 x58, .bool b59]) → b59 = decide (((((ordL (doD (T, m) L[i]).1.1 (doD (T, m) L[i]).1.2).map Pl.d).length : Nat) : Int) > 0) := by
          intro x58 b59 hf
          cases hx : ordL (doD (T, m) L[i]).1.1 (doD (T, m) L[i]).1.2 with
          | nil => rw [hx] at hf; simp [fstV] at hf; simp [hf.2]
          | cons y l => rw [hx] at hf; simp [fstV] at hf; simp [hf.2]
        have hfst : ∃ x58 b59, fstV (ordL (doD (T, m) L[i]).1.1 (doD (T, m) L[i]).1.2) = .tuple #[.int .i64 x58, .bool b59] ∧ (b59 = true → ((ordL (doD (T, m) L[i]).1.1 (doD (T, m) L[i]).1.2).map Pl.d)[0]? = some x58) ∧ (b59 = false → x58 = 0) := by
          cases hx : ordL (doD (T, m) L[i]).1.1 (doD (T, m) L[i]).1.2 with
          | nil => exact ⟨0, false, rfl, (fun e => by cases e), fun _ => rfl⟩
          | cons y l => exact ⟨y.d, true, rfl, (fun _ => rfl), fun e => by cases e⟩
        obtain ⟨x58, b59, hf, hf1, hf0⟩ := hfst
        have hfb := tail x58 b59 hf
        rw [hf]
        refine ⟨_, _, rfl, hk, go_below_too hA fun w60 hA hb60 => ?_⟩
        have hX60 := hX57.call hb60
        have hsl60 := hsl57.call hb60
        refine at_calll hA (c10 hX60 hlen5) (fun _ _ => rfl) fun a63 c65 w62 hA hk hb62 _ hsl63 => ⟨_, _, _, rfl, hk, ?_⟩
        have hX62 := hX60.call hb62
        have hsl62 := hsl60.call hb62
        have hol : ((ordL (doD (T, m) L[i]).1.1 (doD (T, m) L[i]).1.2).map Pl.d).length < 1000000 := by rw [List.length_map]; omega
        refine at_callb hA (c17 _ hsl63 hsl62 hol hol) fun w67 hA hk hb67 => ⟨_, rfl, hk, brB (fun e => by simp at e) fun _ => ?_⟩
        have hX67 := hX62.call hb67
        have hsl67 := hsl62.call hb67
        refine at_callb hA (c13 hX67) fun w70 hA hk hb70 => ⟨_, rfl, hk, brN (fun e => absurd rfl e) fun _ => ?_⟩
        have hX70 := hX67.call hb70
        have hsl70 := hsl67.call hb70
        have hrow70 := ((((hrow50.call hb52).call hb57).call hb60).call hb62).call hb67 |>.call hb70
        have hs52 := hb52.size
        have hs57 := hb57.size
        have hs60 := hb60.size
        have hs62 := hb62.size
        have hs67 := hb67.size
        have hs70 := hb70.size
        have fin : At w [n4] w70 ∧ ∃ B', PlI w w70 g n4 (doD (T, m) L[i]).1.1 (doD (T, m) L[i]).1.2 (.slice a33 (doD (T, m) L[i]).1.2.length c35) B' := by
          refine ⟨⟨hA.chg, fun x hx => hA.under x (by simp at hx ⊢; omega)⟩, _, hX70, fun b hb => ⟨?_, ?_⟩, fun e => ?_, OwnL.gs' hrow70 fun x hx => hrow70.apart x (by simp at hx ⊢; omega), fun k hk e => ?_⟩
          · rcases hb.1 with e | e
            · exact (hlow b e).1
            · have := hA26.size; omega
          · have := hb.2; omega
          · rcases e.1 with e | e
            · exact hnB e
            · omega
          · obtain ⟨q1, q2⟩ := hap' k hk
            rcases e.1 with e | e
            · exact q1 e
            · omega
        refine ⟨fun e => ?_, fun _ => brB (fun hb1 => ?_) fun hb0 => ?_⟩
        · rw [← hfb] at e; simp at e
        · obtain ⟨ad3, g3, el3, _⟩ := elt_at (P := Try.prog) (k := .i64) (t := 29) hsl70 (hf1 hb1) (e := 2) (by kernel_rfl) (by kernel_rfl)
          refine ⟨ad3, g3, _, el3.one (by kernel_rfl) no_ds, brN (fun e => absurd rfl e) fun _ => ⟨fun e => by rw [hb1] at e; simp at e, fun _ => ⟨fin.1, fin.2.choose, rfl, fin.2.choose_spec⟩⟩⟩
        · exact ⟨fun _ => brN (fun e => absurd (hf0 hb0) e) fun _ => ⟨fin.1, fin.2.choose, rfl, fin.2.choose_spec⟩, fun e => by rw [hb0] at e; simp at e⟩
    · rintro x122 x123 x124 x125 a126 n127 n128 w129 ⟨hA, B', hT', hP'⟩
      simp only at hT' hP'
      have hw : IntKind.i64.wrap ((i : Int) + 1) = ((i + 1 : Nat) : Int) := by rw [wrap_i64 (by omega) (by omega)]; omega
      rw [hw]
      exact ⟨⟨hA, i + 1, _, _, B', rfl, by omega, by omega, hT', hP'⟩, by simp only; omega⟩
  · have hmi : mget id m = (midx id m).bind fun i => (m[i]?).map (·.2) := mget_idx
    have c23' := c23 hX id
    refine at_callb hA c23' fun w131 hA hk131 hb131 => ?_
    have hX := hX.call hb131
    have hsl := hsl.call hb131
    have c11' : ∀ w138, Bel w131 w138 → Ret Try.prog 11 #[.pointer (pt g), .int .i64 id] w138 (shaV T (mget id m)) := fun w138 hb => c11 (hX.call hb) id
    cases hx : midx id m with
    | none =>
      have hg : mget id m = none := by rw [hmi, hx]; rfl
      rw [hg] at c11' ⊢
      refine ⟨_, _, _, _, _, rfl, hk131, fun n137 h137 w138 he hu => ?_⟩
      have hb := he.bel (by simpa using h137)
      have hA : At w [n4, n137] w138 := ⟨(hA.call hb).chg, hu⟩
      have hsl := hsl.call hb
      refine at_callb hA (c11' _ hb) fun w140 hA hk hb140 => ⟨_, _, _, _, rfl, hk, fun n145 h145 w146 he hu => ?_⟩
      have hb2 := he.bel (by simpa using h145)
      have hA : At w [n4, n137, n145] w146 := ⟨(hA.call hb2).chg, hu⟩
      have hsl := (hsl.call hb140).call hb2
      refine at_callb hA (c24 _ hsl (by omega) id) fun w148 hA hk hb148 => ⟨_, rfl, hk, ?_⟩
      rw [show atI id m = -1 by unfold atI; rw [hx]]
      refine ⟨fun _ => ⟨fun _ => ⟨fun _ => ⟨fun _ => ?_, fun e => by simp at e⟩, fun e => by cases e⟩, fun e => by cases e⟩, fun e => by simp at e⟩
      exact at_callb hA (c14 _) fun w151 hA hk _ => ⟨_, rfl, hk, leaf h hA rfl⟩
    | some j =>
      obtain ⟨c, hgj⟩ := midx_key hx
      have hg : mget id m = some c := by rw [hmi, hx]; simp [hgj]
      rw [hg] at c11' ⊢
      refine ⟨_, _, _, _, _, rfl, hk131, fun n137 h137 w138 he hu => ?_⟩
      have hb := he.bel (by simpa using h137)
      have hA : At w [n4, n137] w138 := ⟨(hA.call hb).chg, hu⟩
      have hsl := hsl.call hb
      refine at_callb hA (c11' _ hb) fun w140 hA hk hb140 => ⟨_, _, _, _, rfl, hk, fun n145 h145 w146 he hu => ?_⟩
      have hb2 := he.bel (by simpa using h145)
      have hA : At w [n4, n137, n145] w146 := ⟨(hA.call hb2).chg, hu⟩
      have hsl := (hsl.call hb140).call hb2
      refine at_callb hA (c24 _ hsl (by omega) id) fun w148 hA hk hb148 => ⟨_, rfl, hk, ?_⟩
      have hsl := hsl.call hb148
      rw [show atI id m = (j : Int) by unfold atI; rw [hx]]
      refine brD (fun e => by omega) fun _ => brB (fun _ => brB (fun _ => ?_) fun e => by cases e) fun e => by cases e
      obtain ⟨ad, g1, el, _⟩ := elt_at (P := Try.prog) (k := .i64) (t := 52) hsl hgj (e := 63) (by kernel_rfl) (by kernel_rfl)
      have r26 : ∀ {W : World}, Elt W ad (rcE (id, c)) → Reads Try.prog [] (Instr.loadAt 26 (.pointer (some (Addr.mk ad.block (ad.off + 2) none)))) W (arT c.s) := fun el => (el.sub (o := 2) (by decide)).agg 4 (by kernel_rfl) (by kernel_rfl) (by simp) no_ds
      have r2 : ∀ {W : World}, Elt W ad (rcE (id, c)) → Reads Try.prog [] (Instr.loadAt 2 (.pointer (some (Addr.mk ad.block (ad.off + 1) none)))) W (.int .i64 c.w) := fun el => (el.sub (o := 1) (by decide)).one (by kernel_rfl) no_ds
      refine ⟨ad, g1, _, _, _, _, r26 el, fun _ => ?_, fun e => by simp at e⟩
      refine ⟨ad, g1, _, _, _, _, _, _, _, el.agg 7 (by kernel_rfl) (by kernel_rfl) (by simp) no_ds, go_below_too hA fun w166 hA hb166 => ?_⟩
      have el := el.below hb166
      refine at_callb hA (c25 (a := a13) (ln := m.length) (lc := n15) _ T (id, c)) fun w168 hA hk hb168 => ⟨_, _, rfl, hk, ?_⟩
      have el := el.below hb168
      refine ⟨r26 el, fun _ => ⟨ad, g1, _, r2 el, fun _ => ?_, fun e => by simp at e⟩, fun e => by simp at e⟩
      exact at_callb hA (c14 _) fun w174 hA hk hb174 => ⟨_, rfl, hk, r2 (el.below hb174), r26 (el.below hb174), leaf h hA rfl⟩
end Go.Vc.S

