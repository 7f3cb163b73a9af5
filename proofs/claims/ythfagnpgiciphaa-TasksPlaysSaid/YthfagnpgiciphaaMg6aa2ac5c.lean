/- Own texts of this claim, laid together: FT4, VcSlice, Jl1, Jl2, Jm1, Jm2. -/
import Derived.Test.YthfagnpgiciphaaMg17a665f4
import Derived.Test.YthfagnpgiciphaaProg

/- The formulas of functions, printed by a program (VcTool.lean): each is what the generator's formula comes to, by the kernel's reckoning; whoever proves one has the function's contract. -/
set_option maxRecDepth 100000
set_option maxHeartbeats 1000000
set_option linter.unusedVariables false
namespace Vct
open Go Go.Vc Go.RowKit
/-! manciple/manciplelaw25.TasksPlays -/
def h4 : Hints := ⟨[5, 8, 10, 12, 14, 16], [26, 40, 72, 79, 136, 140, 152, 156, 162, 166, 173, 177], [20, 24, 35, 76, 81, 103, 120, 135, 143, 27, 62, 64, 94, 128, 139, 148, 160, 171, 182], [(13, [0, 1, 2, 3, 4, 5, 6, 7, 9, 10, 11, 12, 13, 14, 8, 15, 16, 17, 18]), (17, [0, 1, 2, 3, 4, 5, 7, 8, 6, 9, 10, 11, 12]), (24, [0, 2, 3, 1, 4, 5, 6, 7, 9, 10, 11, 8, 12, 13]), (28, [0, 1, 2, 4, 5, 6, 3, 7, 8, 9, 10, 11, 12, 14, 15, 16, 13, 17, 18, 19, 20, 21, 22, 23, 25, 26, 27, 24, 28, 29, 30, 31, 32, 33, 34])], [], [(8, ⟨[(9, .int .i64)], [(8, .cons (.int .i64) (.cons (.sl) (.nil)))]⟩)], [(24, ⟨[], [(8, .cons (.int .i64) (.cons (.sl) (.nil)))]⟩), (9, ⟨[], [(8, .cons (.int .i64) (.cons (.sl) (.nil)))]⟩), (15, ⟨[], []⟩), (26, ⟨[], []⟩)], [], []⟩
def f4_vc (cap : Int) (la : Option Addr) (ln : Nat) (lc : Nat) (ids_0 : Int) (ids_1 : Int) (w : World) (R : Ending → World → Prop) : Prop :=
 ∀ (n1 : Nat),
 w.heap.size ≤ n1 →
 ∀ (w2 : World),
 Bel w w2 →
 Under [n1] w2 →
 Calls Proofs.Try.prog 20 #[Value.slice la ln lc] w2 fun (e3 : Ending) (w4 : World) =>
 ∃ (b5 : Bool),
 e3 = Ending.returned (Value.bool b5) ∧
 Keeps [n1] w2 w4 ∧
 ((!b5) = true → R (Ending.returned (Value.bool true)) w4) ∧
 ((!b5) = false →
 Calls Proofs.Try.prog 21 #[Value.int IntKind.i64 cap] w4 fun (e6 : Ending) (w7 : World) =>
 ∃ (a8 : Option Addr),
 e6 = Ending.returned (Value.pointer a8) ∧
 Keeps [n1] w4 w7 ∧
 (decide (cap < 1) = true →
 ∃ (b9 : Bool),
 Gives Proofs.Try.prog (binOpS BinOp.eql 42 (Operand.tmp 25) (Operand.const (Value.pointer none)) (Value.pointer a8) (Value.pointer none)) (Value.bool b9) ∧
 (b9 = true → Calls Proofs.Try.prog 22 #[] w7 fun (e10 : Ending) (w11 : World) => ∃ (b12 : Bool), e10 = Ending.returned (Value.bool b12) ∧ Keeps [n1] w7 w11 ∧ R (Ending.returned (Value.bool b12)) w11) ∧
 (b9 = false → R (Ending.returned (Value.bool false)) w7)) ∧
 (decide (cap < 1) = false →
 ∀ (n13 : Nat),
 w7.heap.size ≤ n13 →
 ∃ (J14 : Int × (Option Addr × Nat × Nat) × Unit → World → Prop),
 (∃ (J15 : Int × Int × (Option Addr × Nat × Nat) × Unit → World → Prop),
 ∃ (J16 : Int × Int × (Option Addr × Nat × Nat) × Unit → World → Nat),
 (∀ (w17 : World), Evo [n13] w7 w17 → Under [n1, n13] w17 → J15 (0, cap, (none, 0, 0), ()) w17) ∧
 ∀ (x18 x19 : Int) (a20 : Option Addr) (n21 n22 : Nat) (w23 : World),
 J15 (x18, x19, (a20, n21, n22), ()) w23 →
 (decide (x18 < (↑ln : Int)) = true →
 ∃ (J24 : Int × (Option Addr × Nat × Nat) × Unit → World → Prop),
 (∃ (ad25 : Addr),
 Gives Proofs.Try.prog (Instr.indexAt 39 (Value.slice la ln lc) (Value.int IntKind.i64 x18)) (Value.pointer (some ad25)) ∧
 ∃ (x26 : Int),
 ∃ (x27 : Int),
 ∃ (x28 : Int),
 ∃ (a29 : Option Addr),
 ∃ (n30 : Nat),
 ∃ (n31 : Nat),
 Reads Proofs.Try.prog [] (Instr.loadAt 48 (Value.pointer (some (Addr.mk ad25.block (ad25.off + 1) none)))) w23
 (Value.agg #[Value.int IntKind.i64 x26, Value.int IntKind.i64 x27, Value.int IntKind.i64 x28, Value.slice a29 n30 n31]) ∧
 ∀ (n32 : Nat),
 w23.heap.size ≤ n32 →
 ∀ (w33 : World),
 Evo [n32] w23 w33 →
 Under [n1, n13, n32] w33 →
 Calls Proofs.Try.prog 23 #[Value.agg #[Value.int IntKind.i64 x19, Value.slice a20 n21 n22], Value.int IntKind.i64 x26, Value.int IntKind.i64 x27] w33
 fun (e34 : Ending) (w35 : World) =>
 ∃ (x36 : Int),
 e34 = Ending.returned (Value.int IntKind.i64 x36) ∧
 Keeps [n1, n13, n32] w33 w35 ∧
 Calls Proofs.Try.prog 24 #[Value.pointer a8, Value.int IntKind.i64 x26, Value.int IntKind.i64 x27] w35 fun (e37 : Ending) (w38 : World) =>
 ∃ (x39 : Int),
 ∃ (x40 : Int),
 ∃ (x41 : Int),
 ∃ (a42 : Option Addr),
 ∃ (n43 : Nat),
 ∃ (n44 : Nat),
 ∃ (b45 : Bool),
 e37 =
 Ending.returned
 (Value.tuple
 #[Value.agg #[Value.int IntKind.i64 x39, Value.int IntKind.i64 x40, Value.int IntKind.i64 x41, Value.slice a42 n43 n44],
 Value.bool b45]) ∧
 Keeps [n1, n13, n32] w35 w38 ∧
 ∀ (n46 : Nat),
 w38.heap.size ≤ n46 →
 ∃ (J47 : Unit → World → Prop),
 (((!b45 == decide (x36 ≥ 0)) = true →
 ∀ (w48 : World),
 Evo [n46] w38 w48 → Under [n1, n13, n32, n46] w48 → R (Ending.returned (Value.bool false)) w48) ∧
 ((!b45 == decide (x36 ≥ 0)) = false →
 (b45 = true →
 ∃ (a49 : Option Addr),
 ∃ (n50 : Nat),
 ∃ (n51 : Nat),
 Gives Proofs.Try.prog
 (Instr.sliceAt 44 (Value.slice a20 n21 n22) (some (Value.int IntKind.i64 x36))
 (some (Value.int IntKind.i64 (IntKind.i64.wrap (x36 + 1)))) none)
 (Value.slice a49 n50 n51) ∧
 ∀ (w52 : World),
 Evo [n46] w38 w52 →
 Under [n1, n13, n32, n46] w52 →
 OpW Proofs.Try.prog
 (valueS
 (Instr.buildSlice 44 1
 #[(0,
 Value.agg
 #[Value.int IntKind.i64 x39, Value.int IntKind.i64 x40, Value.int IntKind.i64 x41,
 Value.slice a42 n43 n44])]))
 w52 fun (v53 : Value) (w54 : World) =>
 ∃ (a55 : Option Addr),
 ∃ (n56 : Nat),
 ∃ (n57 : Nat),
 v53 = Value.slice a55 n56 n57 ∧
 Keeps [n1, n13, n32, n46] w52 w54 ∧
 Calls Proofs.Try.prog 25 #[Value.slice a55 n56 n57, Value.slice a49 n50 n51] w54
 fun (e58 : Ending) (w59 : World) =>
 ∃ (b60 : Bool),
 e58 = Ending.returned (Value.bool b60) ∧
 Keeps [n1, n13, n32, n46] w54 w59 ∧
 ((!b60) = true → R (Ending.returned (Value.bool false)) w59) ∧
 ((!b60) = false → J47 () w59)) ∧
 (b45 = false → ∀ (w61 : World), Evo [n46] w38 w61 → Under [n1, n13, n32, n46] w61 → J47 () w61))) ∧
 ∀ (w62 : World),
 J47 () w62 →
 ∃ (ad63 : Addr),
 Gives Proofs.Try.prog (Instr.indexAt 39 (Value.slice la ln lc) (Value.int IntKind.i64 x18))
 (Value.pointer (some ad63)) ∧
 ∃ (b64 : Bool),
 Reads Proofs.Try.prog [] (Instr.loadAt 4 (Value.pointer (some ad63))) w62 (Value.bool b64) ∧
 (b64 = true →
 Calls Proofs.Try.prog 26 #[Value.pointer a8, Value.int IntKind.i64 x26, Value.int IntKind.i64 x27]
 w62 fun (e65 : Ending) (w66 : World) =>
 ∃ (x67 : Int),
 ∃ (x68 : Int),
 ∃ (x69 : Int),
 ∃ (a70 : Option Addr),
 ∃ (n71 : Nat),
 ∃ (n72 : Nat),
 ∃ (b73 : Bool),
 e65 =
 Ending.returned
 (Value.tuple
 #[Value.agg
 #[Value.int IntKind.i64 x67, Value.int IntKind.i64 x68,
 Value.int IntKind.i64 x69, Value.slice a70 n71 n72],
 Value.bool b73]) ∧
 Keeps [n1, n13, n32, n46] w62 w66 ∧
 ∀ (n74 : Nat),
 w66.heap.size ≤ n74 →
 ((!b73 == b45) = true →
 ∀ (w75 : World),
 Evo [n74] w66 w75 →
 Under [n1, n13, n32, n46, n74] w75 →
 R (Ending.returned (Value.bool false)) w75) ∧
 ((!b73 == b45) = false →
 ∀ (w76 : World),
 Evo [n74] w66 w76 →
 Under [n1, n13, n32, n46, n74] w76 →
 Calls Proofs.Try.prog 27
 #[Value.agg
 #[Value.int IntKind.i64 x67, Value.int IntKind.i64 x68,
 Value.int IntKind.i64 x69, Value.slice a70 n71 n72],
 Value.bool b73]
 w76 fun (e77 : Ending) (w78 : World) =>
 ∃ (a79 : Option Addr),
 ∃ (n80 : Nat),
 ∃ (n81 : Nat),
 e77 = Ending.returned (Value.slice a79 n80 n81) ∧
 Keeps [n1, n13, n32, n46, n74] w76 w78 ∧
 Calls Proofs.Try.prog 27
 #[Value.agg
 #[Value.int IntKind.i64 x39,
 Value.int IntKind.i64 x40,
 Value.int IntKind.i64 x41,
 Value.slice a42 n43 n44],
 Value.bool b45]
 w78 fun (e82 : Ending) (w83 : World) =>
 ∃ (a84 : Option Addr),
 ∃ (n85 : Nat),
 ∃ (n86 : Nat),
 e82 =
 Ending.returned
 (Value.slice a84 n85 n86) ∧
 Keeps [n1, n13, n32, n46, n74] w78 w83 ∧
 Calls Proofs.Try.prog 25
 #[Value.slice a79 n80 n81,
 Value.slice a84 n85 n86]
 w83 fun (e87 : Ending) (w88 : World) =>
 ∃ (b89 : Bool),
 e87 =
 Ending.returned (Value.bool b89) ∧
 Keeps [n1, n13, n32, n46, n74] w83
 w88 ∧
 ((!b89) = true →
 R
 (Ending.returned
 (Value.bool false))
 w88) ∧
 ((!b89) = false →
 Calls Proofs.Try.prog 28
 #[Value.agg
 #[Value.int IntKind.i64
 x19,
 Value.slice a20 n21
 n22],
 Value.int IntKind.i64 x26,
 Value.int IntKind.i64 x27]
 w88
 fun (e90 : Ending)
 (w91 : World) =>
 ∃ (x92 : Int),
 ∃ (a93 : Option Addr),
 ∃ (n94 : Nat),
 ∃ (n95 : Nat),
 e90 =
 Ending.returned
 (Value.agg
 #[Value.int
 IntKind.i64
 x92,
 Value.slice
 a93 n94
 n95]) ∧
 Keeps
 [n1, n13, n32,
 n46, n74]
 w88 w91 ∧
 ∀ (w96 : World),
 Evo [n13] w91
 w96 →
 Under
 [n1,
 n13,
 n32,
 n46,
 n74]
 w96 →
 J24
 (x92,
 (a93,
 n94,
 n95),
 ())
 w96))) ∧
 (b64 = false →
 Calls Proofs.Try.prog 29
 #[Value.agg #[Value.int IntKind.i64 x19, Value.slice a20 n21 n22],
 Value.agg
 #[Value.int IntKind.i64 x26, Value.int IntKind.i64 x27, Value.int IntKind.i64 x28,
 Value.slice a29 n30 n31]]
 w62 fun (e97 : Ending) (w98 : World) =>
 ∃ (x99 : Int),
 ∃ (a100 : Option Addr),
 ∃ (n101 : Nat),
 ∃ (n102 : Nat),
 ∃ (x103 : Int),
 e97 =
 Ending.returned
 (Value.tuple
 #[Value.agg #[Value.int IntKind.i64 x99, Value.slice a100 n101 n102],
 Value.int IntKind.i64 x103]) ∧
 Keeps [n1, n13, n32, n46] w62 w98 ∧
 ∀ (n104 : Nat),
 w98.heap.size ≤ n104 →
 ∀ (w105 : World),
 Evo [n104] w98 w105 →
 Under [n1, n13, n32, n46, n104] w105 →
 Calls Proofs.Try.prog 30
 #[Value.pointer a8,
 Value.agg
 #[Value.int IntKind.i64 x26, Value.int IntKind.i64 x27,
 Value.int IntKind.i64 x28, Value.slice a29 n30 n31]]
 w105 fun (e106 : Ending) (w107 : World) =>
 ∃ (x108 : Int),
 e106 = Ending.returned (Value.int IntKind.i64 x108) ∧
 Keeps [n1, n13, n32, n46, n104] w105 w107 ∧
 ((x108 != x103) = true →
 R (Ending.returned (Value.bool false)) w107) ∧
 ((x108 != x103) = false →
 ∀ (w109 : World),
 Evo [n13] w107 w109 →
 Under [n1, n13, n32, n46, n104] w109 →
 J24 (x99, (a100, n101, n102), ()) w109))) ∧
 ∀ (x110 : Int) (a111 : Option Addr) (n112 n113 : Nat) (w114 : World),
 J24 (x110, (a111, n112, n113), ()) w114 →
 J15 (IntKind.i64.wrap (x18 + 1), x110, (a111, n112, n113), ()) w114 ∧
 J16 (IntKind.i64.wrap (x18 + 1), x110, (a111, n112, n113), ()) w114 < J16 (x18, x19, (a20, n21, n22), ()) w23) ∧
 (decide (x18 < (↑ln : Int)) = false → J14 (x19, (a20, n21, n22), ()) w23)) ∧
 ∀ (x115 : Int) (a116 : Option Addr) (n117 n118 : Nat) (w119 : World),
 J14 (x115, (a116, n117, n118), ()) w119 →
 ∃ (J120 : Unit → World → Prop),
 (∀ (w121 : World),
 Bel w119 w121 →
 Under [n1, n13] w121 →
 Calls Proofs.Try.prog 31 #[Value.pointer a8] w121 fun (e122 : Ending) (w123 : World) =>
 ∃ (a124 : Option Addr),
 ∃ (n125 : Nat),
 ∃ (n126 : Nat),
 e122 = Ending.returned (Value.slice a124 n125 n126) ∧
 Keeps [n1, n13] w121 w123 ∧
 Calls Proofs.Try.prog 25 #[Value.slice a124 n125 n126, Value.slice a116 n117 n118] w123 fun (e127 : Ending) (w128 : World) =>
 ∃ (b129 : Bool),
 e127 = Ending.returned (Value.bool b129) ∧
 Keeps [n1, n13] w123 w128 ∧
 ((!b129) = true → R (Ending.returned (Value.bool false)) w128) ∧
 ((!b129) = false →
 Calls Proofs.Try.prog 32 #[Value.pointer a8] w128 fun (e130 : Ending) (w131 : World) =>
 ∃ (x132 : Int),
 e130 = Ending.returned (Value.int IntKind.i64 x132) ∧
 Keeps [n1, n13] w128 w131 ∧
 ((x132 != (↑n117 : Int)) = true → R (Ending.returned (Value.bool false)) w131) ∧ ((x132 != (↑n117 : Int)) = false → J120 () w131))) ∧
 ∀ (w133 : World),
 J120 () w133 →
 (decide (ids_0 < 1) = true →
 Calls Proofs.Try.prog 33 #[Value.pointer a8, Value.int IntKind.i64 0] w133 fun (e134 : Ending) (w135 : World) =>
 ∃ (a136 : Option Addr),
 ∃ (n137 : Nat),
 ∃ (n138 : Nat),
 e134 = Ending.returned (Value.slice a136 n137 n138) ∧
 Keeps [n1, n13] w133 w135 ∧
 (((↑n137 : Int) == 0) = true →
 Calls Proofs.Try.prog 22 #[] w135 fun (e139 : Ending) (w140 : World) =>
 ∃ (b141 : Bool), e139 = Ending.returned (Value.bool b141) ∧ Keeps [n1, n13] w135 w140 ∧ R (Ending.returned (Value.bool b141)) w140) ∧
 (((↑n137 : Int) == 0) = false → R (Ending.returned (Value.bool false)) w135)) ∧
 (decide (ids_0 < 1) = false →
 (decide (ids_1 < 1) = true →
 Calls Proofs.Try.prog 33 #[Value.pointer a8, Value.int IntKind.i64 0] w133 fun (e142 : Ending) (w143 : World) =>
 ∃ (a144 : Option Addr),
 ∃ (n145 : Nat),
 ∃ (n146 : Nat),
 e142 = Ending.returned (Value.slice a144 n145 n146) ∧
 Keeps [n1, n13] w133 w143 ∧
 (((↑n145 : Int) == 0) = true →
 Calls Proofs.Try.prog 22 #[] w143 fun (e147 : Ending) (w148 : World) =>
 ∃ (b149 : Bool), e147 = Ending.returned (Value.bool b149) ∧ Keeps [n1, n13] w143 w148 ∧ R (Ending.returned (Value.bool b149)) w148) ∧
 (((↑n145 : Int) == 0) = false → R (Ending.returned (Value.bool false)) w143)) ∧
 (decide (ids_1 < 1) = false →
 ∀ (w150 : World),
 Bel w133 w150 →
 Under [n1, n13] w150 →
 Calls Proofs.Try.prog 33 #[Value.pointer a8, Value.int IntKind.i64 ids_0] w150 fun (e151 : Ending) (w152 : World) =>
 ∃ (a153 : Option Addr),
 ∃ (n154 : Nat),
 ∃ (n155 : Nat),
 e151 = Ending.returned (Value.slice a153 n154 n155) ∧
 Keeps [n1, n13] w150 w152 ∧
 Calls Proofs.Try.prog 34 #[Value.agg #[Value.int IntKind.i64 x115, Value.slice a116 n117 n118], Value.int IntKind.i64 ids_0, Value.int IntKind.i64 0] w152
 fun (e156 : Ending) (w157 : World) =>
 ∃ (a158 : Option Addr),
 ∃ (n159 : Nat),
 ∃ (n160 : Nat),
 e156 = Ending.returned (Value.slice a158 n159 n160) ∧
 Keeps [n1, n13] w152 w157 ∧
 Calls Proofs.Try.prog 25 #[Value.slice a153 n154 n155, Value.slice a158 n159 n160] w157 fun (e161 : Ending) (w162 : World) =>
 ∃ (b163 : Bool),
 e161 = Ending.returned (Value.bool b163) ∧
 Keeps [n1, n13] w157 w162 ∧
 (b163 = true →
 Calls Proofs.Try.prog 35 #[Value.pointer a8, Value.int IntKind.i64 ids_1] w162 fun (e164 : Ending) (w165 : World) =>
 ∃ (a166 : Option Addr),
 ∃ (n167 : Nat),
 ∃ (n168 : Nat),
 e164 = Ending.returned (Value.slice a166 n167 n168) ∧
 Keeps [n1, n13] w162 w165 ∧
 Calls Proofs.Try.prog 34
 #[Value.agg #[Value.int IntKind.i64 x115, Value.slice a116 n117 n118], Value.int IntKind.i64 0,
 Value.int IntKind.i64 ids_1]
 w165 fun (e169 : Ending) (w170 : World) =>
 ∃ (a171 : Option Addr),
 ∃ (n172 : Nat),
 ∃ (n173 : Nat),
 e169 = Ending.returned (Value.slice a171 n172 n173) ∧
 Keeps [n1, n13] w165 w170 ∧
 Calls Proofs.Try.prog 25 #[Value.slice a166 n167 n168, Value.slice a171 n172 n173] w170
 fun (e174 : Ending) (w175 : World) =>
 ∃ (b176 : Bool),
 e174 = Ending.returned (Value.bool b176) ∧
 Keeps [n1, n13] w170 w175 ∧
 (b176 = true →
 Calls Proofs.Try.prog 36 #[Value.pointer a8, Value.int IntKind.i64 ids_0] w175
 fun (e177 : Ending) (w178 : World) =>
 ∃ (x179 : Int),
 ∃ (x180 : Int),
 ∃ (x181 : Int),
 ∃ (x182 : Int),
 e177 =
 Ending.returned
 (Value.agg
 #[Value.int IntKind.i64 x179, Value.int IntKind.i64 x180,
 Value.int IntKind.i64 x181, Value.int IntKind.i64 x182]) ∧
 Keeps [n1, n13] w175 w178 ∧
 Calls Proofs.Try.prog 37
 #[Value.agg #[Value.int IntKind.i64 x115, Value.slice a116 n117 n118],
 Value.int IntKind.i64 ids_0]
 w178 fun (e183 : Ending) (w184 : World) =>
 ∃ (x185 : Int),
 ∃ (x186 : Int),
 ∃ (x187 : Int),
 ∃ (x188 : Int),
 e183 =
 Ending.returned
 (Value.agg
 #[Value.int IntKind.i64 x185, Value.int IntKind.i64 x186,
 Value.int IntKind.i64 x187, Value.int IntKind.i64 x188]) ∧
 Keeps [n1, n13] w178 w184 ∧
 ((x179 == x185 &&
 (x180 == x186 && (x181 == x187 && (x182 == x188 && true)))) =
 true →
 Calls Proofs.Try.prog 22 #[] w184
 fun (e189 : Ending) (w190 : World) =>
 ∃ (b191 : Bool),
 e189 = Ending.returned (Value.bool b191) ∧
 Keeps [n1, n13] w184 w190 ∧
 R (Ending.returned (Value.bool b191)) w190) ∧
 ((x179 == x185 &&
 (x180 == x186 && (x181 == x187 && (x182 == x188 && true)))) =
 false →
 R (Ending.returned (Value.bool false)) w184)) ∧
 (b176 = false → R (Ending.returned (Value.bool false)) w175)) ∧
 (b163 = false → R (Ending.returned (Value.bool false)) w162)))))
theorem f4_eq (cap : Int) (la : Option Addr) (ln : Nat) (lc : Nat) (ids_0 : Int) (ids_1 : Int) (w : World) (R : Ending → World → Prop) : (fnF Go.Proofs.Try.prog h4 Go.Proofs.Try.f4 [Value.int IntKind.i64 cap, Value.slice la ln lc, Value.agg #[Value.int IntKind.i64 ids_0, Value.int IntKind.i64 ids_1]] w R).den = f4_vc cap la ln lc ids_0 ids_1 w R := by kernel_rfl
theorem f4_calls (cap : Int) (la : Option Addr) (ln : Nat) (lc : Nat) (ids_0 : Int) (ids_1 : Int) (w : World) (R : Ending → World → Prop) (h : f4_vc cap la ln lc ids_0 ids_1 w R) : Calls Go.Proofs.Try.prog 4 (List.toArray [Value.int IntKind.i64 cap, Value.slice la ln lc, Value.agg #[Value.int IntKind.i64 ids_0, Value.int IntKind.i64 ids_1]]) w R :=
 fn_sound (H := h4) (fn := Go.Proofs.Try.f4) (by kernel_rfl) (by kernel_rfl) (by kernel_rfl) ((f4_eq cap la ln lc ids_0 ids_1 w R).mpr h)


/-! manciple/manciplelaw25.TasksApart -/
def h5 : Hints := ⟨[8, 11, 12], [27, 32, 51], [16, 22, 34, 54, 64, 48, 81, 90, 96, 101, 105, 110, 116], [], [], [(6, ⟨[(7, .int .i64)], []⟩)], [(7, ⟨[], []⟩), (12, ⟨[], []⟩)], [], []⟩
def f5_vc (la : Option Addr) (ln : Nat) (lc : Nat) (frame : Int) (w : World) (R : Ending → World → Prop) : Prop :=
 Calls Proofs.Try.prog 20 #[Value.slice la ln lc] w fun (e1 : Ending) (w2 : World) =>
 ∃ (b3 : Bool),
 e1 = Ending.returned (Value.bool b3) ∧
 ((!b3) = true → R (Ending.returned (Value.bool true)) w2) ∧
 ((!b3) = false →
 Calls Proofs.Try.prog 21 #[Value.int IntKind.i64 1000] w2 fun (e4 : Ending) (w5 : World) =>
 ∃ (a6 : Option Addr),
 e4 = Ending.returned (Value.pointer a6) ∧
 Calls Proofs.Try.prog 21 #[Value.int IntKind.i64 1000] w5 fun (e7 : Ending) (w8 : World) =>
 ∃ (a9 : Option Addr),
 e7 = Ending.returned (Value.pointer a9) ∧
 ∃ (J10 : Int × Unit → World → Prop),
 ∃ (J11 : Int × Unit → World → Nat),
 J10 (0, ()) w8 ∧
 ∀ (x12 : Int) (w13 : World),
 J10 (x12, ()) w13 →
 (decide (x12 < (↑ln : Int)) = true →
 ∃ (J14 : Unit → World → Prop),
 (∃ (ad15 : Addr),
 Gives Proofs.Try.prog (Instr.indexAt 39 (Value.slice la ln lc) (Value.int IntKind.i64 x12)) (Value.pointer (some ad15)) ∧
 ∃ (x16 : Int),
 ∃ (x17 : Int),
 ∃ (x18 : Int),
 ∃ (a19 : Option Addr),
 ∃ (n20 : Nat),
 ∃ (n21 : Nat),
 Reads Proofs.Try.prog [] (Instr.loadAt 48 (Value.pointer (some (Addr.mk ad15.block (ad15.off + 1) none)))) w13
 (Value.agg #[Value.int IntKind.i64 x16, Value.int IntKind.i64 x17, Value.int IntKind.i64 x18, Value.slice a19 n20 n21]) ∧
 ∀ (n22 : Nat),
 w13.heap.size ≤ n22 →
 ∃ (J23 : Unit → World → Prop),
 (∃ (ad24 : Addr),
 Gives Proofs.Try.prog (Instr.indexAt 39 (Value.slice la ln lc) (Value.int IntKind.i64 x12)) (Value.pointer (some ad24)) ∧
 ∃ (b25 : Bool),
 Reads Proofs.Try.prog [n22] (Instr.loadAt 4 (Value.pointer (some ad24))) w13 (Value.bool b25) ∧
 (b25 = true →
 ∀ (w26 : World),
 Evo [n22] w13 w26 →
 Under [n22] w26 →
 Calls Proofs.Try.prog 26 #[Value.pointer a6, Value.int IntKind.i64 x16, Value.int IntKind.i64 x17] w26 fun (e27 : Ending) (w28 : World) =>
 ∃ (x29 : Int),
 ∃ (x30 : Int),
 ∃ (x31 : Int),
 ∃ (a32 : Option Addr),
 ∃ (n33 : Nat),
 ∃ (n34 : Nat),
 ∃ (b35 : Bool),
 e27 =
 Ending.returned
 (Value.tuple
 #[Value.agg #[Value.int IntKind.i64 x29, Value.int IntKind.i64 x30, Value.int IntKind.i64 x31, Value.slice a32 n33 n34],
 Value.bool b35]) ∧
 Keeps [n22] w26 w28 ∧ J23 () w28) ∧
 (b25 = false →
 ∀ (w36 : World),
 Evo [n22] w13 w36 →
 Under [n22] w36 →
 Calls Proofs.Try.prog 30
 #[Value.pointer a6, Value.agg #[Value.int IntKind.i64 x16, Value.int IntKind.i64 x17, Value.int IntKind.i64 x18, Value.slice a19 n20 n21]] w36
 fun (e37 : Ending) (w38 : World) => ∃ (x39 : Int), e37 = Ending.returned (Value.int IntKind.i64 x39) ∧ Keeps [n22] w36 w38 ∧ J23 () w38)) ∧
 ∀ (w40 : World),
 J23 () w40 →
 ((x16 == frame) = true →
 ∃ (ad41 : Addr),
 Gives Proofs.Try.prog (Instr.indexAt 39 (Value.slice la ln lc) (Value.int IntKind.i64 x12)) (Value.pointer (some ad41)) ∧
 ∃ (b42 : Bool),
 Reads Proofs.Try.prog [] (Instr.loadAt 4 (Value.pointer (some ad41))) w40 (Value.bool b42) ∧
 (b42 = true →
 Calls Proofs.Try.prog 26 #[Value.pointer a9, Value.int IntKind.i64 x16, Value.int IntKind.i64 x17] w40 fun (e43 : Ending) (w44 : World) =>
 ∃ (x45 : Int),
 ∃ (x46 : Int),
 ∃ (x47 : Int),
 ∃ (a48 : Option Addr),
 ∃ (n49 : Nat),
 ∃ (n50 : Nat),
 ∃ (b51 : Bool),
 e43 =
 Ending.returned
 (Value.tuple
 #[Value.agg #[Value.int IntKind.i64 x45, Value.int IntKind.i64 x46, Value.int IntKind.i64 x47, Value.slice a48 n49 n50],
 Value.bool b51]) ∧
 Keeps [n22] w40 w44 ∧ J14 () w44) ∧
 (b42 = false →
 ((x16 == frame) = true →
 Calls Proofs.Try.prog 30
 #[Value.pointer a9, Value.agg #[Value.int IntKind.i64 x16, Value.int IntKind.i64 x17, Value.int IntKind.i64 x18, Value.slice a19 n20 n21]] w40
 fun (e52 : Ending) (w53 : World) => ∃ (x54 : Int), e52 = Ending.returned (Value.int IntKind.i64 x54) ∧ Keeps [n22] w40 w53 ∧ J14 () w53) ∧
 ((x16 == frame) = false → J14 () w40))) ∧
 ((x16 == frame) = false →
 ((x16 == frame) = true →
 Calls Proofs.Try.prog 30
 #[Value.pointer a9, Value.agg #[Value.int IntKind.i64 x16, Value.int IntKind.i64 x17, Value.int IntKind.i64 x18, Value.slice a19 n20 n21]] w40
 fun (e55 : Ending) (w56 : World) => ∃ (x57 : Int), e55 = Ending.returned (Value.int IntKind.i64 x57) ∧ Keeps [n22] w40 w56 ∧ J14 () w56) ∧
 ((x16 == frame) = false → J14 () w40))) ∧
 ∀ (w58 : World), J14 () w58 → J10 (IntKind.i64.wrap (x12 + 1), ()) w58 ∧ J11 (IntKind.i64.wrap (x12 + 1), ()) w58 < J11 (x12, ()) w13) ∧
 (decide (x12 < (↑ln : Int)) = false →
 OpW Proofs.Try.prog (valueS (Instr.alloc 71 true (Value.tuple #[]))) w13 fun (v59 : Value) (w60 : World) =>
 ∃ (ad61 : Addr),
 v59 = Value.pointer (some ad61) ∧
 OpW Proofs.Try.prog (valueS (Instr.buildSlice 23 1 #[(0, Value.agg #[Value.int IntKind.i64 0, Value.int IntKind.i64 0, Value.int IntKind.i64 1])])) w60 fun (v62 : Value) (w63 : World) =>
 ∃ (a64 : Option Addr),
 ∃ (n65 : Nat),
 ∃ (n66 : Nat),
 v62 = Value.slice a64 n65 n66 ∧
 ∀ (n67 : Nat),
 w63.heap.size ≤ n67 →
 ∀ (w68 : World),
 Evo [n67] w63 w68 →
 Under [n67] w68 →
 Calls Proofs.Try.prog 26 #[Value.pointer (some ad61), Value.int IntKind.i64 1, Value.int IntKind.i64 1] w68 fun (e69 : Ending) (w70 : World) =>
 ∃ (x71 : Int),
 ∃ (x72 : Int),
 ∃ (x73 : Int),
 ∃ (a74 : Option Addr),
 ∃ (n75 : Nat),
 ∃ (n76 : Nat),
 ∃ (b77 : Bool),
 e69 =
 Ending.returned
 (Value.tuple #[Value.agg #[Value.int IntKind.i64 x71, Value.int IntKind.i64 x72, Value.int IntKind.i64 x73, Value.slice a74 n75 n76], Value.bool b77]) ∧
 Keeps [n67] w68 w70 ∧
 ∀ (n78 : Nat),
 w70.heap.size ≤ n78 →
 ∀ (w79 : World),
 Evo [n78] w70 w79 →
 Under [n67, n78] w79 →
 Calls Proofs.Try.prog 33 #[Value.pointer a6, Value.int IntKind.i64 frame] w79 fun (e80 : Ending) (w81 : World) =>
 ∃ (a82 : Option Addr),
 ∃ (n83 : Nat),
 ∃ (n84 : Nat),
 e80 = Ending.returned (Value.slice a82 n83 n84) ∧
 Keeps [n67, n78] w79 w81 ∧
 Calls Proofs.Try.prog 31 #[Value.pointer a9] w81 fun (e85 : Ending) (w86 : World) =>
 ∃ (a87 : Option Addr),
 ∃ (n88 : Nat),
 ∃ (n89 : Nat),
 e85 = Ending.returned (Value.slice a87 n88 n89) ∧
 Keeps [n67, n78] w81 w86 ∧
 Calls Proofs.Try.prog 25 #[Value.slice a82 n83 n84, Value.slice a87 n88 n89] w86 fun (e90 : Ending) (w91 : World) =>
 ∃ (b92 : Bool),
 e90 = Ending.returned (Value.bool b92) ∧
 Keeps [n67, n78] w86 w91 ∧
 (b92 = true →
 Calls Proofs.Try.prog 36 #[Value.pointer a6, Value.int IntKind.i64 frame] w91
 fun (e93 : Ending) (w94 : World) =>
 ∃ (x95 : Int),
 ∃ (x96 : Int),
 ∃ (x97 : Int),
 ∃ (x98 : Int),
 e93 =
 Ending.returned
 (Value.agg
 #[Value.int IntKind.i64 x95, Value.int IntKind.i64 x96, Value.int IntKind.i64 x97,
 Value.int IntKind.i64 x98]) ∧
 Keeps [n67, n78] w91 w94 ∧
 Calls Proofs.Try.prog 36 #[Value.pointer a9, Value.int IntKind.i64 frame] w94
 fun (e99 : Ending) (w100 : World) =>
 ∃ (x101 : Int),
 ∃ (x102 : Int),
 ∃ (x103 : Int),
 ∃ (x104 : Int),
 e99 =
 Ending.returned
 (Value.agg
 #[Value.int IntKind.i64 x101, Value.int IntKind.i64 x102,
 Value.int IntKind.i64 x103, Value.int IntKind.i64 x104]) ∧
 Keeps [n67, n78] w94 w100 ∧
 ((x95 == x101 && (x96 == x102 && (x97 == x103 && (x98 == x104 && true)))) = true →
 Calls Proofs.Try.prog 30
 #[Value.pointer none,
 Value.agg
 #[Value.int IntKind.i64 1, Value.int IntKind.i64 1,
 Value.int IntKind.i64 1, Value.slice a64 n65 n66]]
 w100 fun (e105 : Ending) (w106 : World) =>
 ∃ (x107 : Int),
 e105 = Ending.returned (Value.int IntKind.i64 x107) ∧
 Keeps [n67, n78] w100 w106 ∧
 ((x107 == 40) = true →
 Calls Proofs.Try.prog 30
 #[Value.pointer (some ad61),
 Value.agg
 #[Value.int IntKind.i64 1, Value.int IntKind.i64 1,
 Value.int IntKind.i64 1, Value.slice a64 n65 n66]]
 w106 fun (e108 : Ending) (w109 : World) =>
 ∃ (x110 : Int),
 e108 = Ending.returned (Value.int IntKind.i64 x110) ∧
 Keeps [n67, n78] w106 w109 ∧
 ((x110 == 40) = true →
 ((!b77) = true →
 Calls Proofs.Try.prog 32 #[Value.pointer none] w109
 fun (e111 : Ending) (w112 : World) =>
 ∃ (x113 : Int),
 e111 =
 Ending.returned
 (Value.int IntKind.i64 x113) ∧
 Keeps [n67, n78] w109 w112 ∧
 ((x113 == 0) = true →
 Calls Proofs.Try.prog 36
 #[Value.pointer none,
 Value.int IntKind.i64 1]
 w112
 fun (e114 : Ending) (w115 : World) =>
 ∃ (x116 : Int),
 ∃ (x117 : Int),
 ∃ (x118 : Int),
 ∃ (x119 : Int),
 e114 =
 Ending.returned
 (Value.agg
 #[Value.int
 IntKind.i64 x116,
 Value.int
 IntKind.i64 x117,
 Value.int
 IntKind.i64 x118,
 Value.int
 IntKind.i64
 x119]) ∧
 Keeps [n67, n78] w112 w115 ∧
 ((x116 == 0 &&
 (x117 == 0 &&
 (x118 == 0 &&
 (x119 == 0 &&
 true)))) =
 true →
 Calls Proofs.Try.prog
 22 #[] w115
 fun (e120 : Ending)
 (w121 : World) =>
 ∃ (b122 : Bool),
 e120 =
 Ending.returned
 (Value.bool
 b122) ∧
 Keeps [n67, n78]
 w115 w121 ∧
 R
 (Ending.returned
 (Value.bool
 b122))
 w121) ∧
 ((x116 == 0 &&
 (x117 == 0 &&
 (x118 == 0 &&
 (x119 == 0 &&
 true)))) =
 false →
 R
 (Ending.returned
 (Value.bool
 false))
 w115)) ∧
 ((x113 == 0) = false →
 R (Ending.returned (Value.bool false))
 w112)) ∧
 ((!b77) = false →
 R (Ending.returned (Value.bool false)) w109)) ∧
 ((x110 == 40) = false →
 R (Ending.returned (Value.bool false)) w109)) ∧
 ((x107 == 40) = false →
 R (Ending.returned (Value.bool false)) w106)) ∧
 ((x95 == x101 && (x96 == x102 && (x97 == x103 && (x98 == x104 && true)))) =
 false →
 R (Ending.returned (Value.bool false)) w100)) ∧
 (b92 = false → R (Ending.returned (Value.bool false)) w91)))
theorem f5_eq (la : Option Addr) (ln : Nat) (lc : Nat) (frame : Int) (w : World) (R : Ending → World → Prop) : (fnF Go.Proofs.Try.prog h5 Go.Proofs.Try.f5 [Value.slice la ln lc, Value.int IntKind.i64 frame] w R).den = f5_vc la ln lc frame w R := by kernel_rfl
theorem f5_calls (la : Option Addr) (ln : Nat) (lc : Nat) (frame : Int) (w : World) (R : Ending → World → Prop) (h : f5_vc la ln lc frame w R) : Calls Go.Proofs.Try.prog 5 (List.toArray [Value.slice la ln lc, Value.int IntKind.i64 frame]) w R :=
 fn_sound (H := h5) (fn := Go.Proofs.Try.f5) (by kernel_rfl) (by kernel_rfl) (by kernel_rfl) ((f5_eq la ln lc frame w R).mpr h)


/-! manciple/manciplelaw25.TasksSorted -/
def h6 : Hints := ⟨[], [30, 36, 42, 50, 70, 76, 83, 89, 96, 102, 111, 125, 130], [19, 25, 32, 62, 108, 115, 133, 16, 67, 80, 93, 120, 140, 147, 153], [(8, [0, 1, 2, 3, 4, 5, 6, 7, 8, 9, 10, 11, 12, 13]), (15, [0, 1, 2, 3, 4, 5, 6, 7, 8, 9, 10, 11, 12, 13, 14, 15, 16, 17, 18, 19, 20, 21, 22, 23, 24, 25, 26, 27, 28, 29, 30, 31, 32, 33, 34, 35, 36, 37, 38, 39, 40, 41, 42, 43]), (18, [0, 1, 2, 3, 4, 5, 6, 7, 8, 9, 10, 11, 12, 13, 14, 15, 16, 17])], [], [(5, ⟨[(8, .int .i64)], []⟩), (13, ⟨[(11, .int .i64), (12, .int .i64)], []⟩)], [(6, ⟨[], []⟩), (14, ⟨[(11, .int .i64)], []⟩), (17, ⟨[], []⟩)], [], []⟩
def f6_vc (cap : Int) (la : Option Addr) (ln : Nat) (lc : Nat) (agent : Int) (w : World) (R : Ending → World → Prop) : Prop :=
 Calls Proofs.Try.prog 20 #[Value.slice la ln lc] w fun (e1 : Ending) (w2 : World) =>
 ∃ (b3 : Bool),
 e1 = Ending.returned (Value.bool b3) ∧
 ((!b3) = true → R (Ending.returned (Value.bool true)) w2) ∧
 ((!b3) = false →
 (decide (cap < 1) = true → R (Ending.returned (Value.bool true)) w2) ∧
 (decide (cap < 1) = false →
 Calls Proofs.Try.prog 21 #[Value.int IntKind.i64 cap] w2 fun (e4 : Ending) (w5 : World) =>
 ∃ (a6 : Option Addr),
 e4 = Ending.returned (Value.pointer a6) ∧
 ∃ (J7 : Int × Unit → World → Prop),
 ∃ (J8 : Int × Unit → World → Nat),
 J7 (0, ()) w5 ∧
 ∀ (x9 : Int) (w10 : World),
 J7 (x9, ()) w10 →
 (decide (x9 < (↑ln : Int)) = true →
 ∃ (J11 : Unit → World → Prop),
 (∃ (ad12 : Addr),
 Gives Proofs.Try.prog (Instr.indexAt 39 (Value.slice la ln lc) (Value.int IntKind.i64 x9)) (Value.pointer (some ad12)) ∧
 ∃ (b13 : Bool),
 Reads Proofs.Try.prog [] (Instr.loadAt 4 (Value.pointer (some ad12))) w10 (Value.bool b13) ∧
 (b13 = true →
 ∃ (ad14 : Addr),
 Gives Proofs.Try.prog (Instr.indexAt 39 (Value.slice la ln lc) (Value.int IntKind.i64 x9)) (Value.pointer (some ad14)) ∧
 ∃ (x15 : Int),
 Reads Proofs.Try.prog [] (Instr.loadAt 2 (Value.pointer (some (Addr.mk ad14.block (ad14.off + 1) none)))) w10 (Value.int IntKind.i64 x15) ∧
 ∃ (ad16 : Addr),
 Gives Proofs.Try.prog (Instr.indexAt 39 (Value.slice la ln lc) (Value.int IntKind.i64 x9)) (Value.pointer (some ad16)) ∧
 ∃ (x17 : Int),
 Reads Proofs.Try.prog []
 (Instr.loadAt 2 (Value.pointer (some (Addr.mk (Addr.mk ad16.block (ad16.off + 1) none).block ((Addr.mk ad16.block (ad16.off + 1) none).off + 1) none)))) w10
 (Value.int IntKind.i64 x17) ∧
 ∀ (w18 : World),
 Bel w10 w18 →
 Calls Proofs.Try.prog 26 #[Value.pointer a6, Value.int IntKind.i64 x15, Value.int IntKind.i64 x17] w18 fun (e19 : Ending) (w20 : World) =>
 ∃ (x21 : Int),
 ∃ (x22 : Int),
 ∃ (x23 : Int),
 ∃ (a24 : Option Addr),
 ∃ (n25 : Nat),
 ∃ (n26 : Nat),
 ∃ (b27 : Bool),
 e19 =
 Ending.returned
 (Value.tuple
 #[Value.agg #[Value.int IntKind.i64 x21, Value.int IntKind.i64 x22, Value.int IntKind.i64 x23, Value.slice a24 n25 n26], Value.bool b27]) ∧
 J11 () w20) ∧
 (b13 = false →
 ∃ (ad28 : Addr),
 Gives Proofs.Try.prog (Instr.indexAt 39 (Value.slice la ln lc) (Value.int IntKind.i64 x9)) (Value.pointer (some ad28)) ∧
 ∃ (x29 : Int),
 ∃ (x30 : Int),
 ∃ (x31 : Int),
 ∃ (a32 : Option Addr),
 ∃ (n33 : Nat),
 ∃ (n34 : Nat),
 Reads Proofs.Try.prog [] (Instr.loadAt 48 (Value.pointer (some (Addr.mk ad28.block (ad28.off + 1) none)))) w10
 (Value.agg #[Value.int IntKind.i64 x29, Value.int IntKind.i64 x30, Value.int IntKind.i64 x31, Value.slice a32 n33 n34]) ∧
 Calls Proofs.Try.prog 30 #[Value.pointer a6, Value.agg #[Value.int IntKind.i64 x29, Value.int IntKind.i64 x30, Value.int IntKind.i64 x31, Value.slice a32 n33 n34]] w10
 fun (e35 : Ending) (w36 : World) => ∃ (x37 : Int), e35 = Ending.returned (Value.int IntKind.i64 x37) ∧ J11 () w36)) ∧
 ∀ (w38 : World), J11 () w38 → J7 (IntKind.i64.wrap (x9 + 1), ()) w38 ∧ J8 (IntKind.i64.wrap (x9 + 1), ()) w38 < J8 (x9, ()) w10) ∧
 (decide (x9 < (↑ln : Int)) = false →
 Calls Proofs.Try.prog 31 #[Value.pointer a6] w10 fun (e39 : Ending) (w40 : World) =>
 ∃ (a41 : Option Addr),
 ∃ (n42 : Nat),
 ∃ (n43 : Nat),
 e39 = Ending.returned (Value.slice a41 n42 n43) ∧
 Calls Proofs.Try.prog 35 #[Value.pointer a6, Value.int IntKind.i64 agent] w40 fun (e44 : Ending) (w45 : World) =>
 ∃ (a46 : Option Addr),
 ∃ (n47 : Nat),
 ∃ (n48 : Nat),
 e44 = Ending.returned (Value.slice a46 n47 n48) ∧
 ∃ (J49 : Int × Int × Unit → World → Prop),
 ∃ (J50 : Int × Int × Unit → World → Nat),
 J49 (0, 0, ()) w45 ∧
 ∀ (x51 x52 : Int) (w53 : World),
 J49 (x51, x52, ()) w53 →
 (decide (x52 < (↑n42 : Int)) = true →
 ∃ (J54 : Int × Unit → World → Prop),
 (∃ (J55 : Unit → World → Prop),
 ((decide (x52 > 0) = true →
 ∃ (ad56 : Addr),
 Gives Proofs.Try.prog (Instr.indexAt 44 (Value.slice a41 n42 n43) (Value.int IntKind.i64 x52)) (Value.pointer (some ad56)) ∧
 ∃ (x57 : Int),
 Reads Proofs.Try.prog [] (Instr.loadAt 2 (Value.pointer (some ad56))) w53 (Value.int IntKind.i64 x57) ∧
 ∃ (ad58 : Addr),
 Gives Proofs.Try.prog (Instr.indexAt 44 (Value.slice a41 n42 n43) (Value.int IntKind.i64 (IntKind.i64.wrap (x52 - 1)))) (Value.pointer (some ad58)) ∧
 ∃ (x59 : Int),
 Reads Proofs.Try.prog [] (Instr.loadAt 2 (Value.pointer (some ad58))) w53 (Value.int IntKind.i64 x59) ∧
 (decide (x57 < x59) = true → ∀ (w60 : World), Bel w53 w60 → R (Ending.returned (Value.bool false)) w60) ∧
 (decide (x57 < x59) = false →
 ∃ (ad61 : Addr),
 Gives Proofs.Try.prog (Instr.indexAt 44 (Value.slice a41 n42 n43) (Value.int IntKind.i64 x52)) (Value.pointer (some ad61)) ∧
 ∃ (x62 : Int),
 Reads Proofs.Try.prog [] (Instr.loadAt 2 (Value.pointer (some ad61))) w53 (Value.int IntKind.i64 x62) ∧
 ∃ (ad63 : Addr),
 Gives Proofs.Try.prog (Instr.indexAt 44 (Value.slice a41 n42 n43) (Value.int IntKind.i64 (IntKind.i64.wrap (x52 - 1))))
 (Value.pointer (some ad63)) ∧
 ∃ (x64 : Int),
 Reads Proofs.Try.prog [] (Instr.loadAt 2 (Value.pointer (some ad63))) w53 (Value.int IntKind.i64 x64) ∧
 ((x62 == x64) = true →
 ∃ (ad65 : Addr),
 Gives Proofs.Try.prog (Instr.indexAt 44 (Value.slice a41 n42 n43) (Value.int IntKind.i64 x52))
 (Value.pointer (some ad65)) ∧
 ∃ (x66 : Int),
 Reads Proofs.Try.prog [] (Instr.loadAt 2 (Value.pointer (some (Addr.mk ad65.block (ad65.off + 1) none)))) w53
 (Value.int IntKind.i64 x66) ∧
 ∃ (ad67 : Addr),
 Gives Proofs.Try.prog
 (Instr.indexAt 44 (Value.slice a41 n42 n43) (Value.int IntKind.i64 (IntKind.i64.wrap (x52 - 1))))
 (Value.pointer (some ad67)) ∧
 ∃ (x68 : Int),
 Reads Proofs.Try.prog [] (Instr.loadAt 2 (Value.pointer (some (Addr.mk ad67.block (ad67.off + 1) none))))
 w53 (Value.int IntKind.i64 x68) ∧
 (decide (x66 ≤ x68) = true →
 ∀ (w69 : World), Bel w53 w69 → R (Ending.returned (Value.bool false)) w69) ∧
 (decide (x66 ≤ x68) = false → ∀ (w70 : World), Bel w53 w70 → J55 () w70)) ∧
 ((x62 == x64) = false → ∀ (w71 : World), Bel w53 w71 → J55 () w71))) ∧
 (decide (x52 > 0) = false → ∀ (w72 : World), Bel w53 w72 → J55 () w72)) ∧
 ∀ (w73 : World),
 J55 () w73 →
 ∃ (ad74 : Addr),
 Gives Proofs.Try.prog (Instr.indexAt 44 (Value.slice a41 n42 n43) (Value.int IntKind.i64 x52)) (Value.pointer (some ad74)) ∧
 ∃ (x75 : Int),
 Reads Proofs.Try.prog [] (Instr.loadAt 2 (Value.pointer (some (Addr.mk ad74.block (ad74.off + 2) none)))) w73 (Value.int IntKind.i64 x75) ∧
 ((x75 == agent) = true →
 (decide (x51 ≥ (↑n47 : Int)) = true → ∀ (w76 : World), Bel w73 w76 → R (Ending.returned (Value.bool false)) w76) ∧
 (decide (x51 ≥ (↑n47 : Int)) = false →
 ∃ (a77 : Option Addr),
 ∃ (n78 : Nat),
 ∃ (n79 : Nat),
 Gives Proofs.Try.prog
 (Instr.sliceAt 44 (Value.slice a46 n47 n48) (some (Value.int IntKind.i64 x51))
 (some (Value.int IntKind.i64 (IntKind.i64.wrap (x51 + 1)))) none)
 (Value.slice a77 n78 n79) ∧
 ∃ (a80 : Option Addr),
 ∃ (n81 : Nat),
 ∃ (n82 : Nat),
 Gives Proofs.Try.prog
 (Instr.sliceAt 44 (Value.slice a41 n42 n43) (some (Value.int IntKind.i64 x52))
 (some (Value.int IntKind.i64 (IntKind.i64.wrap (x52 + 1)))) none)
 (Value.slice a80 n81 n82) ∧
 ∀ (w83 : World),
 Bel w73 w83 →
 Calls Proofs.Try.prog 25 #[Value.slice a77 n78 n79, Value.slice a80 n81 n82] w83 fun (e84 : Ending) (w85 : World) =>
 ∃ (b86 : Bool),
 e84 = Ending.returned (Value.bool b86) ∧
 ((!b86) = true → R (Ending.returned (Value.bool false)) w85) ∧
 ((!b86) = false → J54 (IntKind.i64.wrap (x51 + 1), ()) w85))) ∧
 ((x75 == agent) = false → J54 (x51, ()) w73)) ∧
 ∀ (x87 : Int) (w88 : World),
 J54 (x87, ()) w88 → J49 (x87, IntKind.i64.wrap (x52 + 1), ()) w88 ∧ J50 (x87, IntKind.i64.wrap (x52 + 1), ()) w88 < J50 (x51, x52, ()) w53) ∧
 (decide (x52 < (↑n42 : Int)) = false →
 ((x51 == (↑n47 : Int)) = true →
 Calls Proofs.Try.prog 32 #[Value.pointer a6] w53 fun (e89 : Ending) (w90 : World) =>
 ∃ (x91 : Int),
 e89 = Ending.returned (Value.int IntKind.i64 x91) ∧
 (((↑n42 : Int) == x91) = true →
 (decide ((↑n42 : Int) ≤ cap) = true →
 Calls Proofs.Try.prog 22 #[] w90 fun (e92 : Ending) (w93 : World) =>
 ∃ (b94 : Bool), e92 = Ending.returned (Value.bool b94) ∧ R (Ending.returned (Value.bool b94)) w93) ∧
 (decide ((↑n42 : Int) ≤ cap) = false → R (Ending.returned (Value.bool false)) w90)) ∧
 (((↑n42 : Int) == x91) = false → R (Ending.returned (Value.bool false)) w90)) ∧
 ((x51 == (↑n47 : Int)) = false → R (Ending.returned (Value.bool false)) w53)))))
theorem f6_eq (cap : Int) (la : Option Addr) (ln : Nat) (lc : Nat) (agent : Int) (w : World) (R : Ending → World → Prop) : (fnF Go.Proofs.Try.prog h6 Go.Proofs.Try.f6 [Value.int IntKind.i64 cap, Value.slice la ln lc, Value.int IntKind.i64 agent] w R).den = f6_vc cap la ln lc agent w R := by kernel_rfl
theorem f6_calls (cap : Int) (la : Option Addr) (ln : Nat) (lc : Nat) (agent : Int) (w : World) (R : Ending → World → Prop) (h : f6_vc cap la ln lc agent w R) : Calls Go.Proofs.Try.prog 6 (List.toArray [Value.int IntKind.i64 cap, Value.slice la ln lc, Value.int IntKind.i64 agent]) w R :=
 fn_sound (H := h6) (fn := Go.Proofs.Try.f6) (by kernel_rfl) (by kernel_rfl) (by kernel_rfl) ((f6_eq cap la ln lc agent w R).mpr h)

end Vct

/- Slices of slices: what Instr.sliceAt gives. -/
namespace Go.Vc
open Go Go.RowKit
section
variable {P : Program}
theorem gives_slice_lh {t e : TypeId} {n len cap l h : Nat} {a : Option Addr} {k k2 : IntKind} (ht : P.underlying t = some (.slice e)) (hs : pureRun P (sizeOf e) = some n) (h1 : l ≤ h) (h2 : h ≤ cap) :
    Gives P (Instr.sliceAt t (.slice a len cap) (some (.int k (l : Int))) (some (.int k2 (h : Int))) none) (.slice (if cap = l then a else a.map (·.add (l * n))) (h - l) (cap - l)) := by
  intro W
  have he : P.elem t = e := by simp [Program.elem, ht]
  have ht' : P.underlying t = some (.slice (P.elem t)) := by rw [he]; exact ht
  have hh := run_slice_lh (P := P) W t a len cap ht' k k2 (l : Int) (h : Int) (by omega) (by omega) (by omega)
  rw [run_sliceAt_slice (P := P) W t _ _ _ _ ht', hh, he, pureRun_run hs W]
  simp only [Result.andThen, sliced, Int.toNat_natCast]
theorem gives_slice_h {t e : TypeId} {n len cap h : Nat} {a : Option Addr} {k2 : IntKind} (ht : P.underlying t = some (.slice e)) (hs : pureRun P (sizeOf e) = some n) (h2 : h ≤ cap) :
    Gives P (Instr.sliceAt t (.slice a len cap) none (some (.int k2 (h : Int))) none) (.slice (if cap = 0 then a else a.map (·.add (0 * n))) h cap) := by
  intro W
  have he : P.elem t = e := by simp [Program.elem, ht]
  have ht' : P.underlying t = some (.slice (P.elem t)) := by rw [he]; exact ht
  have hh := run_slice_h (P := P) W t a len cap ht' k2 (h : Int) (by omega) (by omega)
  rw [run_sliceAt_slice (P := P) W t _ _ _ _ ht', hh, he, pureRun_run hs W]
  simp only [Result.andThen, sliced, Int.toNat_natCast, Nat.sub_zero]
end
end Go.Vc

/- The law that tasks are sorted. -/
set_option maxRecDepth 20000
set_option maxHeartbeats 1000000
namespace Go.Vc.J
open Go Go.Vc Go.Vc.V Go.RowKit Go.Proofs Vct

variable {w W W' W2 : World} {M N : Nat → Prop} {gs ds : List Nat} {g r : Nat} {cap : Int} {m m' : List (KyT × TR)}

theorem launch_none {t : TkT} (h : launchE cap m t = 0) : mget (keyT t) m = Option.none ∧ okT t ∧ (m.length : Int) < cap := by
  unfold launchE at h
  split at h
  · cases h
  · rename_i hok
    split at h
    · cases h
    · rename_i hno
      split at h
      · cases h
      · rename_i hc
        refine ⟨?_, Classical.not_not.1 hok, by omega⟩
        cases hx : mget (keyT t) m with
        | none => rfl
        | some y => rw [hx] at hno; exact absurd rfl hno
theorem nextM.len {t : TkT} (h : nextM cap m m' t) : m'.length ≤ m.length + 1 ∧ ((m.length : Int) ≤ cap → (m'.length : Int) ≤ cap) := by
  rcases h with ⟨_, rfl⟩ | ⟨h0, s, rfl⟩
  · exact ⟨by omega, id⟩
  · obtain ⟨h1, _, h3⟩ := launch_none h0
    rw [mset_fresh h1, List.length_append, List.length_singleton]
    exact ⟨by omega, fun _ => by omega⟩
theorem endM_len (k : KyT) : (endM m k).length ≤ m.length := by
  unfold endM
  split
  · omega
  · rw [mdel_length]
    split <;> omega
theorem endM_eq (h : (m.map (·.1)).Nodup) (k : KyT) : endM m k = mdel k m := by
  unfold endM
  cases hx : mget k m with
  | none =>
    simp only
    have := mget_none.1 hx
    rw [mdel_filter h]
    symm
    rw [List.filter_eq_self]
    intro y hy
    simp only [decide_eq_true_eq]
    intro e
    exact this (List.mem_map.2 ⟨y, hy, e⟩)
  | some y => rfl

/-- An element of an own row, as a row. -/
theorem one_row {l : List TR} {a : Option Addr} {n c i : Nat} {x : TR} (ho : OwnF w M gs W 48 4 trE (.slice a n c) l) (hx : l[i]? = some x) :
    ∃ a', Gives Try.prog (Instr.sliceAt 44 (.slice a n c) (some (.int .i64 (i : Int))) (some (.int .i64 ((i + 1 : Nat) : Int))) none) (.slice a' 1 (c - i)) ∧ (∀ W', SlE W' 4 trE l a n c → SlE W' 4 trE [x] a' 1 (c - i)) := by
  have hi := (List.getElem?_eq_some_iff.1 hx).1
  have hn := ho.len
  obtain ⟨g, cur, rfl, _, _, hlc, _⟩ := ho.ptr (by omega)
  have hg := gives_slice_lh (P := Try.prog) (t := 44) (e := 48) (n := 4) (len := n) (cap := c) (l := i) (h := i + 1) (a := some ⟨g, 0, none⟩) (k := .i64) (k2 := .i64) (by kernel_rfl) (by kernel_rfl) (by omega) (by omega)
  rw [if_neg (by omega), show i + 1 - i = 1 by omega] at hg
  refine ⟨_, hg, fun W' hs => ?_⟩
  obtain ⟨h1, h2, h3, h4, h6⟩ := hs
  refine ⟨rfl, by omega, by omega, fun h => (by cases h), fun j y hy => ?_⟩
  have hj : j = 0 := by have := (List.getElem?_eq_some_iff.1 hy).1; simp at this; omega
  subst hj
  simp at hy
  subst hy
  obtain ⟨ad, cs, ha, hl, hcs, hr⟩ := h6 i _ hx
  cases ha
  refine ⟨_, cs, rfl, hl, fun q v hv => ?_, hr⟩
  have := hcs q v hv
  rw [Nat.zero_mul]
  have h0 : ((⟨g, 0, none⟩ : Addr).add (i * 4)).add 0 = (⟨g, 0, none⟩ : Addr).add (i * 4) := by
    rw [addr_add]
    unfold Addr.add
    simp
  rw [h0]
  exact this
theorem srt_nd {D : List TkT} (hw : D.Pairwise fun x y => ¬ lexT y x) (hnd : (D.map keyT).Nodup) : SrtT D :=
  (hw.and (List.pairwise_map.1 hnd)).imp fun ⟨h, hne⟩ => Classical.byContradiction fun hh => hne (lexT_key hh h)
theorem TbS.ndk (h : TbS W g r cap m) : ((m.map (·.2.1)).map keyT).Nodup := by
  have e : (m.map (·.2.1)).map keyT = m.map (·.1) := by
    rw [List.map_map]
    exact List.map_congr_left fun x hx => (h.ks x hx).symm
  rw [e]
  exact h.nd
theorem nd_filter {D : List TkT} {p : TkT → Bool} (h : (D.map keyT).Nodup) : ((D.filter p).map keyT).Nodup := List.Pairwise.sublist (List.filter_sublist.map _) h
theorem filter_all' {D : List TkT} : D.filter pAll = D := List.filter_eq_self.2 fun _ _ => rfl
/-- Which are told: sorted, each once. -/
theorem told {l : List TR} {p : TkT → Bool} (h : TbS W g r cap m) (hp : (l.map (·.1)).Perm ((m.map (·.2.1)).filter p)) (hw : l.Pairwise fun x y => ¬ lexT y.1 x.1) : SrtT (l.map (·.1)) :=
  srt_nd (pairwise_map' hw) ((hp.map keyT).nodup_iff.2 (nd_filter h.ndk))
theorem at_act {L : List (Bool × TR)} {a : Option Addr} {n c i : Nat} {x : Bool × TR} (h : AR W L a n c) (hx : L[i]? = some x) : ∃ ad, Gives Try.prog (Instr.indexAt 39 (.slice a n c) (.int .i64 (i : Int))) (.pointer (some ad)) ∧ Elt W ad (actE x) := by
  obtain ⟨ad, g1, el, _⟩ := elt_at (P := Try.prog) (k := .i64) (t := 39) h.sl hx (e := 50) (by kernel_rfl) (by kernel_rfl)
  exact ⟨ad, g1, el⟩
theorem law6 {acts : List (Bool × TR)} {a : Option Addr} {n c : Nat} (cap agent : Int) (w : World) (har : AR w acts a n c) : Ret Try.prog 6 #[.int .i64 cap, .slice a n c, .int .i64 agent] w (.bool true) := by
  intro R hR
  refine f6_calls cap a n c agent w R ?_
  unfold f6_vc
  have hn := har.sl.len_le
  refine at_callq (At.refl w) (c20 w har) fun v w2 hA _ hb2 ⟨b, e, hfew⟩ => ?_
  subst e
  refine ⟨_, rfl, brNB (fun _ => leaf hR hA rfl) (fun hb => brD (fun _ => leaf hR hA rfl) (fun hcap => ?_))⟩
  have hfew := hfew hb
  refine at_callq hA (c21 cap w2) fun v w5 hA _ hb5 hq => ?_
  rcases hq with ⟨hlt, _⟩ | ⟨hc1, g, r, e, ht, hg, hr⟩
  · exact absurd hlt hcap
  subst e
  have hgw : w.heap.size ≤ g := by have := hb2.size; omega
  have hrw : w.heap.size ≤ r := by have := hb2.size; omega
  refine ⟨_, rfl, fun v W' => At w [] W' ∧ ∃ (i : Nat) (m : List (KyT × TR)), v.1 = i ∧ i ≤ acts.length ∧ TbS W' g r cap m ∧ m.length ≤ i ∧ (m.length : Int) ≤ cap, fun v _ => (n - v.1).toNat, ⟨hA, 0, [], rfl, Nat.zero_le _, ht, Nat.le_refl _, by simp; omega⟩, ?_⟩
  rintro x9 w10 ⟨hA, i, m, hi, hil, ht, hmi, hmc⟩
  simp only at hi
  subst hi
  refine brD (fun hlt => ?_) (fun hge => ?_)
  · obtain ⟨x, hx⟩ : ∃ x, acts[i]? = some x := ⟨_, List.getElem?_eq_getElem (by omega)⟩
    have har10 := har.keep (KeepC.of_bel hA.below)
    obtain ⟨ad, g1, el⟩ := at_act har10 hx
    refine ⟨fun _ W' => At w [] W' ∧ ∃ m' : List (KyT × TR), TbS W' g r cap m' ∧ m'.length ≤ i + 1 ∧ (m'.length : Int) ≤ cap, ⟨ad, g1, _, el.one (by kernel_rfl) (by simp), brB (fun _ => ?_) (fun _ => ?_)⟩, ?_⟩
    · refine ⟨ad, g1, _, (el.sub (o := 1) (by decide)).one (by kernel_rfl) (by simp), ad, g1, _, ((el.sub (o := 1) (by decide)).sub (o := 1) (by decide)).one (by kernel_rfl) (by simp), fun w18 hb18 => ?_⟩
      refine at_end (hA.call hb18) (ht.call hb18) (.inl hrw) (by simp) x.2.1.1 x.2.1.2.1 fun v w20 hA _ _ _ ht hq => ?_
      obtain ⟨y5, y6, y7, s8, b11, e, _⟩ := getQ_shape hq
      subst e
      have := endM_len (m := m) (x.2.1.1, x.2.1.2.1)
      exact ⟨_, _, _, _, _, _, _, rfl, hA, _, ht, by omega, by omega⟩
    · refine ⟨ad, g1, _, _, _, _, _, _, (el.sub (o := 1) (by decide)).agg 4 (by kernel_rfl) (by kernel_rfl) (by simp) (by simp), ?_⟩
      refine at_launch hA ht (.inl hrw) (by simp) x.2 (har10.vs x (List.mem_of_getElem? hx)) fun m' w36 hA _ _ _ ht hnx => ⟨_, rfl, hA, m', ht, ?_, ?_⟩
      · have := hnx.len.1; omega
      · exact hnx.len.2 hmc
    · rintro w38 ⟨hA, m', ht, h1, h2⟩
      rw [succ_i i (by omega)]
      exact ⟨⟨hA, i + 1, m', rfl, by omega, ht, h1, h2⟩, by simp only; omega⟩
  · have hml : m.length ≤ 1000 := by omega
    refine at_callq hA (c31 ht hml) fun v w40 hA _ hb40 ⟨l1, a1, k1, e, ho1, hv1, hp1, hw1⟩ => ?_
    subst e
    refine ⟨_, _, _, rfl, ?_⟩
    have ht40 := ht.call hb40
    refine at_callq hA (c35 agent ht40 hml) fun v w45 hA _ hb45 ⟨l2, a2, k2, e, ho2, hv2, hp2, hw2⟩ => ?_
    subst e
    have hs1 := told ht hp1 hw1
    have hs2 := told ht40 hp2 hw2
    have hl1 : l1.length = m.length := by
      have := hp1.length_eq
      rw [List.length_map, filter_all', List.length_map] at this
      exact this
    have hD : l2.map (·.1) = (l1.map (·.1)).filter (pOn agent) := by
      refine srt_ext hs2 (srt_filter hs1) (hp2.trans ?_)
      refine List.Perm.filter _ ?_
      have := hp1.symm
      rwa [filter_all'] at this
    have ho1 := ho1.call hb45
    have hv1 : ∀ x ∈ l1, VecR w45 x := fun x hx => (hv1 x hx).1.keep (KeepC.of_bel hb45)
    have hv2 : ∀ x ∈ l2, VecR w45 x := fun x hx => (hv2 x hx).1
    have hr1 := ho1.sl fun _ _ => rfl
    have hr2 := ho2.sl fun _ _ => rfl
    refine ⟨_, _, _, rfl, fun v W' => At w [] W' ∧ Bel w45 W' ∧ ∃ (i k : Nat), v.2.1 = i ∧ v.1 = k ∧ i ≤ l1.length ∧ k = (((l1.map (·.1)).take i).filter (pOn agent)).length, fun v _ => ((l1.length : Int) - v.2.1).toNat, ⟨hA, Bel.refl _, 0, 0, rfl, rfl, Nat.zero_le _, by simp⟩, ?_⟩
    rintro x51 x52 w53 ⟨hA, hbb, i, k, hi, hk, hil, hkk⟩
    simp only at hi hk
    subst hi hk
    refine brD (fun hlt => ?_) (fun hge => ?_)
    · obtain ⟨x, hx⟩ : ∃ x, l1[i]? = some x := ⟨_, List.getElem?_eq_getElem (by omega)⟩
      obtain ⟨ad, g1, el, _⟩ := elt_at (P := Try.prog) (k := .i64) (t := 44) (hr1.call hbb) hx (e := 48) (by kernel_rfl) (by kernel_rfl)
      have htk : (((l1.map (·.1)).take (i + 1)).filter (pOn agent)) = (((l1.map (·.1)).take i).filter (pOn agent)) ++ (if x.1.2.2.1 = agent then [x.1] else []) := by
        rw [List.take_add_one, List.getElem?_map, hx, List.filter_append]
        congr 1
        by_cases hq : x.1.2.2.1 = agent
        · simp [pOn, hq]
        · simp [pOn, hq]
      refine ⟨fun v W' => At w [] W' ∧ Bel w45 W' ∧ v.1 = (((((l1.map (·.1)).take (i + 1)).filter (pOn agent)).length : Nat) : Int), ⟨fun _ W' => At w [] W' ∧ Bel w45 W', ?_, ?_⟩, ?_⟩
      · refine brD (fun hpos => ?_) (fun _ w72 hb => ⟨hA.call hb, hbb.trans hb⟩)
        obtain ⟨y, hy⟩ : ∃ x, l1[i - 1]? = some x := ⟨_, List.getElem?_eq_getElem (by omega)⟩
        obtain ⟨ad2, g2, el2, _⟩ := elt_at (P := Try.prog) (k := .i64) (t := 44) (hr1.call hbb) hy (e := 48) (by kernel_rfl) (by kernel_rfl)
        have hyx : lexT y.1 x.1 := by
          have h' := List.pairwise_iff_getElem.1 (List.pairwise_map.1 hs1)
          have hi' := (List.getElem?_eq_some_iff.1 hx)
          have hj' := (List.getElem?_eq_some_iff.1 hy)
          have := h' (i - 1) i hj'.1 hi'.1 (by omega)
          rw [hi'.2, hj'.2] at this
          exact this
        have e2 : IntKind.i64.wrap ((i : Int) - 1) = ((i - 1 : Nat) : Int) := by rw [wrap_i64 (by omega) (by omega)]; omega
        rw [e2]
        unfold lexT at hyx
        refine ⟨ad, g1, _, el.one (by kernel_rfl) (by simp), ad2, g2, _, el2.one (by kernel_rfl) (by simp), brD (fun hh => by omega) (fun _ => ?_)⟩
        refine ⟨ad, g1, _, el.one (by kernel_rfl) (by simp), ad2, g2, _, el2.one (by kernel_rfl) (by simp), brE (fun hh => ?_) (fun _ w71 hb => ⟨hA.call hb, hbb.trans hb⟩)⟩
        exact ⟨ad, g1, _, (el.sub (o := 1) (by decide)).one (by kernel_rfl) (by simp), ad2, g2, _, (el2.sub (o := 1) (by decide)).one (by kernel_rfl) (by simp), brD (fun hh2 => by omega) (fun _ w70 hb => ⟨hA.call hb, hbb.trans hb⟩)⟩
      · rintro w73 ⟨hA, hbb⟩
        obtain ⟨ad, g1, el, _⟩ := elt_at (P := Try.prog) (k := .i64) (t := 44) (hr1.call hbb) hx (e := 48) (by kernel_rfl) (by kernel_rfl)
        refine ⟨ad, g1, _, (el.sub (o := 2) (by decide)).one (by kernel_rfl) (by simp), brE (fun he => ?_) (fun hne => ?_)⟩
        · have hk2 : (l2[k]?).map (·.1) = some x.1 := by
            rw [← List.getElem?_map, hD]
            have hsplit : (l1.map (·.1)).filter (pOn agent) = ((l1.map (·.1)).take (i + 1)).filter (pOn agent) ++ ((l1.map (·.1)).drop (i + 1)).filter (pOn agent) := by
              rw [← List.filter_append, List.take_append_drop]
            rw [hsplit, htk, if_pos he, List.getElem?_append_left (by rw [List.length_append, List.length_singleton]; omega), List.getElem?_append_right (by omega), hkk]
            simp
          obtain ⟨y, hy, hyx⟩ := Option.map_eq_some_iff.1 hk2
          have hkl := (List.getElem?_eq_some_iff.1 hy).1
          have hk9 : k ≤ i := by rw [hkk]; exact Nat.le_trans (List.length_filter_le _ _) (by rw [List.length_take]; exact Nat.min_le_left _ _)
          obtain ⟨s1, gs1, r1⟩ := one_row ho2 hy
          obtain ⟨s2, gs2, r2⟩ := one_row ho1 hx
          rw [succ_i k (by omega), succ_i i (by omega)]
          refine brD (fun hh => by omega) (fun _ => ⟨_, _, _, gs1, _, _, _, gs2, fun w83 hb83 => ?_⟩)
          have hb83' := hbb.trans hb83
          have hA := hA.call hb83
          refine at_callb hA (c25 w83 ⟨r1 _ (hr2.call hb83'), fun z hz => by rw [List.mem_singleton] at hz; rw [hz]; exact (hv2 y (List.mem_of_getElem? hy)).keep (KeepC.of_bel hb83')⟩ ⟨r2 _ (hr1.call hb83'), fun z hz => by rw [List.mem_singleton] at hz; rw [hz]; exact (hv1 x (List.mem_of_getElem? hx)).keep (KeepC.of_bel hb83')⟩) fun w85 hA _ hb85 => ⟨_, rfl, brNB (fun hh => absurd (show [y].map (·.1) = [x].map (·.1) by simp [hyx]) (of_decide_eq_false hh)) (fun _ => ?_)⟩
          refine ⟨hA, hb83'.trans hb85, ?_⟩
          simp only
          rw [htk, if_pos he, List.length_append, List.length_singleton, ← hkk]
        · refine ⟨hA, hbb, ?_⟩
          simp only
          rw [htk, if_neg hne, List.append_nil, ← hkk]
      · rintro x87 w88 ⟨hA, hbb, hx87⟩
        simp only at hx87
        rw [succ_i i (by omega)]
        exact ⟨⟨hA, hbb, i + 1, _, rfl, hx87, by omega, rfl⟩, by simp only; omega⟩
    · have hi2 : i = l1.length := by omega
      have hkl : (k : Int) = (l2.length : Int) := by
        rw [hkk, hi2, List.take_of_length_le (by simp), ← hD, List.length_map]
      refine brE (fun _ => ?_) (fun hh => absurd hkl hh)
      have ht53 := (ht40.call hb45).call hbb
      refine at_callb hA (c32 ht53) fun w90 hA _ hb90 => ⟨_, rfl, brE (fun _ => brD (fun _ => ?_) (fun hh => by omega)) (fun hh => absurd (by rw [hl1]) hh)⟩
      exact at_callb hA (c22 w90) fun w93 hA _ _ => ⟨_, rfl, leaf hR hA rfl⟩
end Go.Vc.J

/- The law that frames lie apart. -/
set_option maxRecDepth 20000
set_option maxHeartbeats 1000000
namespace Go.Vc.J
open Go Go.Vc Go.Vc.V Go.RowKit Go.Proofs Vct

variable {w W W' W2 : World} {M N : Nat → Prop} {gs ds : List Nat} {g r : Nat} {cap : Int} {m m' : List (KyT × TR)}

/-- One act, on the tasks that are told. -/
def stepL (x : Bool × TkT) (D : List TkT) : List TkT := if x.1 = true then D.filter (fun t => decide (keyT t ≠ keyT x.2)) else if okT x.2 ∧ keyT x.2 ∉ D.map keyT then D ++ [x.2] else D
def stepM (cap : Int) (m m' : List (KyT × TR)) (x : Bool × TR) : Prop := if x.1 = true then m' = endM m (keyT x.2.1) else nextM cap m m' x.2.1
theorem TbS.ksD (h : TbS W g r cap m) : (m.map (·.2.1)).map keyT = m.map (·.1) := by
  rw [List.map_map]
  exact List.map_congr_left fun x hx => (h.ks x hx).symm
theorem step_D (h : TbS W g r cap m) (hl : (m.length : Int) < cap) {x : Bool × TR} (s : stepM cap m m' x) : m'.map (·.2.1) = stepL (x.1, x.2.1) (m.map (·.2.1)) := by
  unfold stepM at s
  unfold stepL
  simp only
  by_cases hx : x.1 = true
  · rw [if_pos hx] at s ⊢
    rw [s, endM_eq h.nd, mdel_filter h.nd, List.filter_map]
    congr 1
    refine List.filter_congr fun y hy => ?_
    rw [h.ks y hy]
    rfl
  · rw [if_neg hx] at s ⊢
    rw [h.ksD]
    rcases s with ⟨h0, rfl⟩ | ⟨h0, s, rfl⟩
    · rw [if_neg]
      rintro ⟨h1, h2⟩
      refine h0 ?_
      unfold launchE
      rw [if_neg (fun hh => hh h1), if_neg (fun hh => ?_), if_neg (by omega)]
      rw [mget_none.2 h2] at hh
      cases hh
    · obtain ⟨h1, h2, _⟩ := launch_none h0
      rw [if_pos ⟨h2, mget_none.1 h1⟩, mset_fresh h1, List.map_append]
      rfl
theorem stepL_rel {f : Int} {D A : List TkT} (x : Bool × TkT) (h : A.Perm (D.filter (pOf f))) : (if x.2.1 = f then stepL x A else A).Perm ((stepL x D).filter (pOf f)) := by
  unfold stepL
  by_cases hx : x.1 = true
  · rw [if_pos hx, if_pos hx]
    by_cases hf : x.2.1 = f
    · rw [if_pos hf]
      refine (h.filter _).trans ?_
      rw [List.filter_filter, List.filter_filter]
      refine List.Perm.of_eq (List.filter_congr fun y _ => Bool.and_comm _ _)
    · rw [if_neg hf, List.filter_filter]
      refine h.trans (List.Perm.of_eq (List.filter_congr fun y _ => ?_))
      unfold pOf
      by_cases hy : y.1 = f
      · have : keyT y ≠ keyT x.2 := fun e => hf (by rw [← hy]; exact (congrArg (·.1) e).symm)
        simp [hy, this]
      · simp [hy]
  · rw [if_neg hx, if_neg hx]
    by_cases hf : x.2.1 = f
    · rw [if_pos hf]
      have hk : keyT x.2 ∈ A.map keyT ↔ keyT x.2 ∈ D.map keyT := by
        constructor
        · intro hm
          obtain ⟨y, hy, e⟩ := List.mem_map.1 hm
          exact List.mem_map.2 ⟨y, (List.mem_filter.1 (h.mem_iff.1 hy)).1, e⟩
        · intro hm
          obtain ⟨y, hy, e⟩ := List.mem_map.1 hm
          refine List.mem_map.2 ⟨y, h.mem_iff.2 (List.mem_filter.2 ⟨hy, ?_⟩), e⟩
          exact decide_eq_true (by rw [← hf]; exact congrArg (·.1) e)
      by_cases hc : okT x.2 ∧ keyT x.2 ∉ D.map keyT
      · rw [if_pos hc, if_pos ⟨hc.1, fun hh => hc.2 (hk.1 hh)⟩, List.filter_append]
        have : [x.2].filter (pOf f) = [x.2] := by simp [pOf, hf]
        rw [this]
        exact h.append_right _
      · rw [if_neg hc, if_neg fun hh => hc ⟨hh.1, fun h2 => hh.2 (hk.2 h2)⟩]
        exact h
    · rw [if_neg hf]
      split
      · rw [List.filter_append]
        have : [x.2].filter (pOf f) = [] := by simp [pOf, hf]
        rw [this, List.append_nil]
        exact h
      · exact h
theorem stepM.len {x : Bool × TR} (h : stepM cap m m' x) : m'.length ≤ m.length + 1 := by
  unfold stepM at h
  split at h
  · rw [h]; exact Nat.le_succ_of_le (endM_len _)
  · exact h.len.1
theorem sumQ_told {f : Int} {v : Value} (h : sumQ m f v) {D : List TkT} (hs : SrtT D) (hp : D.Perm ((m.map (·.2.1)).filter (pOf f))) : v = a4V (sumF zA (D.map (·.2.2.2))) := by
  obtain ⟨D1, hp1, hw1, rfl⟩ := h
  have h1 := hp1.trans hp.symm
  have hs1 : SrtT D1 := by
    refine srt_nd hw1 ((h1.map keyT).nodup_iff.2 ?_)
    exact List.pairwise_map.2 (hs.imp fun h => lexT_ne h)
  rw [srt_ext hs1 hs h1]
theorem filter_same {D : List TkT} {f : Int} (h : ∀ t ∈ D, t.1 = f) : D.filter (pOf f) = D := List.filter_eq_self.2 fun t ht => decide_eq_true (h t ht)
theorem law5 {acts : List (Bool × TR)} {a : Option Addr} {n c : Nat} (f : Int) (w : World) (har : AR w acts a n c) : Ret Try.prog 5 #[.slice a n c, .int .i64 f] w (.bool true) := by
  intro R hR
  refine f5_calls a n c f w R ?_
  unfold f5_vc
  have hn := har.sl.len_le
  have hl0 := har.sl.1
  refine at_callq (At.refl w) (c20 w har) fun v w2 hA _ hb2 ⟨b, e, hfew⟩ => ?_
  subst e
  refine ⟨_, rfl, brNB (fun _ => leaf hR hA rfl) (fun hb => ?_)⟩
  have hfew := hfew hb
  refine at_callq hA (c21 1000 w2) fun v w5 hA _ hb5 hq => ?_
  rcases hq with ⟨hlt, _⟩ | ⟨hc1, g1, r1, e, ht1, hg1, hr1⟩
  · exact absurd hlt (by decide)
  subst e
  refine ⟨_, rfl, ?_⟩
  refine at_callq hA (c21 1000 w5) fun v w8 hA _ hb8 hq => ?_
  rcases hq with ⟨hlt, _⟩ | ⟨hc2, g2, r2, e, ht2, hg2, hr2⟩
  · exact absurd hlt (by decide)
  subst e
  have hne : r1 ≠ r2 := by have := ht1.rlt; omega
  have hs2 := hb2.size
  have hs5 := hb5.size
  have hr1w : w.heap.size ≤ r1 := by omega
  have hr2w : w.heap.size ≤ r2 := by omega
  refine ⟨_, rfl, fun v W' => At w [] W' ∧ ∃ (i : Nat) (mD mA : List (KyT × TR)), v.1 = i ∧ i ≤ acts.length ∧ TbS W' g1 r1 1000 mD ∧ TbS W' g2 r2 1000 mA ∧ mD.length ≤ i ∧ mA.length ≤ i ∧ (mA.map (·.2.1)).Perm ((mD.map (·.2.1)).filter (pOf f)), fun v _ => (n - v.1).toNat, ⟨hA, 0, [], [], rfl, Nat.zero_le _, ht1.call hb8, ht2, Nat.le_refl _, Nat.le_refl _, List.Perm.refl _⟩, ?_⟩
  rintro x12 w13 ⟨hA, i, mD, mA, hi, hil, ht1, ht2, hlD, hlA, hrel⟩
  simp only at hi
  subst hi
  refine brD (fun hlt => ?_) (fun hge => ?_)
  · obtain ⟨x, hx⟩ : ∃ x, acts[i]? = some x := ⟨_, List.getElem?_eq_getElem (by omega)⟩
    have hsz := hA.size
    have har10 := har.keep (KeepC.of_bel hA.below)
    obtain ⟨ad, gv1, el⟩ := at_act har10 hx
    refine ⟨fun _ W' => At w [] W' ∧ ∃ mD' mA' : List (KyT × TR), TbS W' g1 r1 1000 mD' ∧ TbS W' g2 r2 1000 mA' ∧ mD'.length ≤ i + 1 ∧ mA'.length ≤ i + 1 ∧ (mA'.map (·.2.1)).Perm ((mD'.map (·.2.1)).filter (pOf f)), ⟨ad, gv1, _, _, _, _, _, _, (el.sub (o := 1) (by decide)).agg 4 (by kernel_rfl) (by kernel_rfl) (by simp) (by simp), fun n22 hn22 => ⟨fun _ W' => At w [n22] W' ∧ ∃ mD' : List (KyT × TR), TbS W' g1 r1 1000 mD' ∧ TbS W' g2 r2 1000 mA ∧ stepM 1000 mD mD' x, ⟨ad, gv1, _, el.one (by kernel_rfl) (el.far (by simpa using hn22)), brB (fun hend w26 hev hu => ?_) (fun hlau w36 hev hu => ?_)⟩, ?_⟩⟩, ?_⟩
    · have hA := hA.evo (by simp; omega) hev hu
      have hb := hev.bel (by simpa using hn22)
      have hr22 : r1 ∉ [n22] := by have := ht1.rlt; simp; omega
      refine at_end hA (ht1.call hb) (.inl hr1w) hr22 x.2.1.1 x.2.1.2.1 fun v w20 hA hk hc kc ht hq => ?_
      obtain ⟨y5, y6, y7, s8, b11, e, _⟩ := getQ_shape hq
      subst e
      exact ⟨_, _, _, _, _, _, _, rfl, hk, hA, _, ht, tb_other (ht2.call hb) (ht1.call hb) (fun e => hne e.symm) hc, by unfold stepM; rw [if_pos hend]; rfl⟩
    · have hA := hA.evo (by simp; omega) hev hu
      have hb := hev.bel (by simpa using hn22)
      have hr22 : r1 ∉ [n22] := by have := ht1.rlt; simp; omega
      refine at_launch hA (ht1.call hb) (.inl hr1w) hr22 x.2 ((har10.vs x (List.mem_of_getElem? hx)).keep (KeepC.of_bel hb)) fun m' w38 hA hk hc kc ht hnx => ⟨_, rfl, hk, hA, m', ht, tb_other (ht2.call hb) (ht1.call hb) (fun e => hne e.symm) hc, ?_⟩
      unfold stepM
      rw [if_neg (by rw [hlau]; decide)]
      exact hnx
    · rintro w40 ⟨hA, mD', ht1', ht2', hstep⟩
      have har40 := har.keep (KeepC.of_bel hA.below)
      obtain ⟨ad, gv1, el⟩ := at_act har40 hx
      have hD' := step_D ht1 (by omega) hstep
      have hDl := hstep.len
      have hr22 : r2 ∉ [n22] := by have := ht2.rlt; simp; omega
      have fin : ∀ {W' : World} {mA' : List (KyT × TR)}, At w [n22] W' → TbS W' g1 r1 1000 mD' → TbS W' g2 r2 1000 mA' → (x.2.1.1 = f → stepM 1000 mA mA' x) → (x.2.1.1 ≠ f → mA' = mA) → At w [] W' ∧ ∃ mD' mA' : List (KyT × TR), TbS W' g1 r1 1000 mD' ∧ TbS W' g2 r2 1000 mA' ∧ mD'.length ≤ i + 1 ∧ mA'.length ≤ i + 1 ∧ (mA'.map (·.2.1)).Perm ((mD'.map (·.2.1)).filter (pOf f)) := by
        intro W' mA' hA h1 h2 hy hno
        refine ⟨hA.sub (by simp), mD', mA', h1, h2, by omega, ?_, ?_⟩
        · by_cases hf : x.2.1.1 = f
          · have := (hy hf).len; omega
          · rw [hno hf]; omega
        · rw [hD']
          have := stepL_rel (x.1, x.2.1) hrel
          by_cases hf : x.2.1.1 = f
          · rw [if_pos hf] at this
            rw [step_D ht2 (by omega) (hy hf)]
            exact this
          · rw [if_neg hf] at this
            rw [hno hf]
            exact this
      refine brE (fun hf => ⟨ad, gv1, _, el.one (by kernel_rfl) (by simp), brB (fun hend => ?_) (fun hlau => brE (fun _ => ?_) (fun hh => absurd hf hh))⟩) (fun hf => brE (fun hh => absurd hh hf) (fun _ => ?_))
      · refine at_end hA ht2' (.inl hr2w) hr22 x.2.1.1 x.2.1.2.1 fun v w20 hA hk hc kc ht hq => ?_
        obtain ⟨y5, y6, y7, s8, b11, e, _⟩ := getQ_shape hq
        subst e
        exact ⟨_, _, _, _, _, _, _, rfl, hk, fin hA (tb_other ht1' ht2' hne hc) ht (fun _ => by unfold stepM; rw [if_pos hend]; rfl) (fun hh => absurd hf hh)⟩
      · refine at_launch hA ht2' (.inl hr2w) hr22 x.2 (har40.vs x (List.mem_of_getElem? hx)) fun m' w38 hA hk hc kc ht hnx => ⟨_, rfl, hk, fin hA (tb_other ht1' ht2' hne hc) ht (fun _ => ?_) (fun hh => absurd hf hh)⟩
        unfold stepM
        rw [if_neg (by rw [hlau]; decide)]
        exact hnx
      · exact fin hA ht1' ht2' (fun hh => absurd hh hf) (fun _ => rfl)
    · rintro w58 ⟨hA, mD', mA', h1, h2, h3, h4, h5⟩
      rw [succ_i i (by omega)]
      exact ⟨⟨hA, i + 1, mD', mA', rfl, by omega, h1, h2, h3, h4, h5⟩, by simp only; omega⟩
  · refine opw_allocS (zv := .agg #[.int .i64 0, .map none]) ([.int .i64 0, .map none] : List Value) (by kernel_rfl) (by kernel_rfl) hA fun gp w60 hgp hA hk hb60 hblk => ⟨_, rfl, ?_⟩
    have hA0 := hA
    have hno : NoT w60 (some ⟨gp, 0, none⟩) := .inr ⟨gp, 0, rfl, hblk⟩
    refine opw_litL (e' := 73) (f := partE) (size := 3) (l := ([(0, 0, 1)] : List PartT)) hA rfl (fun _ _ => rfl) (by decide) (by kernel_rfl) fun gv w63 _ hA _ hb63 ho => ⟨_, _, _, rfl, ?_⟩
    have hv : SlE w63 3 partE ([(0, 0, 1)] : List PartT) (some ⟨gv, 0, none⟩) 1 1 := ho.sl fun _ _ => rfl
    intro n67 hn67 w68 hev hu
    have hs60 := hA0.size
    have hs63 := hb63.size
    have hb68 := hev.bel (by simpa using hn67)
    have hA68 := hA.evo (by simp; omega) hev hu
    have hb6068 := hb63.trans hb68
    have n0 : NoT w68 none := .inl rfl
    refine at_callb hA68 (c26n 1 1 (hno.call hb6068)) fun w70 hA hk70 hb70 => ⟨_, _, _, _, _, _, _, rfl, hk70, fun n78 hn78 w79 hev hu => ?_⟩
    have hs70 := hA.size
    have hb79 := hev.bel (by simpa using hn78)
    have hA := hA.evo (by simp; omega) hev hu
    have hb1379 : Bel w13 w79 := (hb60.trans hb6068).trans (hb70.trans hb79)
    have ht1a := ht1.call hb1379
    refine at_callq hA (c33 f ht1a (by omega)) fun v w81 hA hk hb81 ⟨l1, a1, k1, e, ho1, hv1, hp1, hw1⟩ => ?_
    subst e
    refine ⟨_, _, _, rfl, hk, ?_⟩
    have ht2a := (ht2.call hb1379).call hb81
    refine at_callq hA (c31 ht2a (by omega)) fun v w86 hA hk hb86 ⟨l2, a2, k2, e, ho2, hv2, hp2, hw2⟩ => ?_
    subst e
    refine ⟨_, _, _, rfl, hk, ?_⟩
    have hs1 := told ht1a hp1 hw1
    have hs2 := told ht2a hp2 hw2
    have hp2' := hp2
    rw [filter_all'] at hp2'
    have hDD : l1.map (·.1) = l2.map (·.1) := srt_ext hs1 hs2 (hp1.trans (hrel.symm.trans hp2'.symm))
    have ho1 := ho1.call hb86
    have hr1 := ho1.sl fun _ _ => rfl
    have hr2 := ho2.sl fun _ _ => rfl
    refine at_callb hA (c25 w86 ⟨hr1, fun z hz => (hv1 z hz).1.keep (KeepC.of_bel hb86)⟩ ⟨hr2, fun z hz => (hv2 z hz).1⟩) fun w91 hA hk hb91 => ⟨_, rfl, hk, brB (fun _ => ?_) (fun hh => absurd hDD (of_decide_eq_false hh))⟩
    have ht1b := (ht1a.call hb81).call (hb86.trans hb91)
    refine at_callq hA (c36 f ht1b (by omega)) fun v w94 hA hk hb94 hq => ?_
    have e1 := sumQ_told hq hs1 hp1
    subst e1
    refine ⟨_, _, _, _, rfl, hk, ?_⟩
    have ht2b := ht2a.call ((hb86.trans hb91).trans hb94)
    refine at_callq hA (c36 f ht2b (by omega)) fun v w100 hA hk hb100 hq => ?_
    have hall : ∀ t ∈ mA.map (·.2.1), t.1 = f := fun t ht => by
      have := (List.mem_filter.1 (hrel.mem_iff.1 ht)).2
      exact of_decide_eq_true this
    have e2 := sumQ_told hq hs1 (by rw [hDD, filter_same hall]; exact hp2')
    subst e2
    refine ⟨_, _, _, _, rfl, hk, brB (fun _ => ?_) (fun hh => by simp at hh)⟩
    have hb63100 : Bel w63 w100 := (((hb68.trans hb70).trans hb79).trans (hb81.trans hb86)).trans ((hb91.trans hb94).trans hb100)
    have hvx : VecR w100 ((1, 1, 1, [(0, 0, 1)]), (some ⟨gv, 0, none⟩, 1, 1)) := VecR.keep hv (KeepC.of_bel hb63100)
    refine at_callb hA (c30n (t := none) ((1, 1, 1, [(0, 0, 1)]), (some ⟨gv, 0, none⟩, 1, 1)) (.inl rfl)) fun w106 hA hk hb106 => ⟨_, rfl, hk, brE (fun _ => ?_) (fun hh => absurd rfl hh)⟩
    have hno2 := hno.call ((hb63.trans hb63100).trans hb106)
    refine at_callb hA (c30n ((1, 1, 1, [(0, 0, 1)]), (some ⟨gv, 0, none⟩, 1, 1)) hno2) fun w109 hA hk hb109 => ⟨_, rfl, hk, brE (fun _ => brNB (fun _ => ?_) (fun hh => by cases hh)) (fun hh => absurd rfl hh)⟩
    refine at_callb hA (c32n (t := none) (.inl rfl)) fun w112 hA hk hb112 => ⟨_, rfl, hk, brE (fun _ => ?_) (fun hh => absurd rfl hh)⟩
    refine at_callb hA (c36n (t := none) 1 (.inl rfl)) fun w115 hA hk hb115 => ⟨_, _, _, _, rfl, hk, brB (fun _ => ?_) (fun hh => by cases hh)⟩
    exact at_callb hA (c22 w115) fun w121 hA hk _ => ⟨_, rfl, hk, leaf hR hA rfl⟩
end Go.Vc.J

/- The law of what tasks there are. -/
set_option maxRecDepth 20000
set_option maxHeartbeats 1000000
namespace Go.Vc.J
open Go Go.Vc Go.Vc.V Go.RowKit Go.Proofs Vct

variable {w W W' W2 : World} {M N : Nat → Prop} {gs ds : List Nat} {g r : Nat} {cap : Int} {m m' : List (KyT × TR)}

theorem c30f (x : TR) (h : TbS W g r cap m) (hx : VecR W x) : RetF Try.prog 30 #[ptr g, trV x] W (fun b => b = r) fun v W' => v = .int .i64 (launchE cap m x.1) ∧ KeepC W W' ∧ (launchE cap m x.1 ≠ 0 → TbS W' g r cap m) ∧ (launchE cap m x.1 = 0 → ∃ s : Sl3, TbS W' g r cap (mset (keyT x.1) (x.1, s) m) ∧ ∀ b, s.1 = some b → W.heap.size ≤ b.block) := by
  intro R hR
  obtain ⟨⟨fr, id, ag, vec⟩, sa, sn, sc⟩ := x
  simp only at hR
  refine f30_calls _ fr id ag sa sn sc W R ?_
  unfold f30_vc
  have h0 := h
  have hgW := h0.glt
  have hrW := h0.rlt
  have hx : SlE W 3 partE vec sa sn sc := hx
  have hn := hx.1
  intro n1 hn1 w2 hb2 hu2
  have hA : At W [n1] w2 := ⟨((At.refl W).call hb2).chg, hu2⟩
  refine at_callq hA (c24 fr id (h.call hb2)) fun v w4 hA hk hb4 hq => ?_
  have hb04 := hb2.trans hb4
  have hs04 := hb04.size
  have stay : ∀ {e : Int} {gs W'}, launchE cap m (fr, id, ag, vec) = e → e ≠ 0 → At W gs W' → R (.returned (.int .i64 e)) W' := fun he hne hA => by
    rw [he] at hR
    exact hR _ _ (Chg.of_below hA.below) ⟨rfl, KeepC.of_bel hA.below, fun _ => h0.call hA.below, fun e0 => absurd e0 hne⟩
  obtain ⟨y5, y6, y7, s8, b11, e, hb11⟩ := getQ_shape hq
  subst e
  refine ⟨_, _, _, _, _, _, _, rfl, hk, ?_⟩
  · intro n12 hn12 w13 hev hu
    have hb13 := hev.bel (by simpa using hn12)
    have hA : At W [n1, n12] w13 := ⟨(hA.call hb13).chg, hu⟩
    have h := h0.call hA.below
    have nok : ¬ okT (fr, id, ag, vec) → launchE cap m (fr, id, ag, vec) = 41 := fun hh => if_pos hh
    refine at_callb hA (c81 h) fun w15 hA hk hb15 => ⟨_, rfl, hk, brNB (fun e => by cases e) (fun _ => ?_)⟩
    refine brD (fun h1 => stay (nok fun hh => by have := hh.1; simp only at this; omega) (by decide) hA) (fun h1 => brD (fun h2 => stay (nok fun hh => by have := hh.2.1; simp only at this; omega) (by decide) hA) (fun h2 => brD (fun h3 => stay (nok fun hh => by have := hh.2.2.1; simp only at this; omega) (by decide) hA) (fun h3 => brE (fun h4 => stay (nok fun hh => hh.2.2.2.1 (List.eq_nil_of_length_eq_zero (show vec.length = 0 by omega))) (by decide) hA) (fun h4 => ?_))))
    refine at_callb hA (c17 w15 (sle_keepC hx (KeepC.of_bel hA.below))) fun w18 hA hk hb18 => ⟨_, rfl, hk, brNB (fun h5 => stay (nok fun hh => by have := hh.2.2.2.2; rw [h5] at this; cases this) (by decide) hA) (fun h5 => ?_)⟩
    have hok : okT (fr, id, ag, vec) := ⟨by simp only; omega, by simp only; omega, by simp only; omega, fun e => h4 (by have e : vec = [] := e; rw [hn, e]; rfl), h5⟩
    have hlen := vec_len' h5
    refine ⟨fun e => stay (by unfold launchE; rw [if_neg (fun hh => hh hok), if_pos (by rw [show keyT (fr, id, ag, vec) = (fr, id) from rfl, ← hb11, e])]) (by decide) hA, fun e => ?_⟩
    have hnone : ¬ (mget (keyT (fr, id, ag, vec)) m).isSome = true := fun hh => by rw [show keyT (fr, id, ag, vec) = (fr, id) from rfl, ← hb11, e] at hh; cases hh
    have h := h0.call hA.below
    refine ⟨_, rfl, _, h.rdM nod, _, reads_lenM (kt := 40) (et := 48) (by kernel_rfl) h.mp nod, _, rfl, _, h.rdC nod, brD (fun hge w25 hb hu => stay (by unfold launchE; rw [if_neg (fun hh => hh hok), if_neg hnone, if_pos (by omega)]) (by decide) (gs := [n1, n12]) ⟨(hA.call hb).chg, hu⟩) (fun hlt w26 hb26 hu => ?_)⟩
    have hA : At W [n1, n12] w26 := ⟨(hA.call hb26).chg, hu⟩
    have h := h0.call hA.below
    refine at_calll hA (c79 w26 (sle_keepC hx (KeepC.of_bel hA.below)) (by omega)) (fun _ _ => rfl) fun a c w28 hA hk hb28 ho hs => ⟨_, _, _, rfl, hk, ?_⟩
    have h := h0.call hA.below
    refine ⟨_, rfl, _, h.rdM (by intro d hd; simp at hd; omega), fun w34 hev hu => ?_⟩
    have hA4 := hA.evo (by intro d hd; simp at hd; omega) hev hu
    have ho := ho.evo (by intro d hd hd2; simp at hd hd2; omega) hev
    have h := h0.call hA4.below
    have hAr : AtF W (fun b => b = r) [n1, n12] w34 := ⟨Chg.of_below hA4.below, hu⟩
    have he0 : launchE cap m (fr, id, ag, vec) = 0 := by unfold launchE; rw [if_neg (fun hh => hh hok), if_neg hnone, if_neg (by omega)]
    refine opw_mapUpdate (κ := KyT) (α := TR) (kf := keyV) (vf := trV) (kt := 40) (et := 48) (k := (fr, id)) (v := ((fr, id, ag, vec), (a, vec.length, c))) keyOk_k (by kernel_rfl) hAr (h.at (w := W) (gs := [n1, n12]) (.inr rfl) (by simp; omega)) fun w36 hA6 hk hc hm => ⟨hk, ?_⟩
    have kc := (KeepC.of_bel hA4.below).trans (h.kc hc)
    rw [he0] at hR
    refine hR _ _ hA6.chg ⟨rfl, kc, fun e => absurd rfl e, fun _ => ⟨(a, vec.length, c), ?_, fun b hb => ?_⟩⟩
    · exact h0.set (x := ((fr, id, ag, vec), (a, vec.length, c))) ((hc.block g h.glt h.ne).trans (hA4.below.block hgW)) kc hm (sle_keepC (ho.sl fun _ _ => rfl) (h.kc hc)) hok
    · by_cases h0 : 0 < vec.length
      · obtain ⟨g', cur, e, _⟩ := ho.ptr h0
        rw [show a = some b from hb] at e
        cases e
        have := ho.mine g' (by rw [show a = some _ from hb]; rfl)
        simpa using this
      · exact absurd (List.eq_nil_of_length_eq_zero (by omega)) hok.2.2.2.1

def nextF (W : World) (cap : Int) (m m' : List (KyT × TR)) (t : TkT) : Prop := (launchE cap m t ≠ 0 ∧ m' = m) ∨ (launchE cap m t = 0 ∧ ∃ s : Sl3, m' = mset (keyT t) (t, s) m ∧ ∀ b, s.1 = some b → W.heap.size ≤ b.block)
theorem at_launchF {K : Ending → World → Prop} (hA : AtF w M gs W) (h : TbS W g r cap m) (hr : w.heap.size ≤ r ∨ M r) (hgs : r ∉ gs) (x : TR) (hx : VecR W x)
    (hK : ∀ m' w', AtF w M gs w' → Keeps gs W w' → Chg (fun b => b = r) W w' → KeepC W w' → TbS w' g r cap m' → nextF W cap m m' x.1 → K (.returned (.int .i64 (launchE cap m x.1))) w') : Calls Try.prog 30 #[ptr g, trV x] W K :=
  at_callF hA (c30f x h hx) (fun _ _ e => e ▸ hr) (fun _ hb e => hgs (e ▸ hb)) fun v w' hA' hk hch ⟨e, kc, h1, h2⟩ => by
    subst e
    by_cases h0 : launchE cap m x.1 = 0
    · obtain ⟨s, hs, hf⟩ := h2 h0
      exact hK _ w' hA' hk hch kc hs (.inr ⟨h0, s, rfl, hf⟩)
    · exact hK _ w' hA' hk hch kc (h1 h0) (.inl ⟨h0, rfl⟩)
/-- No vector of the table lies in the block. -/
def NoV (n : Nat) (m : List (KyT × TR)) : Prop := ∀ x ∈ m, ∀ b, x.2.2.1 = some b → b.block ≠ n
theorem NoV.next {n : Nat} {t : TkT} (h : NoV n m) (hn : n < W.heap.size) (hx : nextF W cap m m' t) : NoV n m' := by
  rcases hx with ⟨_, rfl⟩ | ⟨_, s, rfl, hs⟩
  · exact h
  · intro x hx b hb
    rcases mem_mset hx with rfl | hx
    · have := hs b hb; omega
    · exact h x hx b hb
theorem NoV.end {n : Nat} (h : NoV n m) (k : KyT) : NoV n (endM m k) := by
  unfold endM
  split
  · exact h
  · exact fun x hx => h x (mem_mdel hx)
theorem TbS.evo1 {n : Nat} (h : TbS W g r cap m) (hg : g ≠ n) (hr : r ≠ n) (hv : NoV n m) (hev : Evo [n] W W') : TbS W' g r cap m := by
  have hc : Chg (fun b => b = n) W W' := (Chg.of_evo hev).mono fun b _ hb => List.mem_singleton.1 hb
  exact ⟨(hc.block g h.glt hg).trans h.tb, OwnM.re h.mp (hc.block r h.rlt hr) (.inr rfl) (by simp), h.nd, h.ks, fun x hx => sle_chg (h.vs x hx) hc (hv x hx), h.ok, h.cap1⟩
theorem nextF.len {t : TkT} (h : nextF W cap m m' t) : m'.length ≤ m.length + 1 := by
  rcases h with ⟨_, rfl⟩ | ⟨h0, s, rfl, _⟩
  · exact Nat.le_succ _
  · obtain ⟨h1, _, _⟩ := launch_none h0
    rw [mset_fresh h1, List.length_append, List.length_singleton]
    exact Nat.le_refl _
theorem Both.nx {L : List TR} (h : Both m L) (x : TR) (hx : nextF W cap m m' x.1) : Both m' (if refE cap L x.1 = 0 then insF x L else L) := by
  rw [← h.launch_eq]
  rcases hx with ⟨h0, rfl⟩ | ⟨h0, s, rfl, _⟩
  · rw [if_neg h0]; exact h
  · rw [if_pos h0]; exact h.put (launch_none h0).1
theorem Both.en {L : List TR} (h : Both m L) (f i : Int) : Both (endM m (f, i)) (L.filter fun x => !isK f i x) := by
  unfold endM
  cases hx : mget (f, i) m with
  | none => rw [h.stay hx]; exact h
  | some y => exact h.del f i
theorem Both.is {L : List TR} (h : Both m L) (f i : Int) : decide (0 ≤ ixP (isK f i) L 0) = (mget (f, i) m).isSome := by
  cases hx : mget (f, i) m with
  | none => rw [(h.none hx).1]; rfl
  | some y =>
    obtain ⟨j, z, h1, _⟩ := h.some hx
    rw [h1]
    exact decide_eq_true (by omega)
theorem Both.told {L l : List TR} {p : TkT → Bool} (h : Both m L) (ht : TbS W g r cap m) (hp : (l.map (·.1)).Perm ((m.map (·.2.1)).filter p)) (hw : l.Pairwise fun x y => ¬ lexT y.1 x.1) : l.map (·.1) = (L.map (·.1)).filter p :=
  srt_ext (Go.Vc.J.told ht hp hw) (srt_filter h.srt) (hp.trans (h.perm.filter p))
theorem Both.ok {L : List TR} (h : Both m L) (ht : TbS W g r cap m) : ∀ x ∈ L, okT x.1 := fun x hx => by
  obtain ⟨y, hy, e⟩ := List.mem_map.1 (h.perm.mem_iff.2 (List.mem_map.2 ⟨x, hx, rfl⟩))
  rw [← e]
  exact ht.ok y hy
end Go.Vc.J

/- The law of what tasks there are: the walk. -/
set_option maxRecDepth 20000
set_option maxHeartbeats 2000000
namespace Go.Vc.J
open Go Go.Vc Go.Vc.V Go.RowKit Go.Proofs Vct

variable {w W W' W2 : World} {M N : Nat → Prop} {gs ds : List Nat} {g r : Nat} {cap : Int} {m m' : List (KyT × TR)}

/-- What is there, at the loop's head. -/
structure At4 (w : World) (n13 g r : Nat) (cap : Int) (m : List (KyT × TR)) (L : List TR) (a : Option Addr) (n c : Nat) (W : World) : Prop where
  tb : TbS W g r cap m
  nv : NoV n13 m
  own : OwnL w [n13] W 48 4 trE (.slice a n c) L
  vs : ∀ x ∈ L, VecR w x
  bo : Both m L
theorem At4.call {n13 : Nat} {L : List TR} {a : Option Addr} {n c : Nat} (h : At4 w n13 g r cap m L a n c W) (hb : Bel W W') : At4 w n13 g r cap m L a n c W' :=
  ⟨h.tb.call hb, h.nv, h.own.call hb, h.vs, h.bo⟩
theorem At4.mr {n13 : Nat} {L : List TR} {a : Option Addr} {n c : Nat} (h : At4 w n13 g r cap m L a n c W) (hb : Bel w W) : MR W L a n c :=
  ⟨h.own.sl fun _ _ => rfl, fun x hx => (h.vs x hx).keep (KeepC.of_bel hb)⟩
theorem getQ_ok {k : KyT} {v : Value} (h : getQ W m k v W') : ∃ X : TR, v = .tuple #[trV X, .bool (mget k m).isSome] ∧ (∀ y, mget k m = some y → X.1 = y.1 ∧ VecR W' X) ∧ (mget k m = none → X = ((0, 0, 0, []), (none, 0, 0))) := by
  unfold getQ at h
  cases hx : mget k m with
  | none =>
    rw [hx] at h
    exact ⟨((0, 0, 0, []), (none, 0, 0)), h, fun y e => (by cases e), fun _ => rfl⟩
  | some y =>
    rw [hx] at h
    obtain ⟨s, e, hv, _⟩ := h
    exact ⟨(y.1, s), e, fun z e => by cases e; exact ⟨rfl, hv⟩, fun e => by cases e⟩
theorem law4 {acts : List (Bool × TR)} {a : Option Addr} {n c : Nat} (cap id0 id1 : Int) (w : World) (har : AR w acts a n c) : Ret Try.prog 4 #[.int .i64 cap, .slice a n c, .agg #[.int .i64 id0, .int .i64 id1]] w (.bool true) := by
  intro R hR
  refine f4_calls cap a n c id0 id1 w R ?_
  unfold f4_vc
  have hn := har.sl.len_le
  have hl0 := har.sl.1
  intro n1 hn1 w2 hb2 hu2
  have hA : At w [n1] w2 := ⟨((At.refl w).call hb2).chg, hu2⟩
  refine at_callq hA (c20 w2 (har.keep (KeepC.of_bel hb2))) fun v w4 hA hk hb4 ⟨b, e, hfew⟩ => ?_
  subst e
  refine ⟨_, rfl, hk, brNB (fun _ => leaf hR hA rfl) (fun hb => ?_)⟩
  have hfew := hfew hb
  refine at_callq hA (c21 cap w4) fun v w7 hA hk hb7 hq => ?_
  rcases hq with ⟨hlt, e⟩ | ⟨hc1, g, r, e, ht, hg, hr⟩
  · subst e
    refine ⟨_, rfl, hk, brD (fun _ => ⟨true, (fun W => rfl), brB (fun _ => at_callb hA (c22 w7) fun w11 hA hk _ => ⟨_, rfl, hk, leaf hR hA rfl⟩) (fun e => by cases e)⟩) (fun hh => absurd hlt hh)⟩
  subst e
  refine ⟨_, rfl, hk, brD (fun hh => by omega) (fun _ n13 hn13 => ?_)⟩
  have hs4 := (hb2.trans hb4).size
  have hs7 := hb7.size
  have hgw : w.heap.size ≤ g := by omega
  have hrw : w.heap.size ≤ r := by omega
  have hg13 : g ≠ n13 := by have := ht.glt; omega
  have hr13 : r ≠ n13 := by have := ht.rlt; omega
  have hw13 : w.heap.size ≤ n13 := by omega
  have hA7 := hA
  refine ⟨fun v W' => At w [n1, n13] W' ∧ ∃ (m : List (KyT × TR)) (L : List TR), v.1 = cap ∧ At4 w n13 g r cap m L v.2.1.1 v.2.1.2.1 v.2.1.2.2 W' ∧ m.length ≤ 100, ⟨fun v W' => At w [n1, n13] W' ∧ ∃ (i : Nat) (m : List (KyT × TR)) (L : List TR), v.1 = i ∧ i ≤ acts.length ∧ v.2.1 = cap ∧ At4 w n13 g r cap m L v.2.2.1.1 v.2.2.1.2.1 v.2.2.1.2.2 W' ∧ m.length ≤ i, fun v _ => (n - v.1).toNat, ?_, ?_⟩, ?_⟩
  · intro w17 hev hu
    have hb := hev.bel (by simpa using hn13)
    exact ⟨hA7.evo (by simp; omega) hev hu, 0, [], [], rfl, Nat.zero_le _, rfl, ⟨ht.call hb, (fun _ h => by cases h), OwnL.nil, (fun _ h => by cases h), ⟨List.Perm.refl _, List.Pairwise.nil, (fun _ h => by cases h), List.nodup_nil⟩⟩, Nat.le_refl _⟩
  · rintro x18 x19 a20 n21 n22 w23 ⟨hA, i, m, L, hi, hil, hcap, h4, hmi⟩
    simp only at hi hcap h4
    subst hi hcap
    refine brD (fun hlt => ?_) (fun hge => ⟨hA, m, L, rfl, h4, by omega⟩)
    obtain ⟨x, hx⟩ : ∃ x, acts[i]? = some x := ⟨_, List.getElem?_eq_getElem (by omega)⟩
    have hxm := List.mem_of_getElem? hx
    have har23 := har.keep (KeepC.of_bel hA.below)
    obtain ⟨ad, gv1, el⟩ := at_act har23 hx
    have hs23 := hA.size
    have hu23 := hA.under
    have h13 : n13 < w23.heap.size := hA.under n13 (by simp)
    have hL1 : L.length = m.length := h4.bo.len.symm
    refine ⟨fun v W' => At w [n1, n13] W' ∧ ∃ (m : List (KyT × TR)) (L : List TR), v.1 = x19 ∧ At4 w n13 g r x19 m L v.2.1.1 v.2.1.2.1 v.2.1.2.2 W' ∧ m.length ≤ i + 1, ⟨ad, gv1, _, _, _, _, _, _, (el.sub (o := 1) (by decide)).agg 4 (by kernel_rfl) (by kernel_rfl) (by simp) (by simp), fun n32 hn32 w33 hev hu => ?_⟩, ?_⟩
    · have hb33 := hev.bel (by simpa using hn32)
      have hA := hA.evo (by simp; omega) hev hu
      have h433 := h4.call hb33
      refine at_callb hA (c23 x19 x.2.1.1 x.2.1.2.1 w33 (h433.mr hA.below).sl) fun w35 hA hk hb35 => ⟨_, rfl, hk, ?_⟩
      refine at_callq hA (c24 x.2.1.1 x.2.1.2.1 (h433.call hb35).tb) fun v w38 hA hk hb38 hq => ?_
      obtain ⟨X, e, hX, hXn⟩ := getQ_ok hq
      subst e
      refine ⟨_, _, _, _, _, _, _, rfl, hk, fun n46 hn46 => ?_⟩
      have hb2338 := (hb33.trans hb35).trans hb38
      have hs38 := hA.size
      have his := h4.bo.is x.2.1.1 x.2.1.2.1
      have hA38 := hA
      refine ⟨fun _ W' => At w [n1, n13, n32, n46] W' ∧ Bel w38 W', ⟨fun hh => ?_, fun _ => brB (fun hsome => ?_) (fun _ w61 hev hu => ⟨hA38.evo (by simp; omega) hev hu, hev.bel (by simpa using hn46)⟩)⟩, ?_⟩
      · rw [← his] at hh
        simp at hh
      · cases hmx : mget (x.2.1.1, x.2.1.2.1) m with
        | none => rw [hmx] at hsome; cases hsome
        | some y =>
          obtain ⟨hX1, hX2⟩ := hX y hmx
          obtain ⟨j, z, hj, hz, hzy, _⟩ := h4.bo.some hmx
          simp only at hj
          have hjL := (List.getElem?_eq_some_iff.1 hz).1
          obtain ⟨s1, gs1, r1⟩ := one_row h4.own hz
          rw [hj, succ_i j (by omega)]
          refine ⟨_, _, _, gs1, fun w52 hev hu => ?_⟩
          have hb52 := hev.bel (by simpa using hn46)
          have hA := hA38.evo (by simp; omega) hev hu
          refine opw_litL (e' := 48) (f := trE) (size := 4) (l := [X]) hA rfl (fun _ _ => rfl) (by decide) (by kernel_rfl) fun gv w54 _ hA hk hb54 ho => ⟨_, _, _, rfl, hk, ?_⟩
          have hb2354 := (hb2338.trans hb52).trans hb54
          have h454 := h4.call hb2354
          refine at_callb hA (c25 w54 ⟨ho.sl fun _ _ => rfl, fun q hq => by rw [List.mem_singleton] at hq; rw [hq]; exact hX2.keep (KeepC.of_bel (hb52.trans hb54))⟩ ⟨r1 _ (h454.mr hA.below).sl, fun q hq => by rw [List.mem_singleton] at hq; rw [hq]; exact (h454.mr hA.below).vs z (List.mem_of_getElem? hz)⟩) fun w59 hA hk hb59 => ⟨_, rfl, hk, brNB (fun hh => absurd (show [X].map (·.1) = [z].map (·.1) by simp [hX1, hzy]) (of_decide_eq_false hh)) (fun _ => ⟨hA, (hb52.trans hb54).trans hb59⟩)⟩
      · rintro w62 ⟨hA, hb62⟩
        have hb2362 := hb2338.trans hb62
        have h462 := h4.call hb2362
        have har62 := har.keep (KeepC.of_bel hA.below)
        obtain ⟨ad, gv1, el⟩ := at_act har62 hx
        have hs62 := hb62.size
        have hsz62 := hA.size
        have hr46 : r ∉ [n1, n13, n32, n46] := by
          have := h4.tb.rlt
          have := hb2338.size
          have h1 : n1 < w4.heap.size := by have := hA7.under n1 (by simp); exact Nat.lt_of_lt_of_le (hu2 n1 (by simp)) hb4.size
          simp only [List.mem_cons, List.not_mem_nil, or_false, not_or]
          omega
        refine ⟨ad, gv1, _, el.one (by kernel_rfl) (by simp), brB (fun hend => ?_) (fun hlau => ?_)⟩
        · refine at_end hA h462.tb (.inl hrw) hr46 x.2.1.1 x.2.1.2.1 fun v w66 hA hk hc kc ht hq => ?_
          obtain ⟨Z, e, hZ, hZn⟩ := getQ_ok hq
          subst e
          refine ⟨_, _, _, _, _, _, _, rfl, hk, fun n74 hn74 => ⟨fun hh => by simp at hh, fun _ w76 hev hu => ?_⟩⟩
          have hb76 := hev.bel (by simpa using hn74)
          have hs66 := hA.size
          have hA := hA.evo (by simp; omega) hev hu
          refine at_calll hA (c27 Z _ w76) (fun _ _ => rfl) fun a79 c81 w78 hA hk hb78 hoZ hsZ => ⟨_, _, _, rfl, hk, ?_⟩
          refine at_calll hA (c27 X _ w78) (fun _ _ => rfl) fun a84 c86 w83 hA hk hb83 hoX hsX => ⟨_, _, _, rfl, hk, ?_⟩
          have hvZ : ∀ q ∈ (if (mget (x.2.1.1, x.2.1.2.1) m).isSome = true then [Z] else []), VecR w83 q := fun q hq => by
            cases hmx : mget (x.2.1.1, x.2.1.2.1) m with
            | none => rw [hmx] at hq; cases hq
            | some y =>
              rw [hmx, Option.isSome_some, if_pos rfl, List.mem_singleton] at hq
              rw [hq]
              exact (hZ y hmx).2.keep (KeepC.of_bel ((hb76.trans hb78).trans hb83))
          have hvX : ∀ q ∈ (if (mget (x.2.1.1, x.2.1.2.1) m).isSome = true then [X] else []), VecR w83 q := fun q hq => by
            cases hmx : mget (x.2.1.1, x.2.1.2.1) m with
            | none => rw [hmx] at hq; cases hq
            | some y =>
              rw [hmx, Option.isSome_some, if_pos rfl, List.mem_singleton] at hq
              rw [hq]
              exact (((hX y hmx).2.keep (KeepC.of_bel hb62)).keep kc).keep (KeepC.of_bel ((hb76.trans hb78).trans hb83))
          have hsame : (if (mget (x.2.1.1, x.2.1.2.1) m).isSome = true then [Z] else []).map (·.1) = (if (mget (x.2.1.1, x.2.1.2.1) m).isSome = true then [X] else []).map (·.1) := by
            cases hmx : mget (x.2.1.1, x.2.1.2.1) m with
            | none => rfl
            | some y =>
              have e1 := (hZ y hmx).1
              have e2 := (hX y hmx).1
              simp [e1, e2]
          refine at_callb hA (c25 w83 ⟨(hoZ.call hb83).sl fun _ _ => rfl, hvZ⟩ ⟨hsX, hvX⟩) fun w88 hA hk hb88 => ⟨_, rfl, hk, brNB (fun hh => absurd hsame (of_decide_eq_false hh)) (fun _ => ?_)⟩
          have hb6688 := ((hb76.trans hb78).trans hb83).trans hb88
          have ho88 : OwnL w [n13] w88 48 4 trE (.slice a20 n21 n22) L := (own_map h462.own h462.tb hc).call hb6688
          refine at_callq hA (c28 x19 x.2.1.1 x.2.1.2.1 w88 (ho88.sl fun _ _ => rfl) (by omega)) fun v w91 hA hk hb91 ⟨a', c', e, ho'⟩ => ?_
          subst e
          refine ⟨_, _, _, _, rfl, hk, fun w96 hev hu => ?_⟩
          have hs88 := hA.size
          have h1388 : n13 < w88.heap.size := by
            have := hb2362.size
            have := hc.size
            have := hb6688.size
            omega
          have how : OwnL w [n13] w91 48 4 trE _ _ := ho'.base (w' := w) (M' := noB) (gs' := [n13]) (fun k hk => .inl (by have := ho'.mine k hk; simp only [noB, or_false] at this; omega)) (fun d hd he => by
            rw [List.mem_singleton] at hd
            subst hd
            have := ho'.mine _ he
            simp only [noB, or_false] at this
            omega)
          have hA96 := hA.evo (gs' := [n1, n13]) (by simp; omega) hev (fun q hq => hu q (by simp at hq ⊢; rcases hq with h | h <;> simp [h]))
          refine ⟨hA96, endM m (x.2.1.1, x.2.1.2.1), _, rfl, ⟨(ht.call (hb6688.trans hb91)).evo1 hg13 hr13 (h4.nv.end _) hev, h4.nv.end _, how.evo (by simp) hev, fun q hq => h4.vs q (List.mem_filter.1 hq).1, h4.bo.en _ _⟩, ?_⟩
          exact Nat.le_trans (endM_len _) (by omega)
        · refine at_callq hA (c29 x19 x.2 w62 (h462.mr hA.below).sl (har62.vs x hxm) (by omega)) fun v w98 hA hk hb98 hq => ?_
          obtain ⟨a', n', c', e, ho'⟩ : ∃ a' n' c', v = .tuple #[mV x19 a' n' c', .int .i64 (refE x19 L x.2.1)] ∧ OwnL w [n13] w98 48 4 trE (.slice a' n' c') (if refE x19 L x.2.1 = 0 then insF x.2 L else L) := by
            rcases hq with ⟨h0, e⟩ | ⟨h0, a', c', e, ho'⟩
            · exact ⟨_, _, _, e, by rw [if_neg h0]; exact h462.own.call hb98⟩
            · refine ⟨_, _, _, by rw [h0]; exact e, ?_⟩
              rw [if_pos h0]
              refine ho'.base (w' := w) (M' := noB) (gs' := [n13]) (fun k hk => .inl (by have := ho'.mine k hk; simp only [noB, or_false] at this; omega)) (fun d hd he => by
                rw [List.mem_singleton] at hd
                subst hd
                have h1 := ho'.mine _ he
                have := hb2362.size
                simp only [noB, or_false] at h1
                omega)
          subst e
          refine ⟨_, _, _, _, _, rfl, hk, fun n104 hn104 w105 hev hu => ?_⟩
          have hs98 := hA.size
          have hb105 := hev.bel (by simpa using hn104)
          have hA := hA.evo (by simp; omega) hev hu
          have hr104 : r ∉ [n1, n13, n32, n46, n104] := by
            have := h4.tb.rlt
            have := hb2362.size
            have := hb98.size
            simp only [List.mem_cons, List.not_mem_nil, or_false, not_or] at hr46 ⊢
            omega
          have hb98105 := hb98.trans hb105
          refine at_launchF hA (h462.tb.call hb98105) (.inl hrw) hr104 x.2 ((har62.vs x hxm).keep (KeepC.of_bel hb98105)) fun m' w107 hA hk hc kc ht hnx => ⟨_, rfl, hk, ⟨fun hh => ?_, fun _ w109 hev hu => ?_⟩⟩
          · rw [h4.bo.launch_eq] at hh
            simp at hh
          · have hA109 := hA.evo (gs' := [n1, n13]) (by simp; omega) hev (fun q hq => hu q (by simp at hq ⊢; rcases hq with h | h <;> simp [h]))
            have h13105 : n13 < w105.heap.size := by
              have := hb2362.size
              have := hb98105.size
              omega
            have hnv := h4.nv.next h13105 hnx
            refine ⟨hA109, m', _, rfl, ⟨ht.evo1 hg13 hr13 hnv hev, hnv, (own_map (ho'.call hb105) (h462.tb.call hb98105) hc).evo (by simp) hev, fun q hq => ?_, h4.bo.nx x.2 hnx⟩, ?_⟩
            · split at hq
              · rcases List.mem_cons.1 ((insF_perm x.2 L).mem_iff.1 hq) with rfl | hq
                · exact har.vs x hxm
                · exact h4.vs q hq
              · exact h4.vs q hq
            · exact Nat.le_trans hnx.len (by omega)
    · rintro x110 a111 n112 n113 w114 ⟨hA, m', L', h1, h2, h3⟩
      simp only at h1 h2
      subst h1
      rw [succ_i i (by omega)]
      exact ⟨⟨hA, i + 1, m', L', rfl, by omega, rfl, h2, h3⟩, by simp only; omega⟩
  · rintro x115 a116 n117 n118 w119 ⟨hA, m, L, h1, h4, hml⟩
    simp only at h1 h4
    subst h1
    have hn117 := h4.own.len
    have hLl := h4.bo.len
    have hok := h4.bo.ok h4.tb
    refine ⟨fun _ W' => At w [n1, n13] W' ∧ Bel w119 W', fun w121 hb121 hu => ?_, ?_⟩
    · have hA : At w [n1, n13] w121 := ⟨(hA.call hb121).chg, hu⟩
      have h4a := h4.call hb121
      refine at_callq hA (c31 h4a.tb (by omega)) fun v w123 hA hk hb123 ⟨l1, a1, k1, e, ho1, hv1, hp1, hw1⟩ => ?_
      subst e
      refine ⟨_, _, _, rfl, hk, ?_⟩
      have h4b := h4a.call hb123
      have hDD : l1.map (·.1) = L.map (·.1) := by rw [h4.bo.told h4a.tb hp1 hw1, filter_all']
      refine at_callb hA (c25 w123 ⟨ho1.sl fun _ _ => rfl, fun z hz => (hv1 z hz).1⟩ (h4b.mr hA.below)) fun w128 hA hk hb128 => ⟨_, rfl, hk, brNB (fun hh => absurd hDD (of_decide_eq_false hh)) (fun _ => ?_)⟩
      refine at_callb hA (c32 (h4b.call hb128).tb) fun w131 hA hk hb131 => ⟨_, rfl, hk, ⟨fun hh => ?_, fun _ => ⟨hA, ((hb121.trans hb123).trans hb128).trans hb131⟩⟩⟩
      rw [hn117, ← hLl] at hh
      simp at hh
    · rintro w133 ⟨hA, hb133⟩
      have h4c := h4.call hb133
      have zero : ∀ {R2 : Ending → World → Prop} {w133 : World}, At w [n1, n13] w133 → At4 w n13 g r x115 m L a116 n117 n118 w133 → (∀ {w140}, At w [n1, n13] w140 → R2 (.returned (.bool true)) w140) → Calls Try.prog 33 #[ptr g, .int .i64 0] w133 fun e134 w135 => ∃ a136 n137 n138, e134 = Ending.returned (Value.slice a136 n137 n138) ∧ Keeps [n1, n13] w133 w135 ∧ (((n137 : Int) == 0) = true → Calls Try.prog 22 #[] w135 fun e139 w140 => ∃ b141, e139 = Ending.returned (Value.bool b141) ∧ Keeps [n1, n13] w135 w140 ∧ R2 (Ending.returned (Value.bool b141)) w140) ∧ (((n137 : Int) == 0) = false → R2 (Ending.returned (Value.bool false)) w135) := by
        intro R2 w133 hA h4c hR2
        refine at_callq hA (c33 0 h4c.tb (by omega)) fun v w135 hA hk hb135 ⟨l1, a1, k1, e, ho1, hv1, hp1, hw1⟩ => ?_
        subst e
        have h0 : l1.map (·.1) = [] := by
          rw [h4.bo.told h4c.tb hp1 hw1, List.filter_eq_nil_iff]
          intro t ht hh
          obtain ⟨y, hy, rfl⟩ := List.mem_map.1 ht
          have := (hok y hy).1
          have := of_decide_eq_true hh
          omega
        have h1 : l1.length = 0 := by simpa using congrArg List.length h0
        refine ⟨_, _, _, rfl, hk, brE (fun _ => ?_) (fun hh => absurd (by omega) hh)⟩
        exact at_callb hA (c22 w135) fun w140 hA hk _ => ⟨_, rfl, hk, hR2 hA⟩
      have hRR : ∀ {w140}, At w [n1, n13] w140 → R (.returned (.bool true)) w140 := fun hA => leaf hR hA rfl
      refine brD (fun _ => zero hA h4c hRR) (fun hid0 => brD (fun _ => zero hA h4c hRR) (fun hid1 w150 hb150 hu => ?_))
      have hA : At w [n1, n13] w150 := ⟨(hA.call hb150).chg, hu⟩
      have h4d := h4c.call hb150
      refine at_callq hA (c33 id0 h4d.tb (by omega)) fun v w152 hA hk hb152 ⟨l1, a1, k1, e, ho1, hv1, hp1, hw1⟩ => ?_
      subst e
      refine ⟨_, _, _, rfl, hk, ?_⟩
      have h4e := h4d.call hb152
      refine at_calll hA (c34 x115 id0 0 w152 (h4e.mr hA.below).sl (by omega)) (fun _ _ => rfl) fun a158 c160 w157 hA hk hb157 ho2 hs2 => ⟨_, _, _, rfl, hk, ?_⟩
      have h4f := h4e.call hb157
      have hD1 : l1.map (·.1) = (L.filter fun x => decide (x.1.1 = id0 ∨ x.1.2.2.1 = 0)).map (·.1) := by
        rw [h4.bo.told h4d.tb hp1 hw1, List.filter_map]
        congr 1
        refine List.filter_congr fun y hy => ?_
        have := (hok y hy).2.2.1
        show decide (y.1.1 = id0) = decide (y.1.1 = id0 ∨ y.1.2.2.1 = 0)
        rw [decide_eq_decide]
        constructor
        · exact .inl
        · rintro (h | h)
          · exact h
          · omega
      refine at_callb hA (c25 w157 ⟨(ho1.call hb157).sl fun _ _ => rfl, fun z hz => (hv1 z hz).1.keep (KeepC.of_bel hb157)⟩ ⟨hs2, fun z hz => (h4f.mr hA.below).vs z (List.mem_filter.1 hz).1⟩) fun w162 hA hk hb162 => ⟨_, rfl, hk, brB (fun _ => ?_) (fun hh => absurd hD1 (of_decide_eq_false hh))⟩
      have h4g := h4f.call hb162
      refine at_callq hA (c35 id1 h4g.tb (by omega)) fun v w165 hA hk hb165 ⟨l3, a3, k3, e, ho3, hv3, hp3, hw3⟩ => ?_
      subst e
      refine ⟨_, _, _, rfl, hk, ?_⟩
      have h4h := h4g.call hb165
      refine at_calll hA (c34 x115 0 id1 w165 (h4h.mr hA.below).sl (by omega)) (fun _ _ => rfl) fun a171 c173 w170 hA hk hb170 ho4 hs4 => ⟨_, _, _, rfl, hk, ?_⟩
      have h4i := h4h.call hb170
      have hD3 : l3.map (·.1) = (L.filter fun x => decide (x.1.1 = 0 ∨ x.1.2.2.1 = id1)).map (·.1) := by
        rw [h4.bo.told h4g.tb hp3 hw3, List.filter_map]
        congr 1
        refine List.filter_congr fun y hy => ?_
        have := (hok y hy).1
        show decide (y.1.2.2.1 = id1) = decide (y.1.1 = 0 ∨ y.1.2.2.1 = id1)
        rw [decide_eq_decide]
        constructor
        · exact .inr
        · rintro (h | h)
          · omega
          · exact h
      refine at_callb hA (c25 w170 ⟨(ho3.call hb170).sl fun _ _ => rfl, fun z hz => (hv3 z hz).1.keep (KeepC.of_bel hb170)⟩ ⟨hs4, fun z hz => (h4i.mr hA.below).vs z (List.mem_filter.1 hz).1⟩) fun w175 hA hk hb175 => ⟨_, rfl, hk, brB (fun _ => ?_) (fun hh => absurd hD3 (of_decide_eq_false hh))⟩
      have h4j := h4i.call hb175
      refine at_callq hA (c36 id0 h4j.tb (by omega)) fun v w178 hA hk hb178 hq => ?_
      have e1 := sumQ_told hq (srt_filter (p := pOf id0) h4.bo.srt) (h4.bo.perm.symm.filter _)
      subst e1
      refine ⟨_, _, _, _, rfl, hk, ?_⟩
      have h4k := h4j.call hb178
      refine at_callb hA (c37 x115 id0 w178 (h4k.mr hA.below)) fun w184 hA hk hb184 => ⟨_, _, _, _, rfl, hk, brB (fun _ => ?_) (fun hh => by simp at hh)⟩
      exact at_callb hA (c22 w184) fun w190 hA hk _ => ⟨_, rfl, hk, leaf hR hA rfl⟩
end Go.Vc.J

