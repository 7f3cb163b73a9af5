/- Own texts of this claim, laid together: FU5, Tr4, Tr5, Tr6, TtArg, Tr7a, Tr7. -/
import Derived.Test.YtjpcmbaminjafaaMge36d5942
import Derived.Test.YtjpcmbaminjafaaProg

/- The formulas of functions, printed by a program (VcTool.lean): each is what the generator's formula comes to, by the kernel's reckoning; whoever proves one has the function's contract. -/
set_option maxRecDepth 100000
set_option maxHeartbeats 1000000
set_option linter.unusedVariables false
namespace Vcs
open Go Go.Vc Go.RowKit
/-! manciple/manciplelaw10.TiersTells -/
def h6 : Hints := ⟨[8, 12, 17, 20], [37, 45, 79, 90], [24, 30, 110, 67, 72, 74, 83, 96, 103, 106, 133, 138, 143, 146, 153, 161], [(8, [0, 1, 2, 3, 4, 5, 6, 7, 8, 9]), (13, [0, 1, 2, 3, 4, 5, 6, 7, 8, 9, 10, 11, 12, 13, 14, 15, 16, 17, 18, 19, 20, 21, 22, 23, 24, 25, 26, 27, 28, 29, 30, 31, 32, 33, 34, 35, 36, 37, 38, 39, 40, 41, 42, 43, 44, 45, 46, 47]), (18, [0, 1, 2, 3, 4, 5, 6, 7, 8, 9, 10, 11, 12, 13, 14, 15, 16, 17, 18, 19, 20, 21, 22, 23, 24, 25, 26, 27, 28, 29, 30, 31, 32, 33, 34])], [], [(6, ⟨[(9, .int .i64)], [(8, .cons (.int .i64) (.cons (.int .i64) (.cons (.int .i64) (.cons (.int .i64) (.cons (.sl) (.nil))))))]⟩)], [], [], []⟩
def f6_vc (la : Option Addr) (ln : Nat) (lc : Nat) (frame : Int) (role : Int) (w : World) (R : Ending → World → Prop) : Prop :=
 (decide ((↑ln : Int) > 100) = true → R (Ending.returned (Value.bool true)) w) ∧
 (decide ((↑ln : Int) > 100) = false →
 Calls Proofs.Try.prog 26 #[] w fun (e1 : Ending) (w2 : World) =>
 ∃ (a3 : Option Addr),
 e1 = Ending.returned (Value.pointer a3) ∧
 ∀ (n4 : Nat),
 w2.heap.size ≤ n4 →
 ∃ (J5 : Int × Int × Int × Int × Int × (Option Addr × Nat × Nat) × Unit → World → Prop),
 ∃ (J6 : Int × Int × Int × Int × Int × (Option Addr × Nat × Nat) × Unit → World → Nat),
 (∀ (w7 : World), Evo [n4] w2 w7 → Under [n4] w7 → J5 (0, 0, 0, 0, 0, (none, 0, 0), ()) w7) ∧
 ∀ (x8 x9 x10 x11 x12 : Int) (a13 : Option Addr) (n14 n15 : Nat) (w16 : World),
 J5 (x8, x9, x10, x11, x12, (a13, n14, n15), ()) w16 →
 (decide (x8 < (↑ln : Int)) = true →
 ∃ (ad17 : Addr),
 Gives Proofs.Try.prog (Instr.indexAt 66 (Value.slice la ln lc) (Value.int IntKind.i64 x8)) (Value.pointer (some ad17)) ∧
 ∃ (x18 : Int),
 ∃ (x19 : Int),
 ∃ (x20 : Int),
 ∃ (x21 : Int),
 ∃ (x22 : Int),
 ∃ (x23 : Int),
 ∃ (x24 : Int),
 ∃ (x25 : Int),
 Reads Proofs.Try.prog [] (Instr.loadAt 75 (Value.pointer (some ad17))) w16
 (Value.agg
 #[Value.int IntKind.i64 x18, Value.int IntKind.i64 x19, Value.int IntKind.i64 x20, Value.int IntKind.i64 x21, Value.int IntKind.i64 x22, Value.int IntKind.i64 x23,
 Value.int IntKind.i64 x24, Value.int IntKind.i64 x25]) ∧
 ∀ (w26 : World),
 Bel w16 w26 →
 Under [n4] w26 →
 Calls Proofs.Try.prog 27
 #[Value.agg #[Value.int IntKind.i64 x9, Value.int IntKind.i64 x10, Value.int IntKind.i64 x11, Value.int IntKind.i64 x12, Value.slice a13 n14 n15],
 Value.agg
 #[Value.int IntKind.i64 x18, Value.int IntKind.i64 x19, Value.int IntKind.i64 x20, Value.int IntKind.i64 x21, Value.int IntKind.i64 x22, Value.int IntKind.i64 x23,
 Value.int IntKind.i64 x24, Value.int IntKind.i64 x25]]
 w26 fun (e27 : Ending) (w28 : World) =>
 ∃ (x29 : Int),
 ∃ (x30 : Int),
 ∃ (x31 : Int),
 ∃ (x32 : Int),
 ∃ (a33 : Option Addr),
 ∃ (n34 : Nat),
 ∃ (n35 : Nat),
 ∃ (x36 : Int),
 e27 =
 Ending.returned
 (Value.tuple
 #[Value.agg #[Value.int IntKind.i64 x29, Value.int IntKind.i64 x30, Value.int IntKind.i64 x31, Value.int IntKind.i64 x32, Value.slice a33 n34 n35],
 Value.int IntKind.i64 x36]) ∧
 Keeps [n4] w26 w28 ∧
 ∃ (ad37 : Addr),
 Gives Proofs.Try.prog (Instr.indexAt 66 (Value.slice la ln lc) (Value.int IntKind.i64 x8)) (Value.pointer (some ad37)) ∧
 ∃ (x38 : Int),
 ∃ (x39 : Int),
 ∃ (x40 : Int),
 ∃ (x41 : Int),
 ∃ (x42 : Int),
 ∃ (x43 : Int),
 ∃ (x44 : Int),
 ∃ (x45 : Int),
 Reads Proofs.Try.prog [n4] (Instr.loadAt 75 (Value.pointer (some ad37))) w28
 (Value.agg
 #[Value.int IntKind.i64 x38, Value.int IntKind.i64 x39, Value.int IntKind.i64 x40, Value.int IntKind.i64 x41, Value.int IntKind.i64 x42,
 Value.int IntKind.i64 x43, Value.int IntKind.i64 x44, Value.int IntKind.i64 x45]) ∧
 ∀ (w46 : World),
 Evo [n4] w28 w46 →
 Under [n4] w46 →
 Calls Proofs.Try.prog 28
 #[Value.pointer a3,
 Value.agg
 #[Value.int IntKind.i64 x38, Value.int IntKind.i64 x39, Value.int IntKind.i64 x40, Value.int IntKind.i64 x41,
 Value.int IntKind.i64 x42, Value.int IntKind.i64 x43, Value.int IntKind.i64 x44, Value.int IntKind.i64 x45]]
 w46 fun (e47 : Ending) (w48 : World) =>
 ∃ (x49 : Int),
 e47 = Ending.returned (Value.int IntKind.i64 x49) ∧
 Keeps [n4] w46 w48 ∧
 J5 (IntKind.i64.wrap (x8 + 1), x29, x30, x31, x32, (a33, n34, n35), ()) w48 ∧
 J6 (IntKind.i64.wrap (x8 + 1), x29, x30, x31, x32, (a33, n34, n35), ()) w48 <
 J6 (x8, x9, x10, x11, x12, (a13, n14, n15), ()) w16) ∧
 (decide (x8 < (↑ln : Int)) = false →
 Calls Proofs.Try.prog 29 #[Value.pointer a3, Value.int IntKind.i64 frame] w16 fun (e50 : Ending) (w51 : World) =>
 ∃ (x52 : Int),
 ∃ (b53 : Bool),
 e50 = Ending.returned (Value.tuple #[Value.int IntKind.i64 x52, Value.bool b53]) ∧
 Keeps [n4] w16 w51 ∧
 Calls Proofs.Try.prog 30 #[Value.pointer a3, Value.int IntKind.i64 frame] w51 fun (e54 : Ending) (w55 : World) =>
 ∃ (x56 : Int),
 ∃ (x57 : Int),
 ∃ (x58 : Int),
 ∃ (b59 : Bool),
 e54 = Ending.returned (Value.tuple #[Value.agg #[Value.int IntKind.i64 x56, Value.int IntKind.i64 x57, Value.int IntKind.i64 x58], Value.bool b59]) ∧
 Keeps [n4] w51 w55 ∧
 ∀ (n60 : Nat),
 w55.heap.size ≤ n60 →
 ∀ (w61 : World),
 Evo [n60] w55 w61 →
 Under [n4, n60] w61 →
 Calls Proofs.Try.prog 31
 #[Value.agg #[Value.int IntKind.i64 x9, Value.int IntKind.i64 x10, Value.int IntKind.i64 x11, Value.int IntKind.i64 x12, Value.slice a13 n14 n15], Value.int IntKind.i64 frame]
 w61 fun (e62 : Ending) (w63 : World) =>
 ∃ (x64 : Int),
 e62 = Ending.returned (Value.int IntKind.i64 x64) ∧
 Keeps [n4, n60] w61 w63 ∧
 ((!b53 == decide (x64 ≥ 0)) = true → ∀ (w65 : World), Bel w63 w65 → Under [n4, n60] w65 → R (Ending.returned (Value.bool false)) w65) ∧
 ((!b53 == decide (x64 ≥ 0)) = false →
 ((!b59 == b53) = true → ∀ (w66 : World), Bel w63 w66 → Under [n4, n60] w66 → R (Ending.returned (Value.bool false)) w66) ∧
 ((!b59 == b53) = false →
 (b53 = true →
 ∃ (ad67 : Addr),
 Gives Proofs.Try.prog (Instr.indexAt 69 (Value.slice a13 n14 n15) (Value.int IntKind.i64 x64)) (Value.pointer (some ad67)) ∧
 ∃ (x68 : Int),
 Reads Proofs.Try.prog [] (Instr.loadAt 3 (Value.pointer (some (Addr.mk ad67.block (ad67.off + 2) none)))) w63 (Value.int IntKind.i64 x68) ∧
 ((x52 != x68) = true → ∀ (w69 : World), Bel w63 w69 → Under [n4, n60] w69 → R (Ending.returned (Value.bool false)) w69) ∧
 ((x52 != x68) = false →
 ∃ (ad70 : Addr),
 Gives Proofs.Try.prog (Instr.indexAt 69 (Value.slice a13 n14 n15) (Value.int IntKind.i64 x64)) (Value.pointer (some ad70)) ∧
 ∃ (x71 : Int),
 ∃ (x72 : Int),
 ∃ (x73 : Int),
 ∃ (x74 : Int),
 Reads Proofs.Try.prog [] (Instr.loadAt 26 (Value.pointer (some (Addr.mk ad70.block (ad70.off + 3) none)))) w63
 (Value.agg #[Value.int IntKind.i64 x71, Value.int IntKind.i64 x72, Value.int IntKind.i64 x73, Value.int IntKind.i64 x74]) ∧
 ∀ (w75 : World),
 Bel w63 w75 →
 Under [n4, n60] w75 →
 Calls Proofs.Try.prog 32
 #[Value.agg
 #[Value.int IntKind.i64 x9, Value.int IntKind.i64 x10, Value.int IntKind.i64 x11, Value.int IntKind.i64 x12,
 Value.slice a13 n14 n15],
 Value.agg #[Value.int IntKind.i64 x71, Value.int IntKind.i64 x72, Value.int IntKind.i64 x73, Value.int IntKind.i64 x74]]
 w75 fun (e76 : Ending) (w77 : World) =>
 ∃ (x78 : Int),
 ∃ (x79 : Int),
 e76 = Ending.returned (Value.agg #[Value.int IntKind.i64 x78, Value.int IntKind.i64 x79]) ∧
 Keeps [n4, n60] w75 w77 ∧
 Reads Proofs.Try.prog [] (Instr.loadAt 3 (Value.pointer (some (Addr.mk ad67.block (ad67.off + 2) none)))) w77
 (Value.int IntKind.i64 x68) ∧
 ((!(x56 == x78 && (x57 == x79 && true))) = true → R (Ending.returned (Value.bool false)) w77) ∧
 ((!(x56 == x78 && (x57 == x79 && true))) = false →
 ((x58 != 1) = true → R (Ending.returned (Value.bool false)) w77) ∧
 ((x58 != 1) = false →
 ((!b53) = true →
 ((x52 != 0) = true → R (Ending.returned (Value.bool false)) w77) ∧
 ((x52 != 0) = false →
 Calls Proofs.Try.prog 33 #[Value.pointer a3, Value.int IntKind.i64 role] w77
 fun (e80 : Ending) (w81 : World) =>
 ∃ (x82 : Int),
 ∃ (b83 : Bool),
 e80 = Ending.returned (Value.tuple #[Value.int IntKind.i64 x82, Value.bool b83]) ∧
 Keeps [n4, n60] w77 w81 ∧
 Calls Proofs.Try.prog 34 #[Value.pointer a3, Value.int IntKind.i64 role] w81
 fun (e84 : Ending) (w85 : World) =>
 ∃ (x86 : Int),
 ∃ (x87 : Int),
 ∃ (x88 : Int),
 ∃ (b89 : Bool),
 e84 =
 Ending.returned
 (Value.tuple
 #[Value.agg
 #[Value.int IntKind.i64 x86, Value.int IntKind.i64 x87,
 Value.int IntKind.i64 x88],
 Value.bool b89]) ∧
 Keeps [n4, n60] w81 w85 ∧
 ∀ (n90 : Nat),
 w85.heap.size ≤ n90 →
 ∀ (w91 : World),
 Evo [n90] w85 w91 →
 Under [n4, n60, n90] w91 →
 Calls Proofs.Try.prog 35
 #[Value.agg
 #[Value.int IntKind.i64 x9, Value.int IntKind.i64 x10,
 Value.int IntKind.i64 x11, Value.int IntKind.i64 x12,
 Value.slice a13 n14 n15],
 Value.int IntKind.i64 role]
 w91 fun (e92 : Ending) (w93 : World) =>
 ∃ (x94 : Int),
 ∃ (x95 : Int),
 ∃ (x96 : Int),
 ∃ (x97 : Int),
 ∃ (x98 : Int),
 ∃ (b99 : Bool),
 e92 =
 Ending.returned
 (Value.tuple
 #[Value.int IntKind.i64 x94,
 Value.agg
 #[Value.int IntKind.i64 x95,
 Value.int IntKind.i64 x96,
 Value.int IntKind.i64 x97,
 Value.int IntKind.i64 x98],
 Value.bool b99]) ∧
 Keeps [n4, n60, n90] w91 w93 ∧
 ∀ (n100 : Nat),
 w93.heap.size ≤ n100 →
 ((b83 == b99) = true →
 ((b89 == b99) = true →
 ((x82 == x94) = true →
 ((!b99) = true →
 ∀ (w101 : World),
 Evo [n100] w93 w101 →
 Under
 [n4, n60, n90,
 n100]
 w101 →
 Calls
 Proofs.Try.prog 36
 #[] w101
 fun
 (e102 : Ending)
 (w103 :
 World) =>
 ∃ (b104 : Bool),
 e102 =
 Ending.returned
 (Value.bool
 b104) ∧
 Keeps
 [n4, n60,
 n90,
 n100]
 w101
 w103 ∧
 R
 (Ending.returned
 (Value.bool
 b104))
 w103) ∧
 ((!b99) = false →
 ∀ (w105 : World),
 Evo [n100] w93 w105 →
 Under
 [n4, n60, n90,
 n100]
 w105 →
 Calls
 Proofs.Try.prog 32
 #[Value.agg
 #[Value.int
 IntKind.i64
 x9,
 Value.int
 IntKind.i64
 x10,
 Value.int
 IntKind.i64
 x11,
 Value.int
 IntKind.i64
 x12,
 Value.slice
 a13 n14
 n15],
 Value.agg
 #[Value.int
 IntKind.i64
 x95,
 Value.int
 IntKind.i64
 x96,
 Value.int
 IntKind.i64
 x97,
 Value.int
 IntKind.i64
 x98]]
 w105
 fun
 (e106 : Ending)
 (w107 :
 World) =>
 ∃ (x108 : Int),
 ∃ (x109 : Int),
 e106 =
 Ending.returned
 (Value.agg
 #[Value.int
 IntKind.i64
 x108,
 Value.int
 IntKind.i64
 x109]) ∧
 Keeps
 [n4,
 n60,
 n90,
 n100]
 w105
 w107 ∧
 ((x86 ==
 x108 &&
 (x87 ==
 x109 &&
 true)) =
 true →
 ((x88 ==
 x94) =
 true →
 Calls
 Proofs.Try.prog
 36
 #[]
 w107
 fun
 (e110 :
 Ending)
 (w111 :
 World) =>
 ∃
 (b112
 :
 Bool),
 e110 =
 Ending.returned
 (Value.bool
 b112) ∧
 Keeps
 [n4,
 n60,
 n90,
 n100]
 w107
 w111 ∧
 R
 (Ending.returned
 (Value.bool
 b112))
 w111) ∧
 ((x88 ==
 x94) =
 false →
 R
 (Ending.returned
 (Value.bool
 false))
 w107)) ∧
 ((x86 ==
 x108 &&
 (x87 ==
 x109 &&
 true)) =
 false →
 R
 (Ending.returned
 (Value.bool
 false))
 w107))) ∧
 ((x82 == x94) = false →
 ∀ (w113 : World),
 Evo [n100] w93 w113 →
 Under [n4, n60, n90, n100]
 w113 →
 R
 (Ending.returned
 (Value.bool false))
 w113)) ∧
 ((b89 == b99) = false →
 ∀ (w114 : World),
 Evo [n100] w93 w114 →
 Under [n4, n60, n90, n100]
 w114 →
 R
 (Ending.returned
 (Value.bool false))
 w114)) ∧
 ((b83 == b99) = false →
 ∀ (w115 : World),
 Evo [n100] w93 w115 →
 Under [n4, n60, n90, n100] w115 →
 R
 (Ending.returned
 (Value.bool false))
 w115))) ∧
 ((!b53) = false →
 Calls Proofs.Try.prog 33 #[Value.pointer a3, Value.int IntKind.i64 role] w77
 fun (e116 : Ending) (w117 : World) =>
 ∃ (x118 : Int),
 ∃ (b119 : Bool),
 e116 = Ending.returned (Value.tuple #[Value.int IntKind.i64 x118, Value.bool b119]) ∧
 Keeps [n4, n60] w77 w117 ∧
 Calls Proofs.Try.prog 34 #[Value.pointer a3, Value.int IntKind.i64 role] w117
 fun (e120 : Ending) (w121 : World) =>
 ∃ (x122 : Int),
 ∃ (x123 : Int),
 ∃ (x124 : Int),
 ∃ (b125 : Bool),
 e120 =
 Ending.returned
 (Value.tuple
 #[Value.agg
 #[Value.int IntKind.i64 x122, Value.int IntKind.i64 x123,
 Value.int IntKind.i64 x124],
 Value.bool b125]) ∧
 Keeps [n4, n60] w117 w121 ∧
 ∀ (n126 : Nat),
 w121.heap.size ≤ n126 →
 ∀ (w127 : World),
 Evo [n126] w121 w127 →
 Under [n4, n60, n126] w127 →
 Calls Proofs.Try.prog 35
 #[Value.agg
 #[Value.int IntKind.i64 x9, Value.int IntKind.i64 x10,
 Value.int IntKind.i64 x11, Value.int IntKind.i64 x12,
 Value.slice a13 n14 n15],
 Value.int IntKind.i64 role]
 w127 fun (e128 : Ending) (w129 : World) =>
 ∃ (x130 : Int),
 ∃ (x131 : Int),
 ∃ (x132 : Int),
 ∃ (x133 : Int),
 ∃ (x134 : Int),
 ∃ (b135 : Bool),
 e128 =
 Ending.returned
 (Value.tuple
 #[Value.int IntKind.i64 x130,
 Value.agg
 #[Value.int IntKind.i64 x131,
 Value.int IntKind.i64 x132,
 Value.int IntKind.i64 x133,
 Value.int IntKind.i64 x134],
 Value.bool b135]) ∧
 Keeps [n4, n60, n126] w127 w129 ∧
 ∀ (n136 : Nat),
 w129.heap.size ≤ n136 →
 ((b119 == b135) = true →
 ((b125 == b135) = true →
 ((x118 == x130) = true →
 ((!b135) = true →
 ∀ (w137 : World),
 Evo [n136] w129 w137 →
 Under
 [n4, n60, n126, n136]
 w137 →
 Calls Proofs.Try.prog 36
 #[] w137
 fun (e138 : Ending)
 (w139 : World) =>
 ∃ (b140 : Bool),
 e138 =
 Ending.returned
 (Value.bool
 b140) ∧
 Keeps
 [n4, n60,
 n126, n136]
 w137 w139 ∧
 R
 (Ending.returned
 (Value.bool
 b140))
 w139) ∧
 ((!b135) = false →
 ∀ (w141 : World),
 Evo [n136] w129 w141 →
 Under
 [n4, n60, n126, n136]
 w141 →
 Calls Proofs.Try.prog 32
 #[Value.agg
 #[Value.int
 IntKind.i64
 x9,
 Value.int
 IntKind.i64
 x10,
 Value.int
 IntKind.i64
 x11,
 Value.int
 IntKind.i64
 x12,
 Value.slice a13
 n14 n15],
 Value.agg
 #[Value.int
 IntKind.i64
 x131,
 Value.int
 IntKind.i64
 x132,
 Value.int
 IntKind.i64
 x133,
 Value.int
 IntKind.i64
 x134]]
 w141
 fun (e142 : Ending)
 (w143 : World) =>
 ∃ (x144 : Int),
 ∃ (x145 : Int),
 e142 =
 Ending.returned
 (Value.agg
 #[Value.int
 IntKind.i64
 x144,
 Value.int
 IntKind.i64
 x145]) ∧
 Keeps
 [n4, n60,
 n126,
 n136]
 w141 w143 ∧
 ((x122 ==
 x144 &&
 (x123 ==
 x145 &&
 true)) =
 true →
 ((x124 ==
 x130) =
 true →
 Calls
 Proofs.Try.prog
 36
 #[]
 w143
 fun
 (e146 :
 Ending)
 (w147 :
 World) =>
 ∃
 (b148
 :
 Bool),
 e146 =
 Ending.returned
 (Value.bool
 b148) ∧
 Keeps
 [n4,
 n60,
 n126,
 n136]
 w143
 w147 ∧
 R
 (Ending.returned
 (Value.bool
 b148))
 w147) ∧
 ((x124 ==
 x130) =
 false →
 R
 (Ending.returned
 (Value.bool
 false))
 w143)) ∧
 ((x122 ==
 x144 &&
 (x123 ==
 x145 &&
 true)) =
 false →
 R
 (Ending.returned
 (Value.bool
 false))
 w143))) ∧
 ((x118 == x130) = false →
 ∀ (w149 : World),
 Evo [n136] w129 w149 →
 Under [n4, n60, n126, n136]
 w149 →
 R
 (Ending.returned
 (Value.bool false))
 w149)) ∧
 ((b125 == b135) = false →
 ∀ (w150 : World),
 Evo [n136] w129 w150 →
 Under [n4, n60, n126, n136] w150 →
 R
 (Ending.returned
 (Value.bool false))
 w150)) ∧
 ((b119 == b135) = false →
 ∀ (w151 : World),
 Evo [n136] w129 w151 →
 Under [n4, n60, n126, n136] w151 →
 R
 (Ending.returned
 (Value.bool false))
 w151)))))) ∧
 (b53 = false →
 ((!b53) = true →
 ((x52 != 0) = true → ∀ (w152 : World), Bel w63 w152 → Under [n4, n60] w152 → R (Ending.returned (Value.bool false)) w152) ∧
 ((x52 != 0) = false →
 ∀ (w153 : World),
 Bel w63 w153 →
 Under [n4, n60] w153 →
 Calls Proofs.Try.prog 33 #[Value.pointer a3, Value.int IntKind.i64 role] w153 fun (e154 : Ending) (w155 : World) =>
 ∃ (x156 : Int),
 ∃ (b157 : Bool),
 e154 = Ending.returned (Value.tuple #[Value.int IntKind.i64 x156, Value.bool b157]) ∧
 Keeps [n4, n60] w153 w155 ∧
 Calls Proofs.Try.prog 34 #[Value.pointer a3, Value.int IntKind.i64 role] w155 fun (e158 : Ending) (w159 : World) =>
 ∃ (x160 : Int),
 ∃ (x161 : Int),
 ∃ (x162 : Int),
 ∃ (b163 : Bool),
 e158 =
 Ending.returned
 (Value.tuple
 #[Value.agg #[Value.int IntKind.i64 x160, Value.int IntKind.i64 x161, Value.int IntKind.i64 x162],
 Value.bool b163]) ∧
 Keeps [n4, n60] w155 w159 ∧
 ∀ (n164 : Nat),
 w159.heap.size ≤ n164 →
 ∀ (w165 : World),
 Evo [n164] w159 w165 →
 Under [n4, n60, n164] w165 →
 Calls Proofs.Try.prog 35
 #[Value.agg
 #[Value.int IntKind.i64 x9, Value.int IntKind.i64 x10, Value.int IntKind.i64 x11,
 Value.int IntKind.i64 x12, Value.slice a13 n14 n15],
 Value.int IntKind.i64 role]
 w165 fun (e166 : Ending) (w167 : World) =>
 ∃ (x168 : Int),
 ∃ (x169 : Int),
 ∃ (x170 : Int),
 ∃ (x171 : Int),
 ∃ (x172 : Int),
 ∃ (b173 : Bool),
 e166 =
 Ending.returned
 (Value.tuple
 #[Value.int IntKind.i64 x168,
 Value.agg
 #[Value.int IntKind.i64 x169, Value.int IntKind.i64 x170,
 Value.int IntKind.i64 x171, Value.int IntKind.i64 x172],
 Value.bool b173]) ∧
 Keeps [n4, n60, n164] w165 w167 ∧
 ∀ (n174 : Nat),
 w167.heap.size ≤ n174 →
 ((b157 == b173) = true →
 ((b163 == b173) = true →
 ((x156 == x168) = true →
 ((!b173) = true →
 ∀ (w175 : World),
 Evo [n174] w167 w175 →
 Under [n4, n60, n164, n174] w175 →
 Calls Proofs.Try.prog 36 #[] w175
 fun (e176 : Ending) (w177 : World) =>
 ∃ (b178 : Bool),
 e176 = Ending.returned (Value.bool b178) ∧
 Keeps [n4, n60, n164, n174] w175 w177 ∧
 R (Ending.returned (Value.bool b178)) w177) ∧
 ((!b173) = false →
 ∀ (w179 : World),
 Evo [n174] w167 w179 →
 Under [n4, n60, n164, n174] w179 →
 Calls Proofs.Try.prog 32
 #[Value.agg
 #[Value.int IntKind.i64 x9, Value.int IntKind.i64 x10,
 Value.int IntKind.i64 x11, Value.int IntKind.i64 x12,
 Value.slice a13 n14 n15],
 Value.agg
 #[Value.int IntKind.i64 x169, Value.int IntKind.i64 x170,
 Value.int IntKind.i64 x171, Value.int IntKind.i64 x172]]
 w179 fun (e180 : Ending) (w181 : World) =>
 ∃ (x182 : Int),
 ∃ (x183 : Int),
 e180 =
 Ending.returned
 (Value.agg
 #[Value.int IntKind.i64 x182,
 Value.int IntKind.i64 x183]) ∧
 Keeps [n4, n60, n164, n174] w179 w181 ∧
 ((x160 == x182 && (x161 == x183 && true)) = true →
 ((x162 == x168) = true →
 Calls Proofs.Try.prog 36 #[] w181
 fun (e184 : Ending) (w185 : World) =>
 ∃ (b186 : Bool),
 e184 = Ending.returned (Value.bool b186) ∧
 Keeps [n4, n60, n164, n174] w181 w185 ∧
 R (Ending.returned (Value.bool b186))
 w185) ∧
 ((x162 == x168) = false →
 R (Ending.returned (Value.bool false)) w181)) ∧
 ((x160 == x182 && (x161 == x183 && true)) = false →
 R (Ending.returned (Value.bool false)) w181))) ∧
 ((x156 == x168) = false →
 ∀ (w187 : World),
 Evo [n174] w167 w187 →
 Under [n4, n60, n164, n174] w187 →
 R (Ending.returned (Value.bool false)) w187)) ∧
 ((b163 == b173) = false →
 ∀ (w188 : World),
 Evo [n174] w167 w188 →
 Under [n4, n60, n164, n174] w188 →
 R (Ending.returned (Value.bool false)) w188)) ∧
 ((b157 == b173) = false →
 ∀ (w189 : World),
 Evo [n174] w167 w189 →
 Under [n4, n60, n164, n174] w189 →
 R (Ending.returned (Value.bool false)) w189))) ∧
 ((!b53) = false →
 ∀ (w190 : World),
 Bel w63 w190 →
 Under [n4, n60] w190 →
 Calls Proofs.Try.prog 33 #[Value.pointer a3, Value.int IntKind.i64 role] w190 fun (e191 : Ending) (w192 : World) =>
 ∃ (x193 : Int),
 ∃ (b194 : Bool),
 e191 = Ending.returned (Value.tuple #[Value.int IntKind.i64 x193, Value.bool b194]) ∧
 Keeps [n4, n60] w190 w192 ∧
 Calls Proofs.Try.prog 34 #[Value.pointer a3, Value.int IntKind.i64 role] w192 fun (e195 : Ending) (w196 : World) =>
 ∃ (x197 : Int),
 ∃ (x198 : Int),
 ∃ (x199 : Int),
 ∃ (b200 : Bool),
 e195 =
 Ending.returned
 (Value.tuple
 #[Value.agg #[Value.int IntKind.i64 x197, Value.int IntKind.i64 x198, Value.int IntKind.i64 x199], Value.bool b200]) ∧
 Keeps [n4, n60] w192 w196 ∧
 ∀ (n201 : Nat),
 w196.heap.size ≤ n201 →
 ∀ (w202 : World),
 Evo [n201] w196 w202 →
 Under [n4, n60, n201] w202 →
 Calls Proofs.Try.prog 35
 #[Value.agg
 #[Value.int IntKind.i64 x9, Value.int IntKind.i64 x10, Value.int IntKind.i64 x11, Value.int IntKind.i64 x12,
 Value.slice a13 n14 n15],
 Value.int IntKind.i64 role]
 w202 fun (e203 : Ending) (w204 : World) =>
 ∃ (x205 : Int),
 ∃ (x206 : Int),
 ∃ (x207 : Int),
 ∃ (x208 : Int),
 ∃ (x209 : Int),
 ∃ (b210 : Bool),
 e203 =
 Ending.returned
 (Value.tuple
 #[Value.int IntKind.i64 x205,
 Value.agg
 #[Value.int IntKind.i64 x206, Value.int IntKind.i64 x207, Value.int IntKind.i64 x208,
 Value.int IntKind.i64 x209],
 Value.bool b210]) ∧
 Keeps [n4, n60, n201] w202 w204 ∧
 ∀ (n211 : Nat),
 w204.heap.size ≤ n211 →
 ((b194 == b210) = true →
 ((b200 == b210) = true →
 ((x193 == x205) = true →
 ((!b210) = true →
 ∀ (w212 : World),
 Evo [n211] w204 w212 →
 Under [n4, n60, n201, n211] w212 →
 Calls Proofs.Try.prog 36 #[] w212
 fun (e213 : Ending) (w214 : World) =>
 ∃ (b215 : Bool),
 e213 = Ending.returned (Value.bool b215) ∧
 Keeps [n4, n60, n201, n211] w212 w214 ∧
 R (Ending.returned (Value.bool b215)) w214) ∧
 ((!b210) = false →
 ∀ (w216 : World),
 Evo [n211] w204 w216 →
 Under [n4, n60, n201, n211] w216 →
 Calls Proofs.Try.prog 32
 #[Value.agg
 #[Value.int IntKind.i64 x9, Value.int IntKind.i64 x10,
 Value.int IntKind.i64 x11, Value.int IntKind.i64 x12,
 Value.slice a13 n14 n15],
 Value.agg
 #[Value.int IntKind.i64 x206, Value.int IntKind.i64 x207,
 Value.int IntKind.i64 x208, Value.int IntKind.i64 x209]]
 w216 fun (e217 : Ending) (w218 : World) =>
 ∃ (x219 : Int),
 ∃ (x220 : Int),
 e217 =
 Ending.returned
 (Value.agg
 #[Value.int IntKind.i64 x219,
 Value.int IntKind.i64 x220]) ∧
 Keeps [n4, n60, n201, n211] w216 w218 ∧
 ((x197 == x219 && (x198 == x220 && true)) = true →
 ((x199 == x205) = true →
 Calls Proofs.Try.prog 36 #[] w218
 fun (e221 : Ending) (w222 : World) =>
 ∃ (b223 : Bool),
 e221 = Ending.returned (Value.bool b223) ∧
 Keeps [n4, n60, n201, n211] w218 w222 ∧
 R (Ending.returned (Value.bool b223))
 w222) ∧
 ((x199 == x205) = false →
 R (Ending.returned (Value.bool false)) w218)) ∧
 ((x197 == x219 && (x198 == x220 && true)) = false →
 R (Ending.returned (Value.bool false)) w218))) ∧
 ((x193 == x205) = false →
 ∀ (w224 : World),
 Evo [n211] w204 w224 →
 Under [n4, n60, n201, n211] w224 →
 R (Ending.returned (Value.bool false)) w224)) ∧
 ((b200 == b210) = false →
 ∀ (w225 : World),
 Evo [n211] w204 w225 →
 Under [n4, n60, n201, n211] w225 →
 R (Ending.returned (Value.bool false)) w225)) ∧
 ((b194 == b210) = false →
 ∀ (w226 : World),
 Evo [n211] w204 w226 →
 Under [n4, n60, n201, n211] w226 →
 R (Ending.returned (Value.bool false)) w226)))))))
theorem f6_eq (la : Option Addr) (ln : Nat) (lc : Nat) (frame : Int) (role : Int) (w : World) (R : Ending → World → Prop) : (fnF Go.Proofs.Try.prog h6 Go.Proofs.Try.f6 [Value.slice la ln lc, Value.int IntKind.i64 frame, Value.int IntKind.i64 role] w R).den = f6_vc la ln lc frame role w R := by kernel_rfl
theorem f6_calls (la : Option Addr) (ln : Nat) (lc : Nat) (frame : Int) (role : Int) (w : World) (R : Ending → World → Prop) (h : f6_vc la ln lc frame role w R) : Calls Go.Proofs.Try.prog 6 (List.toArray [Value.slice la ln lc, Value.int IntKind.i64 frame, Value.int IntKind.i64 role]) w R :=
 fn_sound (H := h6) (fn := Go.Proofs.Try.f6) (by kernel_rfl) (by kernel_rfl) (by kernel_rfl) ((f6_eq la ln lc frame role w R).mpr h)

/-! manciple/manciplelaw10.TiersPick -/
def h7 : Hints := ⟨[6, 15, 17, 19, 21], [48, 56, 74, 83, 107, 123, 157, 178], [35, 41, 68, 87, 89, 167, 171, 31, 79, 130, 134, 138, 142, 146, 152, 161, 175, 192, 195, 199, 201, 206, 210, 215, 219], [(8, [0, 1, 2, 3, 4, 5, 6, 7, 8, 9]), (15, [0, 1, 2, 3, 4, 5, 6])], [], [(6, ⟨[(7, .int .i64)], [(6, .cons (.int .i64) (.cons (.int .i64) (.cons (.int .i64) (.cons (.int .i64) (.cons (.sl) (.nil))))))]⟩), (13, ⟨[(10, .bool), (11, .int .i64)], []⟩), (29, ⟨[(23, .bool), (24, .int .i64)], []⟩)], [], [], []⟩
def f7_vc (la : Option Addr) (ln : Nat) (lc : Nat) (some'a : Option Addr) (some'n : Nat) (some'c : Nat) (w : World) (R : Ending → World → Prop) : Prop :=
 (decide ((↑ln : Int) > 60) = true → R (Ending.returned (Value.bool true)) w) ∧
 (decide ((↑ln : Int) > 60) = false →
 (decide ((↑some'n : Int) > 20) = true → R (Ending.returned (Value.bool true)) w) ∧
 (decide ((↑some'n : Int) > 20) = false →
 Calls Proofs.Try.prog 26 #[] w fun (e1 : Ending) (w2 : World) =>
 ∃ (a3 : Option Addr),
 e1 = Ending.returned (Value.pointer a3) ∧
 ∀ (n4 : Nat),
 w2.heap.size ≤ n4 →
 ∃ (J5 : Int × Int × Int × Int × Int × (Option Addr × Nat × Nat) × Unit → World → Prop),
 ∃ (J6 : Int × Int × Int × Int × Int × (Option Addr × Nat × Nat) × Unit → World → Nat),
 (∀ (w7 : World), Evo [n4] w2 w7 → Under [n4] w7 → J5 (0, 0, 0, 0, 0, (none, 0, 0), ()) w7) ∧
 ∀ (x8 x9 x10 x11 x12 : Int) (a13 : Option Addr) (n14 n15 : Nat) (w16 : World),
 J5 (x8, x9, x10, x11, x12, (a13, n14, n15), ()) w16 →
 (decide (x8 < (↑ln : Int)) = true →
 ∃ (ad17 : Addr),
 Gives Proofs.Try.prog (Instr.indexAt 66 (Value.slice la ln lc) (Value.int IntKind.i64 x8)) (Value.pointer (some ad17)) ∧
 ∃ (x18 : Int),
 ∃ (x19 : Int),
 ∃ (x20 : Int),
 ∃ (x21 : Int),
 ∃ (x22 : Int),
 ∃ (x23 : Int),
 ∃ (x24 : Int),
 ∃ (x25 : Int),
 Reads Proofs.Try.prog [] (Instr.loadAt 75 (Value.pointer (some ad17))) w16
 (Value.agg
 #[Value.int IntKind.i64 x18, Value.int IntKind.i64 x19, Value.int IntKind.i64 x20, Value.int IntKind.i64 x21, Value.int IntKind.i64 x22, Value.int IntKind.i64 x23,
 Value.int IntKind.i64 x24, Value.int IntKind.i64 x25]) ∧
 ∀ (w26 : World),
 Bel w16 w26 →
 Under [n4] w26 →
 Calls Proofs.Try.prog 27
 #[Value.agg #[Value.int IntKind.i64 x9, Value.int IntKind.i64 x10, Value.int IntKind.i64 x11, Value.int IntKind.i64 x12, Value.slice a13 n14 n15],
 Value.agg
 #[Value.int IntKind.i64 x18, Value.int IntKind.i64 x19, Value.int IntKind.i64 x20, Value.int IntKind.i64 x21, Value.int IntKind.i64 x22, Value.int IntKind.i64 x23,
 Value.int IntKind.i64 x24, Value.int IntKind.i64 x25]]
 w26 fun (e27 : Ending) (w28 : World) =>
 ∃ (x29 : Int),
 ∃ (x30 : Int),
 ∃ (x31 : Int),
 ∃ (x32 : Int),
 ∃ (a33 : Option Addr),
 ∃ (n34 : Nat),
 ∃ (n35 : Nat),
 ∃ (x36 : Int),
 e27 =
 Ending.returned
 (Value.tuple
 #[Value.agg #[Value.int IntKind.i64 x29, Value.int IntKind.i64 x30, Value.int IntKind.i64 x31, Value.int IntKind.i64 x32, Value.slice a33 n34 n35],
 Value.int IntKind.i64 x36]) ∧
 Keeps [n4] w26 w28 ∧
 ∃ (ad37 : Addr),
 Gives Proofs.Try.prog (Instr.indexAt 66 (Value.slice la ln lc) (Value.int IntKind.i64 x8)) (Value.pointer (some ad37)) ∧
 ∃ (x38 : Int),
 ∃ (x39 : Int),
 ∃ (x40 : Int),
 ∃ (x41 : Int),
 ∃ (x42 : Int),
 ∃ (x43 : Int),
 ∃ (x44 : Int),
 ∃ (x45 : Int),
 Reads Proofs.Try.prog [n4] (Instr.loadAt 75 (Value.pointer (some ad37))) w28
 (Value.agg
 #[Value.int IntKind.i64 x38, Value.int IntKind.i64 x39, Value.int IntKind.i64 x40, Value.int IntKind.i64 x41,
 Value.int IntKind.i64 x42, Value.int IntKind.i64 x43, Value.int IntKind.i64 x44, Value.int IntKind.i64 x45]) ∧
 ∀ (w46 : World),
 Evo [n4] w28 w46 →
 Under [n4] w46 →
 Calls Proofs.Try.prog 28
 #[Value.pointer a3,
 Value.agg
 #[Value.int IntKind.i64 x38, Value.int IntKind.i64 x39, Value.int IntKind.i64 x40, Value.int IntKind.i64 x41,
 Value.int IntKind.i64 x42, Value.int IntKind.i64 x43, Value.int IntKind.i64 x44, Value.int IntKind.i64 x45]]
 w46 fun (e47 : Ending) (w48 : World) =>
 ∃ (x49 : Int),
 e47 = Ending.returned (Value.int IntKind.i64 x49) ∧
 Keeps [n4] w46 w48 ∧
 J5 (IntKind.i64.wrap (x8 + 1), x29, x30, x31, x32, (a33, n34, n35), ()) w48 ∧
 J6 (IntKind.i64.wrap (x8 + 1), x29, x30, x31, x32, (a33, n34, n35), ()) w48 <
 J6 (x8, x9, x10, x11, x12, (a13, n14, n15), ()) w16) ∧
 (decide (x8 < (↑ln : Int)) = false →
 Calls Proofs.Try.prog 37 #[Value.pointer a3, Value.slice some'a some'n some'c] w16 fun (e50 : Ending) (w51 : World) =>
 ∃ (x52 : Int),
 ∃ (b53 : Bool),
 e50 = Ending.returned (Value.tuple #[Value.int IntKind.i64 x52, Value.bool b53]) ∧
 Keeps [n4] w16 w51 ∧
 ∃ (J54 : Bool × Int × Unit → World → Prop),
 ∃ (J55 : Bool × Int × Unit → World → Nat),
 J54 (false, 0, ()) w51 ∧
 ∀ (b56 : Bool) (x57 : Int) (w58 : World),
 J54 (b56, x57, ()) w58 →
 (decide (x57 < (↑some'n : Int)) = true →
 ∃ (ad59 : Addr),
 Gives Proofs.Try.prog (Instr.indexAt 29 (Value.slice some'a some'n some'c) (Value.int IntKind.i64 x57)) (Value.pointer (some ad59)) ∧
 ∃ (x60 : Int),
 Reads Proofs.Try.prog [] (Instr.loadAt 2 (Value.pointer (some ad59))) w58 (Value.int IntKind.i64 x60) ∧
 ∀ (w61 : World),
 Bel w58 w61 →
 Under [n4] w61 →
 Calls Proofs.Try.prog 31
 #[Value.agg #[Value.int IntKind.i64 x9, Value.int IntKind.i64 x10, Value.int IntKind.i64 x11, Value.int IntKind.i64 x12, Value.slice a13 n14 n15],
 Value.int IntKind.i64 x60]
 w61 fun (e62 : Ending) (w63 : World) =>
 ∃ (x64 : Int),
 e62 = Ending.returned (Value.int IntKind.i64 x64) ∧
 Keeps [n4] w61 w63 ∧
 (decide (x64 < 0) = true → J54 (b56, IntKind.i64.wrap (x57 + 1), ()) w63 ∧ J55 (b56, IntKind.i64.wrap (x57 + 1), ()) w63 < J55 (b56, x57, ()) w58) ∧
 (decide (x64 < 0) = false →
 ∃ (ad65 : Addr),
 Gives Proofs.Try.prog (Instr.indexAt 69 (Value.slice a13 n14 n15) (Value.int IntKind.i64 x64)) (Value.pointer (some ad65)) ∧
 ∃ (b66 : Bool),
 Reads Proofs.Try.prog [] (Instr.loadAt 4 (Value.pointer (some (Addr.mk ad65.block (ad65.off + 7) none)))) w63 (Value.bool b66) ∧
 ((!b66) = true → J54 (b56, IntKind.i64.wrap (x57 + 1), ()) w63 ∧ J55 (b56, IntKind.i64.wrap (x57 + 1), ()) w63 < J55 (b56, x57, ()) w58) ∧
 ((!b66) = false →
 ((!b53) = true → R (Ending.returned (Value.bool false)) w63) ∧
 ((!b53) = false →
 Calls Proofs.Try.prog 29 #[Value.pointer a3, Value.int IntKind.i64 x52] w63 fun (e67 : Ending) (w68 : World) =>
 ∃ (x69 : Int),
 ∃ (b70 : Bool),
 e67 = Ending.returned (Value.tuple #[Value.int IntKind.i64 x69, Value.bool b70]) ∧
 Keeps [n4] w63 w68 ∧
 Calls Proofs.Try.prog 34 #[Value.pointer a3, Value.int IntKind.i64 x69] w68 fun (e71 : Ending) (w72 : World) =>
 ∃ (x73 : Int),
 ∃ (x74 : Int),
 ∃ (x75 : Int),
 ∃ (b76 : Bool),
 e71 =
 Ending.returned
 (Value.tuple
 #[Value.agg #[Value.int IntKind.i64 x73, Value.int IntKind.i64 x74, Value.int IntKind.i64 x75], Value.bool b76]) ∧
 Keeps [n4] w68 w72 ∧
 ∀ (n77 : Nat),
 w72.heap.size ≤ n77 →
 ∃ (ad78 : Addr),
 Gives Proofs.Try.prog (Instr.indexAt 69 (Value.slice a13 n14 n15) (Value.int IntKind.i64 x64))
 (Value.pointer (some ad78)) ∧
 ∃ (x79 : Int),
 Reads Proofs.Try.prog [n77] (Instr.loadAt 3 (Value.pointer (some (Addr.mk ad78.block (ad78.off + 2) none))))
 w72 (Value.int IntKind.i64 x79) ∧
 ∀ (w80 : World),
 Evo [n77] w72 w80 →
 Under [n4, n77] w80 →
 Calls Proofs.Try.prog 34 #[Value.pointer a3, Value.int IntKind.i64 x79] w80
 fun (e81 : Ending) (w82 : World) =>
 ∃ (x83 : Int),
 ∃ (x84 : Int),
 ∃ (x85 : Int),
 ∃ (b86 : Bool),
 e81 =
 Ending.returned
 (Value.tuple
 #[Value.agg
 #[Value.int IntKind.i64 x83, Value.int IntKind.i64 x84,
 Value.int IntKind.i64 x85],
 Value.bool b86]) ∧
 Keeps [n4, n77] w80 w82 ∧
 ∀ (n87 : Nat),
 w82.heap.size ≤ n87 →
 ∀ (w88 : World),
 Evo [n87] w82 w88 →
 Under [n4, n77, n87] w88 →
 Calls Proofs.Try.prog 30 #[Value.pointer a3, Value.int IntKind.i64 x52] w88
 fun (e89 : Ending) (w90 : World) =>
 ∃ (x91 : Int),
 ∃ (x92 : Int),
 ∃ (x93 : Int),
 ∃ (b94 : Bool),
 e89 =
 Ending.returned
 (Value.tuple
 #[Value.agg
 #[Value.int IntKind.i64 x91,
 Value.int IntKind.i64 x92,
 Value.int IntKind.i64 x93],
 Value.bool b94]) ∧
 Keeps [n4, n77, n87] w88 w90 ∧
 ∀ (n95 : Nat),
 w90.heap.size ≤ n95 →
 ∃ (ad96 : Addr),
 Gives Proofs.Try.prog
 (Instr.indexAt 29 (Value.slice some'a some'n some'c)
 (Value.int IntKind.i64 x57))
 (Value.pointer (some ad96)) ∧
 ∃ (x97 : Int),
 Reads Proofs.Try.prog [n95]
 (Instr.loadAt 2 (Value.pointer (some ad96))) w90
 (Value.int IntKind.i64 x97) ∧
 ∀ (w98 : World),
 Evo [n95] w90 w98 →
 Under [n4, n77, n87, n95] w98 →
 Calls Proofs.Try.prog 30
 #[Value.pointer a3,
 Value.int IntKind.i64 x97]
 w98 fun (e99 : Ending) (w100 : World) =>
 ∃ (x101 : Int),
 ∃ (x102 : Int),
 ∃ (x103 : Int),
 ∃ (b104 : Bool),
 e99 =
 Ending.returned
 (Value.tuple
 #[Value.agg
 #[Value.int
 IntKind.i64 x101,
 Value.int
 IntKind.i64 x102,
 Value.int
 IntKind.i64 x103],
 Value.bool b104]) ∧
 Keeps [n4, n77, n87, n95] w98
 w100 ∧
 ∀ (n105 : Nat),
 w100.heap.size ≤ n105 →
 ((!b70) = true →
 ∀ (w106 : World),
 Evo [n105] w100
 w106 →
 Under
 [n4, n77, n87,
 n95, n105]
 w106 →
 R
 (Ending.returned
 (Value.bool
 false))
 w106) ∧
 ((!b70) = false →
 ((!b76) = true →
 ∀ (w107 : World),
 Evo [n105] w100
 w107 →
 Under
 [n4, n77,
 n87,
 n95,
 n105]
 w107 →
 R
 (Ending.returned
 (Value.bool
 false))
 w107) ∧
 ((!b76) = false →
 ((!b86) = true →
 ∀
 (w108 :
 World),
 Evo [n105]
 w100
 w108 →
 Under
 [n4,
 n77,
 n87,
 n95,
 n105]
 w108 →
 R
 (Ending.returned
 (Value.bool
 false))
 w108) ∧
 ((!b86) =
 false →
 ((!b94) =
 true →
 ∀
 (w109 :
 World),
 Evo
 [n105]
 w100
 w109 →
 Under
 [n4,
 n77,
 n87,
 n95,
 n105]
 w109 →
 R
 (Ending.returned
 (Value.bool
 false))
 w109) ∧
 ((!b94) =
 false →
 ((!b104) =
 true →
 ∀
 (w110 :
 World),
 Evo
 [n105]
 w100
 w110 →
 Under
 [n4,
 n77,
 n87,
 n95,
 n105]
 w110 →
 R
 (Ending.returned
 (Value.bool
 false))
 w110) ∧
 ((!b104) =
 false →
 ∀
 (w111 :
 World),
 Evo
 [n105]
 w100
 w111 →
 Under
 [n4,
 n77,
 n87,
 n95,
 n105]
 w111 →
 Calls
 Proofs.Try.prog
 12
 #[Value.agg
 #[Value.int
 IntKind.i64
 x73,
 Value.int
 IntKind.i64
 x74,
 Value.int
 IntKind.i64
 x75],
 Value.agg
 #[Value.int
 IntKind.i64
 x83,
 Value.int
 IntKind.i64
 x84,
 Value.int
 IntKind.i64
 x85]]
 w111
 fun
 (e112 :
 Ending)
 (w113 :
 World) =>
 ∃
 (x114
 :
 Int),
 e112 =
 Ending.returned
 (Value.int
 IntKind.i64
 x114) ∧
 Keeps
 [n4,
 n77,
 n87,
 n95,
 n105]
 w111
 w113 ∧
 (decide
 (x114 >
 0) =
 true →
 R
 (Ending.returned
 (Value.bool
 false))
 w113) ∧
 (decide
 (x114 >
 0) =
 false →
 ∃
 (ad115
 :
 Addr),
 Gives
 Proofs.Try.prog
 (Instr.indexAt
 69
 (Value.slice
 a13
 n14
 n15)
 (Value.int
 IntKind.i64
 x64))
 (Value.pointer
 (some
 ad115)) ∧
 ∃
 (x116
 :
 Int),
 Reads
 Proofs.Try.prog
 []
 (Instr.loadAt
 3
 (Value.pointer
 (some
 (Addr.mk
 ad115.block
 (ad115.off +
 2)
 none))))
 w113
 (Value.int
 IntKind.i64
 x116) ∧
 ((x69 ==
 x116) =
 true →
 Calls
 Proofs.Try.prog
 12
 #[Value.agg
 #[Value.int
 IntKind.i64
 x91,
 Value.int
 IntKind.i64
 x92,
 Value.int
 IntKind.i64
 x93],
 Value.agg
 #[Value.int
 IntKind.i64
 x101,
 Value.int
 IntKind.i64
 x102,
 Value.int
 IntKind.i64
 x103]]
 w113
 fun
 (e117 :
 Ending)
 (w118 :
 World) =>
 ∃
 (x119
 :
 Int),
 e117 =
 Ending.returned
 (Value.int
 IntKind.i64
 x119) ∧
 Keeps
 [n4,
 n77,
 n87,
 n95,
 n105]
 w113
 w118 ∧
 (decide
 (x119 >
 0) =
 true →
 R
 (Ending.returned
 (Value.bool
 false))
 w118) ∧
 (decide
 (x119 >
 0) =
 false →
 J54
 (true,
 IntKind.i64.wrap
 (x57 +
 1),
 ())
 w118 ∧
 J55
 (true,
 IntKind.i64.wrap
 (x57 +
 1),
 ())
 w118 <
 J55
 (b56,
 x57,
 ())
 w58)) ∧
 ((x69 ==
 x116) =
 false →
 J54
 (true,
 IntKind.i64.wrap
 (x57 +
 1),
 ())
 w113 ∧
 J55
 (true,
 IntKind.i64.wrap
 (x57 +
 1),
 ())
 w113 <
 J55
 (b56,
 x57,
 ())
 w58))))))))))) ∧
 (decide (x57 < (↑some'n : Int)) = false →
 ∃ (J120 : Bool × Int × Unit → World → Prop),
 ∃ (J121 : Bool × Int × Unit → World → Nat),
 J120 (false, 0, ()) w58 ∧
 ∀ (b122 : Bool) (x123 : Int) (w124 : World),
 J120 (b122, x123, ()) w124 →
 (decide (x123 < (↑some'n : Int)) = true →
 (b122 = true → J120 (true, IntKind.i64.wrap (x123 + 1), ()) w124 ∧ J121 (true, IntKind.i64.wrap (x123 + 1), ()) w124 < J121 (b122, x123, ()) w124) ∧
 (b122 = false →
 ∃ (ad125 : Addr),
 Gives Proofs.Try.prog (Instr.indexAt 29 (Value.slice some'a some'n some'c) (Value.int IntKind.i64 x123)) (Value.pointer (some ad125)) ∧
 ∃ (x126 : Int),
 Reads Proofs.Try.prog [] (Instr.loadAt 2 (Value.pointer (some ad125))) w124 (Value.int IntKind.i64 x126) ∧
 J120 (x126 == x52, IntKind.i64.wrap (x123 + 1), ()) w124 ∧ J121 (x126 == x52, IntKind.i64.wrap (x123 + 1), ()) w124 < J121 (b122, x123, ()) w124)) ∧
 (decide (x123 < (↑some'n : Int)) = false →
 Calls Proofs.Try.prog 37 #[Value.pointer none, Value.slice some'a some'n some'c] w124 fun (e127 : Ending) (w128 : World) =>
 ∃ (x129 : Int),
 ∃ (b130 : Bool),
 e127 = Ending.returned (Value.tuple #[Value.int IntKind.i64 x129, Value.bool b130]) ∧
 Keeps [n4] w124 w128 ∧
 ((b53 == b56) = true →
 ((!b53) = true →
 ((x52 == 0) = true →
 ((!b130) = true →
 Calls Proofs.Try.prog 38 #[Value.pointer none, Value.int IntKind.i64 1, Value.int IntKind.i64 1, Value.int IntKind.i64 1] w128
 fun (e131 : Ending) (w132 : World) =>
 ∃ (x133 : Int),
 e131 = Ending.returned (Value.int IntKind.i64 x133) ∧
 Keeps [n4] w128 w132 ∧
 ((x133 == 40) = true →
 Calls Proofs.Try.prog 39 #[Value.pointer none, Value.slice none 0 0] w132 fun (e134 : Ending) (w135 : World) =>
 ∃ (b136 : Bool),
 e134 = Ending.returned (Value.bool b136) ∧
 Keeps [n4] w132 w135 ∧
 (b136 = true →
 Calls Proofs.Try.prog 36 #[] w135 fun (e137 : Ending) (w138 : World) =>
 ∃ (b139 : Bool),
 e137 = Ending.returned (Value.bool b139) ∧ Keeps [n4] w135 w138 ∧ R (Ending.returned (Value.bool b139)) w138) ∧
 (b136 = false → R (Ending.returned (Value.bool false)) w135)) ∧
 ((x133 == 40) = false → R (Ending.returned (Value.bool false)) w132)) ∧
 ((!b130) = false → R (Ending.returned (Value.bool false)) w128)) ∧
 ((x52 == 0) = false →
 (b53 = true →
 (b122 = true →
 ((!b130) = true →
 Calls Proofs.Try.prog 38 #[Value.pointer none, Value.int IntKind.i64 1, Value.int IntKind.i64 1, Value.int IntKind.i64 1] w128
 fun (e140 : Ending) (w141 : World) =>
 ∃ (x142 : Int),
 e140 = Ending.returned (Value.int IntKind.i64 x142) ∧
 Keeps [n4] w128 w141 ∧
 ((x142 == 40) = true →
 Calls Proofs.Try.prog 39 #[Value.pointer none, Value.slice none 0 0] w141 fun (e143 : Ending) (w144 : World) =>
 ∃ (b145 : Bool),
 e143 = Ending.returned (Value.bool b145) ∧
 Keeps [n4] w141 w144 ∧
 (b145 = true →
 Calls Proofs.Try.prog 36 #[] w144 fun (e146 : Ending) (w147 : World) =>
 ∃ (b148 : Bool),
 e146 = Ending.returned (Value.bool b148) ∧
 Keeps [n4] w144 w147 ∧ R (Ending.returned (Value.bool b148)) w147) ∧
 (b145 = false → R (Ending.returned (Value.bool false)) w144)) ∧
 ((x142 == 40) = false → R (Ending.returned (Value.bool false)) w141)) ∧
 ((!b130) = false → R (Ending.returned (Value.bool false)) w128)) ∧
 (b122 = false → R (Ending.returned (Value.bool false)) w128)) ∧
 (b53 = false → R (Ending.returned (Value.bool false)) w128))) ∧
 ((!b53) = false →
 (b53 = true →
 (b122 = true →
 ((!b130) = true →
 Calls Proofs.Try.prog 38 #[Value.pointer none, Value.int IntKind.i64 1, Value.int IntKind.i64 1, Value.int IntKind.i64 1] w128
 fun (e149 : Ending) (w150 : World) =>
 ∃ (x151 : Int),
 e149 = Ending.returned (Value.int IntKind.i64 x151) ∧
 Keeps [n4] w128 w150 ∧
 ((x151 == 40) = true →
 Calls Proofs.Try.prog 39 #[Value.pointer none, Value.slice none 0 0] w150 fun (e152 : Ending) (w153 : World) =>
 ∃ (b154 : Bool),
 e152 = Ending.returned (Value.bool b154) ∧
 Keeps [n4] w150 w153 ∧
 (b154 = true →
 Calls Proofs.Try.prog 36 #[] w153 fun (e155 : Ending) (w156 : World) =>
 ∃ (b157 : Bool),
 e155 = Ending.returned (Value.bool b157) ∧ Keeps [n4] w153 w156 ∧ R (Ending.returned (Value.bool b157)) w156) ∧
 (b154 = false → R (Ending.returned (Value.bool false)) w153)) ∧
 ((x151 == 40) = false → R (Ending.returned (Value.bool false)) w150)) ∧
 ((!b130) = false → R (Ending.returned (Value.bool false)) w128)) ∧
 (b122 = false → R (Ending.returned (Value.bool false)) w128)) ∧
 (b53 = false → R (Ending.returned (Value.bool false)) w128))) ∧
 ((b53 == b56) = false → R (Ending.returned (Value.bool false)) w128))))))
theorem f7_eq (la : Option Addr) (ln : Nat) (lc : Nat) (some'a : Option Addr) (some'n : Nat) (some'c : Nat) (w : World) (R : Ending → World → Prop) : (fnF Go.Proofs.Try.prog h7 Go.Proofs.Try.f7 [Value.slice la ln lc, Value.slice some'a some'n some'c] w R).den = f7_vc la ln lc some'a some'n some'c w R := by kernel_rfl
theorem f7_calls (la : Option Addr) (ln : Nat) (lc : Nat) (some'a : Option Addr) (some'n : Nat) (some'c : Nat) (w : World) (R : Ending → World → Prop) (h : f7_vc la ln lc some'a some'n some'c w R) : Calls Go.Proofs.Try.prog 7 (List.toArray [Value.slice la ln lc, Value.slice some'a some'n some'c]) w R :=
 fn_sound (H := h7) (fn := Go.Proofs.Try.f7) (by kernel_rfl) (by kernel_rfl) (by kernel_rfl) ((f7_eq la ln lc some'a some'n some'c w R).mpr h)

end Vcs

/- Tiers: works; walks where only Below is known. -/
set_option maxRecDepth 20000
set_option maxHeartbeats 2000000
set_option linter.unusedVariables false
namespace Go.Vc.S
open Go Go.Vc Go.RowKit Go.Proofs Go.Vc.T Vcs

variable {w W W' W1 : World} {M N B : Nat → Prop} {gs ds : List Nat} {g : Nat} {T n : Ar4} {m F : List Fr} {f : Fr} {h : Fr → Fr} {id r : Int} {a : Option Addr} {ln lc : Nat}

/-- The same world, nothing drawn: what only Below is known of is a change of it. -/
abbrev zro (w : World) : World := { w with drawn := 0 }
theorem at_zro (w : World) (M : Nat → Prop) : AtF (zro w) M [] w := ⟨⟨rfl, rfl, rfl, Nat.le_refl _, fun _ _ _ => rfl, Nat.zero_le _⟩, fun _ h => by cases h⟩
/-- A call of which only Below is known. -/
def RetW (f : FuncId) (args : Array Value) (W : World) (v : Value) : Prop := ∀ R : Ending → World → Prop, (∀ w', Below W.heap.size W w' → R (.returned v) w') → Calls Try.prog f args W R
theorem at_callW {f : FuncId} {args : Array Value} {v : Value} {K : Ending → World → Prop} (hA : AtF (zro w) M gs W) (hc : RetW f args W v) (hK : ∀ w', AtF (zro w) M gs w' → Keeps gs W w' → Below W.heap.size W w' → K (.returned v) w') : Calls Try.prog f args W K :=
  hc K fun w' hb => hK w' ⟨⟨hb.os.trans hA.chg.os, hb.tape.trans hA.chg.tape, hb.output.trans hA.chg.output, Nat.le_trans hA.chg.size hb.size, fun b hl hm => (hb.block b (Nat.lt_of_lt_of_le hl hA.chg.size)).trans (hA.chg.block b hl hm), Nat.zero_le _⟩, fun g hg => Nat.lt_of_lt_of_le (hA.under g hg) hb.size⟩ (fun g hg => hb.block g (hA.under g hg)) hb
theorem leafW {R : Ending → World → Prop} {v v' : Value} (h : ∀ w', Below w.heap.size w w' → R (.returned v) w') (hA : At (zro w) gs W) (e : v' = v) : R (.returned v') W := by
  subst e
  exact h W ⟨hA.chg.os, hA.chg.tape, hA.chg.output, hA.chg.size, fun b hb => hA.chg.block b hb id⟩
theorem TiX.bel (h : TiX W B g T F) (hb : Below W.heap.size W W') : TiX W' B g T F :=
  ((h.mono (B0 := fun b => B b ∧ b < W.heap.size) fun b hl hb => ⟨hb, hl⟩).keep (Stay.of hb.size fun b hB _ => hb.block b hB.2)).mono fun b _ hB => hB.1
/-- Tiers whose blocks are all new. -/
abbrev TiO (w W : World) (g : Nat) (T : Ar4) (F : List Fr) : Prop := TiX W (fun b => w.heap.size ≤ b ∧ b < W.heap.size) g T F
theorem TiO.call (h : TiO w W g T F) (hb : Bel W W') : TiO w W' g T F := (TiX.call h hb).mono fun b hl hx => ⟨hx.1, hl⟩
theorem TiO.bel (h : TiO w W g T F) (hb : Below W.heap.size W W') : TiO w W' g T F := (TiX.bel h hb).mono fun b hl hx => ⟨hx.1, hl⟩
theorem TiO.of (h : TiX W' (fun b => (w.heap.size ≤ b ∧ b < W.heap.size) ∨ W.heap.size ≤ b) g T F) (hs : w.heap.size ≤ W.heap.size) : TiO w W' g T F := h.mono fun b hl hx => ⟨hx.elim (fun e => e.1) fun e => Nat.le_trans hs e, hl⟩
theorem TiO.evo (h : TiO w W g T F) (he : Evo ds W W') (hd : ∀ d ∈ ds, d < w.heap.size ∨ W.heap.size ≤ d) : TiO w W' g T F := (TiX.evo h he fun d hm hb => by
  have := hd d hm
  omega).mono fun b hl hx => ⟨hx.1, hl⟩
theorem at_tt {f : FuncId} {args : Array Value} {q : List Fr × Int} {K : Ending → World → Prop} (hA : At w gs W) (hg : ∀ g ∈ gs, W.heap.size ≤ g ∨ g < w.heap.size) (hc : RetF Try.prog f args W (fun b => w.heap.size ≤ b ∧ b < W.heap.size) (TxQ W (fun b => w.heap.size ≤ b ∧ b < W.heap.size) g T q))
    (hK : ∀ W', At w gs W' → TiO w W' g T q.1 → K (.returned (.int .i64 q.2)) W') : Calls Try.prog f args W K := by
  refine at_callF hA hc (fun b _ hb => .inl hb.1) (fun g hm hb => by have := hg g hm; omega) fun v w5 hA2 _ _ hq => ?_
  have hv := hq.1
  subst hv
  exact hK w5 hA2 (TiO.of hq.2 hA.size)
/-! ### The example -/
abbrev F3 : List Fr := [⟨1, 5, 1, (3, 0, 0, 0), true⟩, ⟨2, 5, 1, (0, 0, 0, 0), true⟩, ⟨3, 4, 1, (2, 0, 0, 0), true⟩]
abbrev T10 : Ar4 := (10, 0, 0, 0)
theorem lessF {a b c d : Int} (h : 0 ≤ a ∧ a < b ∧ b ≤ 1000) : cfP ⟨a, 10, 1, c⟩ ⟨b, 10, 1, d⟩ < 0 := by
  have : sCmp a 10 1 b 10 1 = -1 := by
    unfold sCmp cmpI
    rw [if_pos ⟨⟨⟨by omega, by omega⟩, by omega, by omega, by omega, by omega⟩, ⟨by omega, by omega⟩, by omega, by omega, by omega, by omega⟩]
    rw [if_neg (by omega), if_pos (by omega)]
  simp only [cfP, this]
  rw [if_pos (by decide)]
  decide
theorem plc10 {x : Int × Cl} {s : Int} (hs : x.2.s = (s, 0, 0, 0)) (hx : 0 ≤ s ∧ s ≤ 1000) : plc T10 x = ⟨s, 10, x.2.w, x.1⟩ := by
  unfold plc
  rw [hs, dom10 s hx]
theorem ord_two {x y : Int × Cl} {s t : Int} (hg : Good T10 [x, y]) (hx : x.2.s = (s, 0, 0, 0)) (hy : y.2.s = (t, 0, 0, 0)) (hw : x.2.w = 1 ∧ y.2.w = 1) (ha : x.2.aw = true ∧ y.2.aw = true) (h : 0 ≤ s ∧ s < t ∧ t ≤ 1000) : (ordL T10 [x, y]).map Pl.d = [x.1, y.1] := by
  have e : ordL T10 [x, y] = [⟨s, 10, 1, x.1⟩, ⟨t, 10, 1, y.1⟩] := by
    have p1 := plc10 hx (by omega)
    have p2 := plc10 hy (by omega)
    rw [hw.1] at p1
    rw [hw.2] at p2
    refine ord_of hg ⟨?_, fun z => ?_⟩
    · unfold Tr.Srt
      refine List.pairwise_cons.2 ⟨fun z hz => ?_, by simp⟩
      rw [List.mem_singleton.1 hz]
      exact lessF h
    · constructor
      · intro hz
        simp at hz
        rcases hz with rfl | rfl
        · exact ⟨x, by simp, ha.1, p1.symm⟩
        · exact ⟨y, by simp, ha.2, p2.symm⟩
      · rintro ⟨q, hq, _, rfl⟩
        simp at hq
        rcases hq with rfl | rfl
        · rw [p1]; simp
        · rw [p2]; simp
  rw [e]
  rfl
theorem ord_one {x : Int × Cl} {s : Int} (hg : Good T10 [x]) (hx : x.2.s = (s, 0, 0, 0)) (hw : x.2.w = 1) (ha : x.2.aw = true) (h : 0 ≤ s ∧ s ≤ 1000) : (ordL T10 [x]).map Pl.d = [x.1] := by
  have e : ordL T10 [x] = [⟨s, 10, 1, x.1⟩] := by
    have p1 := plc10 hx h
    rw [hw] at p1
    refine ord_of hg ⟨by unfold Tr.Srt; simp, fun z => ?_⟩
    constructor
    · intro hz
      simp at hz
      subst hz
      exact ⟨x, by simp, ha, p1.symm⟩
    · rintro ⟨q, hq, _, rfl⟩
      simp at hq
      subst hq
      rw [p1]; simp
  rw [e]
  rfl
theorem all3 : allL F3 = [(4, ⟨1, (2, 0, 0, 0), true⟩), (5, ⟨1, (3, 0, 0, 0), true⟩)] := by rfl
theorem walk3 : walkL T10 F3 = [(4, 3), (5, 2), (5, 1)] := by
  have hT : sm4 T10 := by decide
  have g1 : Good T10 [((4 : Int), (⟨1, (2, 0, 0, 0), true⟩ : Cl)), (5, ⟨1, (3, 0, 0, 0), true⟩)] := ⟨by simp, by
    intro x hx
    simp at hx
    rcases hx with rfl | rfl
    · exact ⟨by decide, by decide, by decide⟩
    · exact ⟨by decide, by decide, by decide⟩, hT⟩
  have g2 : Good T10 [((3 : Int), (⟨1, (2, 0, 0, 0), true⟩ : Cl))] := ⟨by simp, by
    intro x hx
    simp at hx
    subst hx
    exact ⟨by decide, by decide, by decide⟩, hT⟩
  have g3 : Good T10 [((2 : Int), (⟨1, (0, 0, 0, 0), true⟩ : Cl)), (1, ⟨1, (3, 0, 0, 0), true⟩)] := ⟨by simp, by
    intro x hx
    simp at hx
    rcases hx with rfl | rfl
    · exact ⟨by decide, by decide, by decide⟩
    · exact ⟨by decide, by decide, by decide⟩, hT⟩
  have e1 : RL T10 F3 = [4, 5] := by
    unfold RL
    rw [all3]
    exact ord_two g1 rfl rfl ⟨rfl, rfl⟩ ⟨rfl, rfl⟩ (by omega)
  have e2 : OL T10 F3 4 = [3] := ord_one g2 rfl rfl rfl (by omega)
  have e3 : OL T10 F3 5 = [2, 1] := by
    have k1 := ord_two g3 rfl rfl ⟨rfl, rfl⟩ ⟨rfl, rfl⟩ (by omega : (0 : Int) ≤ 0 ∧ (0 : Int) < 3 ∧ (3 : Int) ≤ 1000)
    have g4 : Good T10 [((1 : Int), (⟨1, (3, 0, 0, 0), true⟩ : Cl)), (2, ⟨1, (0, 0, 0, 0), true⟩)] := ⟨by simp, by
      intro x hx
      simp at hx
      rcases hx with rfl | rfl
      · exact ⟨by decide, by decide, by decide⟩
      · exact ⟨by decide, by decide, by decide⟩, hT⟩
    have : ordL T10 [((1 : Int), (⟨1, (3, 0, 0, 0), true⟩ : Cl)), (2, ⟨1, (0, 0, 0, 0), true⟩)] = ordL T10 [((2 : Int), (⟨1, (0, 0, 0, 0), true⟩ : Cl)), (1, ⟨1, (3, 0, 0, 0), true⟩)] := by
      unfold ordL
      congr 1
      funext l
      unfold IsOrd
      have : ∀ y, (∃ x ∈ [((1 : Int), (⟨1, (3, 0, 0, 0), true⟩ : Cl)), (2, ⟨1, (0, 0, 0, 0), true⟩)], x.2.aw = true ∧ y = plc T10 x) ↔ (∃ x ∈ [((2 : Int), (⟨1, (0, 0, 0, 0), true⟩ : Cl)), (1, ⟨1, (3, 0, 0, 0), true⟩)], x.2.aw = true ∧ y = plc T10 x) := fun y => by
        constructor
        · rintro ⟨x, hx, r⟩
          exact ⟨x, by simp at hx ⊢; exact hx.symm, r⟩
        · rintro ⟨x, hx, r⟩
          exact ⟨x, by simp at hx ⊢; exact hx.symm, r⟩
      simp only [this]
    unfold OL
    show (ordL T10 [((1 : Int), (⟨1, (3, 0, 0, 0), true⟩ : Cl)), (2, ⟨1, (0, 0, 0, 0), true⟩)]).map Pl.d = _
    rw [this]
    exact k1
  unfold walkL
  rw [e1]
  simp [e2, e3]
end Go.Vc.S

/- Tiers: works. -/
set_option maxRecDepth 20000
set_option maxHeartbeats 2000000
set_option linter.unusedVariables false
namespace Go.Vc.S
open Go Go.Vc Go.RowKit Go.Proofs Go.Vc.T Vcs

variable {w W W' W1 : World} {M N B : Nat → Prop} {gs ds : List Nat} {g : Nat} {T n : Ar4} {m F : List Fr} {f : Fr} {h : Fr → Fr} {id r : Int} {a : Option Addr} {ln lc : Nat}

theorem c36 (w : World) : RetW 36 #[] w (.bool true) := by
  intro R h
  refine f36_calls w R ?_
  unfold f36_vc
  refine at_callq (at_zro w noB) (c26 w) fun v w2 hA _ _ ⟨g, hv, hX⟩ => ?_
  subst hv
  have hX : TiO (zro w) w2 g (0, 0, 0, 0) [] := hX.mono fun b hl hb => ⟨hb, hl⟩
  have hs : sm4 T10 := by decide
  refine ⟨_, rfl, at_callF hA (c70x hX (by decide) T10) (fun b _ hb => .inl hb.1) (by simp) fun v w5 hA5 _ _ hq => ?_⟩
  rw [if_pos hs] at hq
  obtain ⟨hv, hX⟩ := hq
  subst hv
  have hX : TiO (zro w) w5 g T10 [] := TiO.of hX hA.chg.size
  refine ⟨_, rfl, brE (fun _ => ?_) fun e => absurd rfl e⟩
  refine at_tt hA5 (by simp) (c38x hX (by decide) 1 5 1) fun w8 hA8 hX => ⟨_, rfl, brE (fun _ => ?_) fun e => absurd (by decide) e⟩
  have hX : TiO (zro w) w8 g T10 [⟨1, 5, 1, (0, 0, 0, 0), true⟩] := hX
  refine at_tt hA8 (by simp) (c38x hX (by simp) 2 5 1) fun w11 hA11 hX => ⟨_, rfl, brE (fun _ => ?_) fun e => absurd (by decide) e⟩
  have hX : TiO (zro w) w11 g T10 [⟨1, 5, 1, (0, 0, 0, 0), true⟩, ⟨2, 5, 1, (0, 0, 0, 0), true⟩] := hX
  refine at_tt hA11 (by simp) (c38x hX (by simp) 3 4 1) fun w14 hA14 hX => ⟨_, rfl, brE (fun _ => ?_) fun e => absurd (by decide) e⟩
  have hX : TiO (zro w) w14 g T10 [⟨1, 5, 1, (0, 0, 0, 0), true⟩, ⟨2, 5, 1, (0, 0, 0, 0), true⟩, ⟨3, 4, 1, (0, 0, 0, 0), true⟩] := hX
  refine at_tt hA14 (by simp) (c73x hX 1 (by simp) (3, 0, 0, 0)) fun w17 hA17 hX => ⟨_, rfl, brE (fun _ => ?_) fun e => absurd (by decide) e⟩
  have hX : TiO (zro w) w17 g T10 [⟨1, 5, 1, (3, 0, 0, 0), true⟩, ⟨2, 5, 1, (0, 0, 0, 0), true⟩, ⟨3, 4, 1, (0, 0, 0, 0), true⟩] := hX
  refine at_tt hA17 (by simp) (c73x hX 3 (by simp) (2, 0, 0, 0)) fun w20 hA20 hX => ⟨_, rfl, ?_⟩
  have hX : TiO (zro w) w20 g T10 F3 := hX
  refine opw_litL (t := 29) (e' := 2) (size := 1) (f := i1E) (l := [(1 : Int), 2]) hA20 rfl (fun _ _ => rfl) (by decide) (by kernel_rfl) fun q w23 hq hA23 _ hb23 ho => ⟨_, _, _, rfl, ?_⟩
  have hX := TiO.call hX hb23
  have s23 := ho.sl fun _ _ => rfl
  refine at_callW hA23 (fun R h => c37x hX (by simp) s23 (by decide) R h) fun w28 hA28 _ hb28 => ?_
  rw [walk3]
  refine ⟨_, _, rfl, ?_⟩
  have hX := TiO.bel hX hb28
  refine opw_litL (t := 29) (e' := 2) (size := 1) (f := i1E) (l := [(1 : Int), 3]) hA28 rfl (fun _ _ => rfl) (by decide) (by kernel_rfl) fun q2 w32 hq2 hA32 _ hb32 ho2 => ⟨_, _, _, rfl, ?_⟩
  have hX := TiO.call hX hb32
  have s32 := ho2.sl fun _ _ => rfl
  refine at_callW hA32 (fun R h => c37x hX (by simp) s32 (by decide) R h) fun w37 hA37 _ hb37 => ?_
  rw [walk3]
  refine ⟨_, _, rfl, ?_⟩
  have hX := TiO.bel hX hb37
  have hc34 := c34x hX 5
  rw [show mget 5 (allL F3) = some ⟨1, (3, 0, 0, 0), true⟩ from rfl, shaV, dom10 3 (by omega)] at hc34
  refine at_callb hA37 hc34 fun w41 hA41 _ hb41 => ⟨_, _, _, _, rfl, fun n46 h46 => ?_⟩
  have hX := TiO.call hX hb41
  refine brE (fun _ => brE (fun _ => brB (fun _ => brE (fun _ => brB (fun _ => brB (fun _ => ⟨fun _ w47 he hu => ?_, fun e => by simp at e⟩) fun e => by cases e) fun e => by cases e) fun e => absurd (by decide) e) fun e => by cases e) fun e => absurd (by decide) e) fun e => absurd (by decide) e
  have hA47 := hA41.evo (gs' := [n46]) (by simp; exact Nat.le_trans hA41.chg.size h46) he hu
  have hX : TiX w47 (fun b => (zro w).heap.size ≤ b ∧ b < w41.heap.size) g T10 F3 := TiX.evo hX he (fun d hd hb => by simp at hd; omega)
  refine at_callF hA47 (c38x hX (by simp) 4 5 2) (fun b _ hb => .inl hb.1) (fun x hx hb => by simp at hx; omega) fun v w49 hA49 hk _ hq => ?_
  obtain ⟨hv, _⟩ := hq
  subst hv
  exact ⟨_, rfl, hk, leafW h hA49 rfl⟩
end Go.Vc.S

/- Law 6: tiers tell what was put in, given and taken. -/
set_option maxRecDepth 20000
set_option maxHeartbeats 4000000
set_option linter.unusedVariables false
namespace Go.Vc.S
open Go Go.Vc Go.RowKit Go.Proofs Go.Vc.T Vcs

variable {w W W' W1 : World} {M N B : Nat → Prop} {gs ds : List Nat} {g : Nat} {T n : Ar4} {m F : List Fr} {f : Fr} {h : Fr → Fr} {id r : Int} {a : Option Addr} {ln lc : Nat}

/-- What holds between acts. -/
structure PlT (w W : World) (g n4 : Nat) (T : Ar4) (F : List Fr) (s : Value) (B : Nat → Prop) : Prop where
  so : TiX W B g T F
  low : ∀ b, B b → w.heap.size ≤ b ∧ b < W.heap.size
  nB : ¬ B n4
  row : OwnL w [n4] W 80 8 frE s F
  ap : ∀ k, s.ownBlock = some k → ¬ B k
theorem OwnL.gsT {α : Type} {gs gs' : List Nat} {e : TypeId} {size : Nat} {f : α → List Value} {v : Value} {l : List α} (h : OwnL w gs W e size f v l) (hg : ∀ x ∈ gs', v.ownBlock ≠ some x) : OwnL w gs' W e size f v l := OwnF.base h (fun k hk => h.mine k hk) hg
abbrev taE (a : TA) : List Value := [.int .i64 a.1, .int .i64 a.2.1, .int .i64 a.2.2.1, .int .i64 a.2.2.2.1, .int .i64 a.2.2.2.2.1, .int .i64 a.2.2.2.2.2.1, .int .i64 a.2.2.2.2.2.2.1, .int .i64 a.2.2.2.2.2.2.2]
theorem all_getR (hF : FOk F) (r : Int) : mget r (allL F) = if isR F r = true then some (rcl F r) else none := by
  rw [all_get]
  by_cases h : isR F r = true
  · obtain ⟨f, hf, rfl⟩ := isR_iff.1 h
    rw [if_pos ⟨(hF.ok f hf).1, h⟩, if_pos h]
  · rw [if_neg (fun hh => h hh.2), if_neg h]
theorem wF_none (h : ¬ isR F r = true) : wF F r = 0 := by
  unfold wF
  rw [List.find?_eq_none.2 (fun f hf => by
    intro hh
    exact h (isR_iff.2 ⟨f, hf, by simpa using hh⟩))]
  rfl
theorem atF_none (h : fget F id = none) : atF id F = -1 := by
  unfold atF atI
  cases hx : midx id (mF F) with
  | none => rfl
  | some i =>
    obtain ⟨f, _, _, hg⟩ := fidx_some hx
    rw [h] at hg
    cases hg
theorem atF_some (h : fget F id = some f) : ∃ i : Nat, atF id F = i ∧ F[i]? = some f := by
  unfold atF atI
  cases hx : midx id (mF F) with
  | none => rw [fidx_none hx] at h; cases h
  | some i =>
    obtain ⟨f', h1, _, hg⟩ := fidx_some hx
    rw [h] at hg
    cases hg
    exact ⟨i, rfl, h1⟩
theorem doT_len' (s : TS) (a : TA) : (doT s a).1.2.length ≤ s.2.length + 1 := doT_len s a
/-- One act, by both. -/
theorem act_row {s : Value} {x : TA} {n4 : Nat} {v : Value} {w26 w28 : World} (hA26 : At w [n4] w26) (hlow : ∀ b, B b → w.heap.size ≤ b ∧ b < w26.heap.size) (hn4 : n4 < w26.heap.size) (hrow : OwnL w [n4] w26 80 8 frE s F) (hap : ∀ k, s.ownBlock = some k → ¬ B k) (hb28 : Bel w26 w28) (hq : StepN w26 s F (doT (T, F) x) v w28) :
    ∃ a' c' , v = .tuple #[mV (doT (T, F) x).1.1 (.slice a' (doT (T, F) x).1.2.length c'), .int .i64 (doT (T, F) x).2] ∧ OwnL w [] w28 80 8 frE (.slice a' (doT (T, F) x).1.2.length c') (doT (T, F) x).1.2 ∧ ∀ k, (Value.slice a' (doT (T, F) x).1.2.length c').ownBlock = some k → ((¬ B k) ∧ k ≠ n4 ∧ k < w28.heap.size) := by
  obtain ⟨s', hv, hq⟩ := hq
  have hs28 := hb28.size
  have hrow' : OwnL w [] w28 80 8 frE s' (doT (T, F) x).1.2 ∧ ∀ k, s'.ownBlock = some k → ((¬ B k) ∧ k ≠ n4 ∧ k < w28.heap.size) := by
    rcases hq with ⟨e1, e2⟩ | hq
    · rw [e1, e2]
      exact ⟨OwnL.gsT (hrow.call hb28) (by simp), fun k hk => ⟨hap k hk, fun e => hrow.apart n4 (by simp) (e ▸ hk), by have := hrow.lt k hk; omega⟩⟩
    · have ho : OwnL w [] w28 80 8 frE s' (doT (T, F) x).1.2 := OwnF.ret hA26.off hq rfl rfl
      refine ⟨ho, fun k hk => ⟨fun e => ?_, ?_, ho.lt k hk⟩⟩
      · have := (hq.lt k hk).1
        have := hlow k e
        omega
      · have := (hq.lt k hk).1
        omega
  obtain ⟨hrow', hap'⟩ := hrow'
  obtain ⟨a33, c35, e33, _⟩ := hrow'.slice fun _ _ => rfl
  subst e33
  exact ⟨_, _, hv, hrow', hap'⟩
theorem law6 {L : List TA} {la : Option Addr} {ln lc : Nat} (frame role : Int) (w : World) (hL : SlE w 8 taE L la ln lc) : RetW 6 #[.slice la ln lc, .int .i64 frame, .int .i64 role] w (.bool true) := by
  intro R h
  have hLz : SlE (zro w) 8 taE L la ln lc := hL
  refine f6_calls _ _ _ _ _ w R ?_
  unfold f6_vc
  refine brD (fun _ => leafW h (at_zro w noB) rfl) fun hle => ?_
  refine at_callq (at_zro w noB) (c26 w) fun v w2 hA _ hb2 ⟨g, hv, hX⟩ => ?_
  subst hv
  have hX : TiO (zro w) w2 g (0, 0, 0, 0) [] := hX.mono fun b hl hb => ⟨hb, hl⟩
  have hln := hL.1
  refine ⟨_, rfl, fun n4 h4 => ?_⟩
  have hw2 : w.heap.size ≤ w2.heap.size := hA.chg.size
  refine ⟨fun s W => At (zro w) [n4] W ∧ ∃ (i : Nat) (T : Ar4) (F : List Fr) (B : Nat → Prop), s.1 = i ∧ i ≤ ln ∧ F.length ≤ i ∧ (s.2.1, s.2.2.1, s.2.2.2.1, s.2.2.2.2.1) = T ∧ PlT (zro w) W g n4 T F (.slice s.2.2.2.2.2.1.1 s.2.2.2.2.2.1.2.1 s.2.2.2.2.2.1.2.2) B, fun s _ => ln - s.1.toNat, fun w7 he hu => ?_, ?_⟩
  · have hb := he.bel (by simpa using h4)
    exact ⟨⟨(hA.call hb).chg, hu⟩, 0, _, [], _, rfl, Nat.zero_le _, Nat.le_refl _, rfl, TiX.call hX hb, fun b hb' => ⟨hb'.1, Nat.lt_of_lt_of_le hb'.2 hb.size⟩, fun e => by omega, OwnF.nil, fun k hk => by cases hk⟩
  rintro x8 x9 x10 x11 x12 a13 n14 n15 w16 ⟨hA, i, T, F, B, hi, hil, hml, hT, hP⟩
  simp only at hi hT hP
  subst hi hT
  generalize hTT : ((x9, x10, x11, x12) : Ar4) = T at hP
  have t1 : x9 = T.1 := by rw [← hTT]
  have t2 : x10 = T.2.1 := by rw [← hTT]
  have t3 : x11 = T.2.2.1 := by rw [← hTT]
  have t4 : x12 = T.2.2.2 := by rw [← hTT]
  subst t1 t2 t3 t4
  clear hTT
  obtain ⟨hX, hlow, hnB, hrow, hap⟩ := hP
  have hlow : ∀ b, B b → w.heap.size ≤ b ∧ b < w16.heap.size := hlow
  obtain ⟨a13', c13', e13, hsl⟩ := hrow.slice fun _ _ => rfl
  cases e13
  have hu4 := hA.under n4 (by simp)
  have hA16 := hA
  have hzs : (zro w).heap.size = w.heap.size := rfl
  have hFok := hX.ok
  refine brD (fun hlt => ?_) fun hge => ?_
  · have hiL : i < L.length := by omega
    have hgL := List.getElem?_eq_getElem hiL
    have hmd := doT_len (T, F) L[i]
    simp only at hmd
    obtain ⟨ad, g1, el0, _⟩ := elt_at (P := Try.prog) (k := .i64) (t := 66) hLz hgL (e := 75) (by kernel_rfl) (by kernel_rfl)
    refine ⟨ad, g1, _, _, _, _, _, _, _, _, (el0.below hA.below).agg 8 (by kernel_rfl) (by kernel_rfl) (by simp) no_ds, go_below_too hA fun w26 hA hb26 => ?_⟩
    have hs26 := hb26.size
    refine at_callq hA (c27 _ T hFok (hsl.call hb26) (by omega) L[i]) fun v w28 hA2 hk28 hb28 hq => ?_
    obtain ⟨a', c', hv, hrow', hap'⟩ := act_row hA (fun b hb => by have := hlow b hb; omega) (hA.under n4 (by simp)) (hrow.call hb26) hap hb28 hq
    subst hv
    have hs28 := hb28.size
    refine ⟨_, _, _, _, _, _, _, _, rfl, hk28, ad, g1, _, _, _, _, _, _, _, _, (el0.below hA2.below).agg 8 (by kernel_rfl) (by kernel_rfl) (by simp) (el0.far (by simp; omega)), go_evo_too hA2 (by simp; omega) fun w46 hA he => ?_⟩
    have hX46 : TiX w46 B g T F := ((hX.call hb26).call hb28).evo he fun d hd hB => by
      rw [List.mem_singleton.1 hd] at hB
      exact absurd hB hnB
    have hs46 := he.size
    have hrow46 : OwnL (zro w) [n4] w46 80 8 frE _ _ := (OwnL.gsT hrow' (show ∀ x ∈ [n4], _ ≠ some x from fun x hx e => by have := hap' x e; simp at hx; omega)).evo (by simp) he
    refine at_callF hA (c28 hX46 (by omega) L[i]) (fun b _ hb => .inl (hlow b hb).1) (fun y hy hb => by
      simp at hy
      subst hy
      exact hnB hb) fun v w48 hA hk hch ⟨hv, hX48⟩ => ?_
    subst hv
    have hs48 := hch.size
    have hw : IntKind.i64.wrap ((i : Int) + 1) = ((i + 1 : Nat) : Int) := by rw [wrap_i64 (by omega) (by omega)]; omega
    rw [hw]
    refine ⟨_, rfl, hk, ⟨hA, i + 1, _, _, fun b => (B b ∨ w46.heap.size ≤ b) ∧ b < w48.heap.size, rfl, by omega, ?_, rfl, ⟨hX48.mono fun b hl hb => ⟨hb, hl⟩, fun b hb => ⟨?_, hb.2⟩, fun e => ?_, hrow46.chg hch fun k hk hB => (hap' k hk).1 hB, fun k hk hB => ?_⟩⟩, by simp only; omega⟩
    · omega
    · rcases hb.1 with h | h
      · exact (hlow b h).1
      · show w.heap.size ≤ b
        have : w.heap.size ≤ w16.heap.size := hA16.chg.size
        omega
    · rcases e.1 with h | h
      · exact hnB h
      · omega
    · have := hap' k hk
      rcases hB.1 with h | h
      · exact this.1 h
      · omega
  · have e9 := c29 hX frame
    have e0 := c30 hX frame
    cases hg : fget F frame with
    | none =>
      rw [hg] at e9 e0
      have hat := atF_none hg
      refine at_callb hA e9 fun w51 hA hk hb51 => ⟨_, _, rfl, hk, ?_⟩
      have hX := hX.call hb51
      have e0 := c30 hX frame
      rw [hg] at e0
      refine at_callb hA e0 fun w55 hA hk hb55 => ⟨_, _, _, _, rfl, hk, fun n60 h60 => go_evo_too hA (by have := hA.chg.size; simp at this ⊢; omega) fun w61 hA he61 => ?_⟩
      have hX := (hX.call hb55).evo he61 fun d hd hB => by simp at hd; omega
      have hrow : OwnL (zro w) [n4] w61 80 8 frE _ _ := ((hrow.call hb51).call hb55).evo (fun d hd _ => by simp at hd; omega) he61
      obtain ⟨_, _, e61, hsl61⟩ := hrow.slice fun _ _ => rfl
      cases e61
      refine at_callb hA (c31 _ hsl61 (by omega) frame) fun w63 hA hk hb63 => ⟨_, rfl, hk, ?_⟩
      rw [hat]
      have hX := hX.call hb63
      have hrow := hrow.call hb63
      refine ⟨fun e => by simp at e, fun _ => ⟨fun e => by simp at e, fun _ => ⟨fun e => (by cases e), fun _ => ⟨fun _ => ⟨fun e => by simp at e, fun _ => go_below_too hA fun w153 hA hb153 => ?_⟩, fun e => by simp at e⟩⟩⟩⟩
      have hX := hX.call hb153
      have hrow := hrow.call hb153
      refine at_callb hA (c33x hX role) fun w81 hA hk hb81 => ?_
      have hX := hX.call hb81
      have hrow := hrow.call hb81
      rw [all_getR hFok]
      by_cases hr : isR F role = true
      · rw [if_pos hr]
        refine ⟨_, _, rfl, hk, ?_⟩
        have hc34 := c34x hX role
        rw [all_getR hFok, if_pos hr] at hc34
        refine at_callb hA hc34 fun w85 hA hk hb85 => ⟨_, _, _, _, rfl, hk, fun n90 h90 => go_evo_too hA (by have := hA.chg.size; simp at this ⊢; omega) fun w91 hA he91 => ?_⟩
        have hrow := (hrow.call hb85).evo (fun d hd _ => by simp at hd; omega) he91
        obtain ⟨_, _, e91, hsl91⟩ := hrow.slice fun _ _ => rfl
        cases e91
        refine at_callb hA (c35 _ hFok hsl91 (by omega) role) fun w93 hA hk hb93 => ⟨_, _, _, _, _, _, rfl, hk, go_n hA fun n100 h100 => ?_⟩
        refine brE (fun _ => brE (fun _ => brE (fun _ => brNB (fun e => absurd hr (by rw [e]; decide)) fun _ => go_evo hA (by simpa using h100) fun w105 hA => ?_) fun e => absurd rfl e) fun e => absurd hr.symm e) fun e => absurd hr.symm e
        refine at_call hA (c32 _ T (sumF F role) ⟨_, _, _, rfl⟩) fun w107 hA hk => ⟨_, _, rfl, hk, ?_⟩
        refine ⟨fun _ => brE (fun _ => at_callW hA (c36 _) fun w111 hA hk _ => ⟨_, rfl, hk, leafW h hA rfl⟩) fun e => absurd rfl e, fun e => by simp [rcl] at e⟩
      · rw [if_neg hr]
        have hr' : isR F role = false := by simpa using hr
        refine ⟨_, _, rfl, hk, ?_⟩
        have hc34 := c34x hX role
        rw [all_getR hFok, if_neg hr] at hc34
        refine at_callb hA hc34 fun w85 hA hk hb85 => ⟨_, _, _, _, rfl, hk, fun n90 h90 => go_evo_too hA (by have := hA.chg.size; simp at this ⊢; omega) fun w91 hA he91 => ?_⟩
        have hrow := (hrow.call hb85).evo (fun d hd _ => by simp at hd; omega) he91
        obtain ⟨_, _, e91, hsl91⟩ := hrow.slice fun _ _ => rfl
        cases e91
        refine at_callb hA (c35 _ hFok hsl91 (by omega) role) fun w93 hA hk hb93 => ⟨_, _, _, _, _, _, rfl, hk, go_n hA fun n100 h100 => ?_⟩
        refine brE (fun _ => brE (fun _ => brE (fun _ => brNB (fun _ => go_evo hA (by simpa using h100) fun w101 hA => at_callW hA (c36 _) fun w103 hA hk _ => ⟨_, rfl, hk, leafW h hA rfl⟩) fun e => absurd e hr) fun e => absurd (wF_none hr).symm e) fun e => absurd hr'.symm e) fun e => absurd hr'.symm e
    | some f =>
      rw [hg] at e9 e0
      obtain ⟨ix, hat, hfi⟩ := atF_some hg
      refine at_callb hA e9 fun w51 hA hk hb51 => ⟨_, _, rfl, hk, ?_⟩
      have hX := hX.call hb51
      have e0 := c30 hX frame
      rw [hg] at e0
      refine at_callb hA e0 fun w55 hA hk hb55 => ⟨_, _, _, _, rfl, hk, fun n60 h60 => go_evo_too hA (by have := hA.chg.size; simp at this ⊢; omega) fun w61 hA he61 => ?_⟩
      have hX := (hX.call hb55).evo he61 fun d hd hB => by simp at hd; omega
      have hrow : OwnL (zro w) [n4] w61 80 8 frE _ _ := ((hrow.call hb51).call hb55).evo (fun d hd _ => by simp at hd; omega) he61
      obtain ⟨_, _, e61, hsl61⟩ := hrow.slice fun _ _ => rfl
      cases e61
      refine at_callb hA (c31 _ hsl61 (by omega) frame) fun w63 hA hk hb63 => ⟨_, rfl, hk, ?_⟩
      rw [hat]
      have hX := hX.call hb63
      have hrow := hrow.call hb63
      have hsl63 := hsl61.call hb63
      obtain ⟨ad, g1, el, _⟩ := elt_at (P := Try.prog) (k := .i64) (t := 69) hsl63 hfi (e := 80) (by kernel_rfl) (by kernel_rfl)
      refine ⟨fun e => by simp at e, fun _ => ⟨fun e => by simp at e, fun _ => ⟨fun _ => ?_, fun e => (by cases e)⟩⟩⟩
      refine ⟨ad, g1, _, (el.sub (o := 2) (by decide)).one (by kernel_rfl) no_ds, brN (fun e => absurd rfl e) fun _ => ⟨ad, g1, _, _, _, _, (el.sub (o := 3) (by decide)).agg 4 (by kernel_rfl) (by kernel_rfl) (by simp) no_ds, go_below_too hA fun w75 hA hb75 => ?_⟩⟩
      refine at_callb hA (c32 _ T f.s ⟨_, _, _, rfl⟩) fun w77 hA hk hb77 => ⟨_, _, rfl, hk, (((el.below hb75).below hb77).sub (o := 2) (by decide)).one (by kernel_rfl) no_ds, ?_⟩
      have hX := (hX.call hb75).call hb77
      have hrow := (hrow.call hb75).call hb77
      refine ⟨fun e => by simp [clF] at e, fun _ => brN (fun e => absurd rfl e) fun _ => ⟨fun e => by simp at e, fun _ => ?_⟩⟩
      refine at_callb hA (c33x hX role) fun w81 hA hk hb81 => ?_
      have hX := hX.call hb81
      have hrow := hrow.call hb81
      rw [all_getR hFok]
      by_cases hr : isR F role = true
      · rw [if_pos hr]
        refine ⟨_, _, rfl, hk, ?_⟩
        have hc34 := c34x hX role
        rw [all_getR hFok, if_pos hr] at hc34
        refine at_callb hA hc34 fun w85 hA hk hb85 => ⟨_, _, _, _, rfl, hk, fun n90 h90 => go_evo_too hA (by have := hA.chg.size; simp at this ⊢; omega) fun w91 hA he91 => ?_⟩
        have hrow := (hrow.call hb85).evo (fun d hd _ => by simp at hd; omega) he91
        obtain ⟨_, _, e91, hsl91⟩ := hrow.slice fun _ _ => rfl
        cases e91
        refine at_callb hA (c35 _ hFok hsl91 (by omega) role) fun w93 hA hk hb93 => ⟨_, _, _, _, _, _, rfl, hk, go_n hA fun n100 h100 => ?_⟩
        refine brE (fun _ => brE (fun _ => brE (fun _ => brNB (fun e => absurd hr (by rw [e]; decide)) fun _ => go_evo hA (by simpa using h100) fun w105 hA => ?_) fun e => absurd rfl e) fun e => absurd hr.symm e) fun e => absurd hr.symm e
        refine at_call hA (c32 _ T (sumF F role) ⟨_, _, _, rfl⟩) fun w107 hA hk => ⟨_, _, rfl, hk, ?_⟩
        refine ⟨fun _ => brE (fun _ => at_callW hA (c36 _) fun w111 hA hk _ => ⟨_, rfl, hk, leafW h hA rfl⟩) fun e => absurd rfl e, fun e => by simp [rcl] at e⟩
      · rw [if_neg hr]
        have hr' : isR F role = false := by simpa using hr
        refine ⟨_, _, rfl, hk, ?_⟩
        have hc34 := c34x hX role
        rw [all_getR hFok, if_neg hr] at hc34
        refine at_callb hA hc34 fun w85 hA hk hb85 => ⟨_, _, _, _, rfl, hk, fun n90 h90 => go_evo_too hA (by have := hA.chg.size; simp at this ⊢; omega) fun w91 hA he91 => ?_⟩
        have hrow := (hrow.call hb85).evo (fun d hd _ => by simp at hd; omega) he91
        obtain ⟨_, _, e91, hsl91⟩ := hrow.slice fun _ _ => rfl
        cases e91
        refine at_callb hA (c35 _ hFok hsl91 (by omega) role) fun w93 hA hk hb93 => ⟨_, _, _, _, _, _, rfl, hk, go_n hA fun n100 h100 => ?_⟩
        refine brE (fun _ => brE (fun _ => brE (fun _ => brNB (fun _ => go_evo hA (by simpa using h100) fun w101 hA => at_callW hA (c36 _) fun w103 hA hk _ => ⟨_, rfl, hk, leafW h hA rfl⟩) fun e => absurd e hr) fun e => absurd (wF_none hr).symm e) fun e => absurd hr'.symm e) fun e => absurd hr'.symm e
end Go.Vc.S

/- The arguments of tiers' laws, read. -/
set_option maxRecDepth 20000
set_option linter.unusedVariables false
namespace Go.Vc.S
open Go Go.Vc Go.RowKit
abbrev taG : GT := .st (.pair iG (.pair iG (.pair iG (.pair iG (.pair a4G .unit)))))
def taOf (x : Int × Int × Int × Int × A4A × Unit) : TA := (x.1, x.2.1, x.2.2.1, x.2.2.2.1, a4Of x.2.2.2.2.1)
theorem ta_R {w : World} {x : taG.T} {cs : List Value} (h : taG.R w x cs) : cs = taE (taOf x) := by
  obtain ⟨c1, c2, rfl, ⟨rfl, _, _⟩, c3, c4, rfl, ⟨rfl, _, _⟩, c5, c6, rfl, ⟨rfl, _, _⟩, e5, e6, rfl, ⟨rfl, _, _⟩, c7, c8, rfl, hm, rfl⟩ := h
  obtain ⟨d1, d2, rfl, ⟨rfl, _, _⟩, d3, d4, rfl, ⟨rfl, _, _⟩, d5, d6, rfl, ⟨rfl, _, _⟩, d7, d8, rfl, ⟨rfl, _, _⟩, rfl⟩ := hm
  rfl
theorem tas_V {w : World} {l : (GT.sl taG).T} {v : Value} (h : GT.V w (.sl taG) l v) : ∃ L a n c, v = .slice a n c ∧ SlE w 8 taE L a n c := by
  obtain ⟨a, n, c, hv, hs⟩ := h
  simp at hv
  exact ⟨_, a, n, c, hv, row_M (k := taOf) hs fun _ _ h => ta_R h⟩
theorem intsT_V {w : World} {l : (GT.sl iG).T} {v : Value} (h : GT.V w (.sl iG) l v) : ∃ L a n c, v = .slice a n c ∧ SlE w 1 i1E L a n c := by
  obtain ⟨a, n, c, hv, hs⟩ := h
  simp at hv
  exact ⟨_, a, n, c, hv, row_M (k := fun x => x) hs fun _ _ ⟨h, _, _⟩ => h⟩
end Go.Vc.S

/- Law 7, plainly: who is picked has the least share. -/
set_option maxRecDepth 20000
set_option maxHeartbeats 1000000
set_option linter.unusedVariables false
namespace Go.Vc.S
open Go Go.Vc Go.RowKit Go.Proofs Go.Vc.T Vcs

variable {w W W' : World} {B : Nat → Prop} {g : Nat} {T : Ar4} {F : List Fr} {f f' : Fr} {id r q : Int} {S : List Int}

theorem cnt_pos : 0 < cntF F r ↔ ∃ f ∈ F, f.role = r ∧ f.aw = true := by
  unfold cntF
  induction F with
  | nil => simp [agF]
  | cons x F ih =>
    have hn : 0 ≤ agF one1 r F := by
      have := cnt_range r F
      exact this.1
    rw [agF]
    constructor
    · intro h
      by_cases e : x.role = r ∧ x.aw = true
      · exact ⟨x, by simp, e⟩
      · have : 0 < agF one1 r F := by
          unfold one1 at h
          unfold one1
          by_cases e1 : x.role = r
          · have e2 : x.aw = false := by
              cases hx : x.aw with
              | false => rfl
              | true => exact absurd ⟨e1, hx⟩ e
            rw [if_pos e1, e2] at h
            simpa using h
          · rw [if_neg e1] at h
            simpa using h
        obtain ⟨f, hf, h2⟩ := ih.1 this
        exact ⟨f, by simp [hf], h2⟩
    · rintro ⟨f, hf, h1, h2⟩
      rcases List.mem_cons.1 hf with rfl | hf
      · rw [if_pos h1]
        unfold one1 at *
        rw [h2]
        simp
        omega
      · have := ih.2 ⟨f, hf, h1, h2⟩
        split
        · unfold one1 at *
          split <;> omega
        · omega
/-- Two lists in order. -/
structure Ords (T : Ar4) (F : List Fr) : Prop where
  ok : FOk F
  all : IsOrd T (allL F) (ordL T (allL F))
  own : ∀ r, isR F r = true → IsOrd T (ownL F r) (ordL T (ownL F r))
theorem TiX.ords (h : TiX W B g T F) : Ords T F := by
  obtain ⟨B', p, mr, mf, hsub, hT, hr, hm⟩ := h.ex
  refine ⟨h.ok, hT.all.is.1, fun r hr' => ?_⟩
  obtain ⟨f, hf, rfl⟩ := isR_iff.1 hr'
  obtain ⟨gr, hy⟩ := hr.of hf
  exact (hT.own _ _ hy).is.1
def awk (F : List Fr) (id : Int) : Bool := match fget F id with
  | some f => f.aw
  | none => false
def ltR (T : Ar4) (F : List Fr) (r r' : Int) : Prop := cfP (plc T (r, rcl F r)) (plc T (r', rcl F r')) < 0
def ltO (T : Ar4) (F : List Fr) (id id' : Int) : Prop := ∀ f f', fget F id = some f → fget F id' = some f' → cfP (plc T (id, clF f)) (plc T (id', clF f')) < 0
theorem mem_all {x : Int × Cl} (h : x ∈ allL F) : x = (x.1, rcl F x.1) ∧ isR F x.1 = true := by
  unfold allL at h
  obtain ⟨r, hr, rfl⟩ := List.mem_map.1 h
  exact ⟨rfl, (List.mem_filter.1 hr).2⟩
theorem mem_own {x : Int × Cl} (hn : (F.map (·.fid)).Nodup) (h : x ∈ ownL F r) : ∃ f, fget F x.1 = some f ∧ f.role = r ∧ x.2 = clF f := by
  unfold ownL at h
  obtain ⟨f, hf, rfl⟩ := List.mem_map.1 h
  have h2 := List.mem_filter.1 hf
  exact ⟨f, fget_of hn h2.1, by simpa using h2.2, rfl⟩
theorem RL_mem (h : Ords T F) : r ∈ RL T F ↔ ∃ f ∈ F, f.role = r ∧ f.aw = true := by
  unfold RL
  rw [List.mem_map]
  constructor
  · rintro ⟨y, hy, rfl⟩
    obtain ⟨x, hx, ha, rfl⟩ := (h.all.2 y).1 hy
    obtain ⟨e, _⟩ := mem_all hx
    rw [e] at ha
    show ∃ f ∈ F, f.role = x.1 ∧ f.aw = true
    exact cnt_pos.1 (by simpa [rcl] using ha)
  · rintro ⟨f, hf, rfl, ha⟩
    refine ⟨plc T (f.role, rcl F f.role), (h.all.2 _).2 ⟨(f.role, rcl F f.role), mem_of_mget ?_, ?_, rfl⟩, rfl⟩
    · rw [all_get, if_pos ⟨(h.ok.ok f hf).1, isR_of hf⟩]
    · have := cnt_pos.2 ⟨f, hf, rfl, ha⟩
      simpa [rcl] using this
theorem OL_mem (h : Ords T F) (hr : isR F r = true) : id ∈ OL T F r ↔ ∃ f, fget F id = some f ∧ f.role = r ∧ f.aw = true := by
  unfold OL
  rw [List.mem_map]
  constructor
  · rintro ⟨y, hy, rfl⟩
    obtain ⟨x, hx, ha, rfl⟩ := ((h.own r hr).2 y).1 hy
    obtain ⟨f, h1, h2, h3⟩ := mem_own h.ok.nd hx
    rw [h3] at ha
    exact ⟨f, h1, h2, ha⟩
  · rintro ⟨f, h1, rfl, ha⟩
    refine ⟨plc T (id, clF f), ((h.own _ hr).2 _).2 ⟨(id, clF f), mem_of_mget ?_, ha, rfl⟩, rfl⟩
    rw [own_get h.ok.nd, h1, Option.bind_some, if_pos rfl]
theorem walk_mem (h : Ords T F) : (r, id) ∈ walkL T F ↔ ∃ f, fget F id = some f ∧ f.role = r ∧ f.aw = true := by
  unfold walkL
  rw [List.mem_flatMap]
  constructor
  · rintro ⟨r', hr', hm⟩
    obtain ⟨id', hi, e⟩ := List.mem_map.1 hm
    cases e
    have : isR F r = true := by
      obtain ⟨f, hf, e, _⟩ := (RL_mem h).1 hr'
      exact isR_iff.2 ⟨f, hf, e⟩
    exact (OL_mem h this).1 hi
  · rintro ⟨f, h1, h2, h3⟩
    have hf := (fget_some h1).1
    have : isR F r = true := isR_iff.2 ⟨f, hf, h2⟩
    exact ⟨r, (RL_mem h).2 ⟨f, hf, h2, h3⟩, List.mem_map.2 ⟨id, (OL_mem h this).2 ⟨f, h1, h2, h3⟩, rfl⟩⟩
theorem RL_srt (h : Ords T F) : (RL T F).Pairwise (ltR T F) := by
  unfold RL
  rw [List.pairwise_map]
  refine List.Pairwise.imp_of_mem (fun {a b} ha hb hab => ?_) h.all.1
  obtain ⟨x, hx, _, rfl⟩ := (h.all.2 a).1 ha
  obtain ⟨y, hy, _, rfl⟩ := (h.all.2 b).1 hb
  obtain ⟨ex, _⟩ := mem_all hx
  obtain ⟨ey, _⟩ := mem_all hy
  rw [ex, ey] at hab
  exact hab
theorem OL_srt (h : Ords T F) (hr : isR F r = true) : (OL T F r).Pairwise (ltO T F) := by
  unfold OL
  rw [List.pairwise_map]
  refine List.Pairwise.imp_of_mem (fun {a b} ha hb hab => ?_) (h.own r hr).1
  obtain ⟨x, hx, _, rfl⟩ := ((h.own r hr).2 a).1 ha
  obtain ⟨y, hy, _, rfl⟩ := ((h.own r hr).2 b).1 hb
  obtain ⟨f, h1, _, h3⟩ := mem_own h.ok.nd hx
  obtain ⟨f', k1, _, k3⟩ := mem_own h.ok.nd hy
  intro g g' hg hg'
  have e1 : fget F x.1 = some g := hg
  have e2 : fget F y.1 = some g' := hg'
  rw [h1] at e1
  rw [k1] at e2
  cases e1
  cases e2
  have ex : x = (x.1, clF f) := by rw [← h3]
  have ey : y = (y.1, clF f') := by rw [← k3]
  rw [ex, ey] at hab
  exact hab
def ltW (T : Ar4) (F : List Fr) (x y : P2) : Prop := ltR T F x.1 y.1 ∨ x.1 = y.1 ∧ ltO T F x.2 y.2
theorem walk_srt (h : Ords T F) : (walkL T F).Pairwise (ltW T F) := by
  unfold walkL
  rw [List.pairwise_flatMap]
  refine ⟨fun r hr => ?_, ?_⟩
  · rw [List.pairwise_map]
    have : isR F r = true := by
      obtain ⟨f, hf, e, _⟩ := (RL_mem h).1 hr
      exact isR_iff.2 ⟨f, hf, e⟩
    exact (OL_srt h this).imp fun hab => .inr ⟨rfl, hab⟩
  · refine (RL_srt h).imp fun {a b} hab x hx y hy => .inl ?_
    obtain ⟨_, _, rfl⟩ := List.mem_map.1 hx
    obtain ⟨_, _, rfl⟩ := List.mem_map.1 hy
    exact hab
/-- Who is picked: awake, one of S, and ahead of each that is. -/
theorem pick_is (h : Ords T F) (hp : pickL S (walkL T F) = some q) : ∃ fq, fget F q = some fq ∧ fq.aw = true ∧ q ∈ S ∧ ∀ id f, fget F id = some f → f.aw = true → id ∈ S → (fq.role = f.role ∨ ltR T F fq.role f.role) ∧ (fq.role = f.role → q = id ∨ ltO T F q id ∨ ltR T F fq.role f.role) := by
  unfold pickL at hp
  rw [List.find?_map] at hp
  cases hy : (walkL T F).find? ((fun id => decide (id ∈ S)) ∘ fun x => x.2) with
  | none => rw [hy] at hp; cases hp
  | some y =>
    rw [hy] at hp
    simp only [Option.map_some, Option.some.injEq] at hp
    subst hp
    obtain ⟨h1, l1, l2, e, h2⟩ := List.find?_eq_some_iff_append.1 hy
    have hm : (y.1, y.2) ∈ walkL T F := by rw [e]; simp
    obtain ⟨fq, k1, k2, k3⟩ := (walk_mem h).1 hm
    refine ⟨fq, k1, k3, by simpa using h1, fun id f hf ha hS => ?_⟩
    have hm2 : (f.role, id) ∈ walkL T F := (walk_mem h).2 ⟨f, hf, rfl, ha⟩
    have hs := walk_srt h
    rw [e] at hm2 hs
    rcases List.mem_append.1 hm2 with hm2 | hm2
    · have := h2 _ hm2
      simp [hS] at this
    · have hs := (List.pairwise_append.1 hs).2.1
      rcases List.mem_cons.1 hm2 with hm2 | hm2
      · have e1 : y.1 = f.role := by rw [← hm2]
        have e2 : y.2 = id := by rw [← hm2]
        rw [k2]
        exact ⟨.inl e1, fun _ => .inl e2⟩
      · rcases List.rel_of_pairwise_cons hs hm2 with hl | ⟨hl, ho⟩
        · rw [k2]
          exact ⟨.inr hl, fun _ => .inr (.inr hl)⟩
        · rw [k2]
          exact ⟨.inl hl, fun _ => .inr (.inl ho)⟩
theorem pick_any (h : Ords T F) : (pickL S (walkL T F)).isSome = S.any (awk F) := by
  rw [Bool.eq_iff_iff, List.any_eq_true]
  constructor
  · intro hs
    obtain ⟨q, hq⟩ := Option.isSome_iff_exists.1 hs
    obtain ⟨fq, h1, h2, h3, _⟩ := pick_is h hq
    exact ⟨q, h3, by unfold awk; rw [h1]; exact h2⟩
  · rintro ⟨id, hid, ha⟩
    unfold awk at ha
    cases hf : fget F id with
    | none => rw [hf] at ha; cases ha
    | some f =>
      rw [hf] at ha
      simp only at ha
      have hm := (walk_mem h).2 ⟨f, hf, rfl, ha⟩
      unfold pickL
      rw [List.find?_isSome]
      exact ⟨id, List.mem_map.2 ⟨_, hm, rfl⟩, by simpa using hid⟩
theorem cf_le {x y : Pl} (h : cfP x y < 0) : sCmp x.a x.b x.c y.a y.b y.c ≤ 0 := by
  unfold cfP at h
  split at h
  · omega
  · rename_i e
    have : sCmp x.a x.b x.c y.a y.b y.c = 0 := by simpa using e
    omega
end Go.Vc.S

/- Law 7: who is picked. -/
set_option maxRecDepth 20000
set_option maxHeartbeats 4000000
set_option linter.unusedVariables false
namespace Go.Vc.S
open Go Go.Vc Go.RowKit Go.Proofs Go.Vc.T Vcs

variable {w W W' W1 : World} {M N B : Nat → Prop} {gs ds : List Nat} {g : Nat} {T n : Ar4} {m F : List Fr} {f : Fr} {h : Fr → Fr} {id r : Int} {a : Option Addr} {ln lc : Nat}

theorem SlE.bl {α : Type} {n : Nat} {f : α → List Value} {l : List α} {a : Option Addr} {len cap : Nat} (h : SlE W n f l a len cap) (hb : Below W.heap.size W W') : SlE W' n f l a len cap := h.mono (cell_below hb) fun _ _ h => h
theorem any_take {S : List Int} {p : Int → Bool} {i : Nat} {x : Int} (h : S[i]? = some x) : (S.take (i + 1)).any p = ((S.take i).any p || p x) := by
  rw [List.take_add_one, h, Option.toList_some, List.any_append]
  simp
theorem c39n (W : World) : RetW 39 #[.pointer none, .slice none 0 0] W (.bool true) := by
  intro R hR
  have hs : SlE W 2 prE ([] : List P2) none 0 0 := ⟨rfl, Nat.le_refl _, Nat.zero_le _, fun _ => rfl, fun i x hx => by simp at hx⟩
  exact walks_of (L := []) W hs (by decide) (fun w q N _ hq _ => seq97n w q N hq) R hR
theorem law7 {L : List TA} {S : List Int} {la sa : Option Addr} {ln lc sn sc : Nat} (w : World) (hL : SlE w 8 taE L la ln lc) (hS : SlE w 1 i1E S sa sn sc) : RetW 7 #[.slice la ln lc, .slice sa sn sc] w (.bool true) := by
  intro R h
  have hLz : SlE (zro w) 8 taE L la ln lc := hL
  have hSz : SlE (zro w) 1 i1E S sa sn sc := hS
  have hsn := hS.1
  refine f7_calls _ _ _ _ _ _ w R ?_
  unfold f7_vc
  refine brD (fun _ => leafW h (at_zro w noB) rfl) fun hle => brD (fun _ => leafW h (at_zro w noB) rfl) fun hle2 => ?_
  refine at_callq (at_zro w noB) (c26 w) fun v w2 hA _ hb2 ⟨g, hv, hX⟩ => ?_
  subst hv
  have hX : TiO (zro w) w2 g (0, 0, 0, 0) [] := hX.mono fun b hl hb => ⟨hb, hl⟩
  have hln := hL.1
  refine ⟨_, rfl, fun n4 h4 => ?_⟩
  have hw2 : w.heap.size ≤ w2.heap.size := hA.chg.size
  refine ⟨fun s W => At (zro w) [n4] W ∧ ∃ (i : Nat) (T : Ar4) (F : List Fr) (B : Nat → Prop), s.1 = i ∧ i ≤ ln ∧ F.length ≤ i ∧ (s.2.1, s.2.2.1, s.2.2.2.1, s.2.2.2.2.1) = T ∧ PlT (zro w) W g n4 T F (.slice s.2.2.2.2.2.1.1 s.2.2.2.2.2.1.2.1 s.2.2.2.2.2.1.2.2) B, fun s _ => ln - s.1.toNat, fun w7 he hu => ?_, ?_⟩
  · have hb := he.bel (by simpa using h4)
    exact ⟨⟨(hA.call hb).chg, hu⟩, 0, _, [], _, rfl, Nat.zero_le _, Nat.le_refl _, rfl, TiX.call hX hb, fun b hb' => ⟨hb'.1, Nat.lt_of_lt_of_le hb'.2 hb.size⟩, fun e => by omega, OwnF.nil, fun k hk => by cases hk⟩
  rintro x8 x9 x10 x11 x12 a13 n14 n15 w16 ⟨hA, i, T, F, B, hi, hil, hml, hT, hP⟩
  simp only at hi hT hP
  subst hi hT
  generalize hTT : ((x9, x10, x11, x12) : Ar4) = T at hP
  have t1 : x9 = T.1 := by rw [← hTT]
  have t2 : x10 = T.2.1 := by rw [← hTT]
  have t3 : x11 = T.2.2.1 := by rw [← hTT]
  have t4 : x12 = T.2.2.2 := by rw [← hTT]
  subst t1 t2 t3 t4
  clear hTT
  obtain ⟨hX, hlow, hnB, hrow, hap⟩ := hP
  have hlow : ∀ b, B b → w.heap.size ≤ b ∧ b < w16.heap.size := hlow
  obtain ⟨a13', c13', e13, hsl⟩ := hrow.slice fun _ _ => rfl
  cases e13
  have hu4 := hA.under n4 (by simp)
  have hA16 := hA
  have hzs : (zro w).heap.size = w.heap.size := rfl
  have hFok := hX.ok
  refine brD (fun hlt => ?_) fun hge => ?_
  · have hiL : i < L.length := by omega
    have hgL := List.getElem?_eq_getElem hiL
    have hmd := doT_len (T, F) L[i]
    simp only at hmd
    obtain ⟨ad, g1, el0, _⟩ := elt_at (P := Try.prog) (k := .i64) (t := 66) hLz hgL (e := 75) (by kernel_rfl) (by kernel_rfl)
    refine ⟨ad, g1, _, _, _, _, _, _, _, _, (el0.below hA.below).agg 8 (by kernel_rfl) (by kernel_rfl) (by simp) no_ds, go_below_too hA fun w26 hA hb26 => ?_⟩
    have hs26 := hb26.size
    refine at_callq hA (c27 _ T hFok (hsl.call hb26) (by omega) L[i]) fun v w28 hA2 hk28 hb28 hq => ?_
    obtain ⟨a', c', hv, hrow', hap'⟩ := act_row hA (fun b hb => by have := hlow b hb; omega) (hA.under n4 (by simp)) (hrow.call hb26) hap hb28 hq
    subst hv
    have hs28 := hb28.size
    refine ⟨_, _, _, _, _, _, _, _, rfl, hk28, ad, g1, _, _, _, _, _, _, _, _, (el0.below hA2.below).agg 8 (by kernel_rfl) (by kernel_rfl) (by simp) (el0.far (by simp; omega)), go_evo_too hA2 (by simp; omega) fun w46 hA he => ?_⟩
    have hX46 : TiX w46 B g T F := ((hX.call hb26).call hb28).evo he fun d hd hB => by
      rw [List.mem_singleton.1 hd] at hB
      exact absurd hB hnB
    have hs46 := he.size
    have hrow46 : OwnL (zro w) [n4] w46 80 8 frE _ _ := (OwnL.gsT hrow' (show ∀ x ∈ [n4], _ ≠ some x from fun x hx e => by have := hap' x e; simp at hx; omega)).evo (by simp) he
    refine at_callF hA (c28 hX46 (by omega) L[i]) (fun b _ hb => .inl (hlow b hb).1) (fun y hy hb => by
      simp at hy
      subst hy
      exact hnB hb) fun v w48 hA hk hch ⟨hv, hX48⟩ => ?_
    subst hv
    have hs48 := hch.size
    have hw : IntKind.i64.wrap ((i : Int) + 1) = ((i + 1 : Nat) : Int) := by rw [wrap_i64 (by omega) (by omega)]; omega
    rw [hw]
    refine ⟨_, rfl, hk, ⟨hA, i + 1, _, _, fun b => (B b ∨ w46.heap.size ≤ b) ∧ b < w48.heap.size, rfl, by omega, ?_, rfl, ⟨hX48.mono fun b hl hb => ⟨hb, hl⟩, fun b hb => ⟨?_, hb.2⟩, fun e => ?_, hrow46.chg hch fun k hk hB => (hap' k hk).1 hB, fun k hk hB => ?_⟩⟩, by simp only; omega⟩
    · omega
    · rcases hb.1 with h | h
      · exact (hlow b h).1
      · show w.heap.size ≤ b
        have : w.heap.size ≤ w16.heap.size := hA16.chg.size
        omega
    · rcases e.1 with h | h
      · exact hnB h
      · omega
    · have := hap' k hk
      rcases hB.1 with h | h
      · exact this.1 h
      · omega
  · have hords := hX.ords
    refine at_callW hA (fun R hR => c37x hX (by omega) (hSz.call hA.below) (by omega) R hR) fun w51 hA hk51 hb51 => ?_
    have hX := hX.bel hb51
    have hsl := SlE.bl hsl hb51
    have hS51 : SlE w51 1 i1E S sa sn sc := SlE.bl (hSz.call hA16.below) hb51
    have hpa := pick_any (S := S) hords
    generalize ho : pickL S (walkL T F) = o at hpa
    unfold pickV
    refine ⟨_, _, rfl, hk51, ?_⟩
    refine ⟨fun s W => At (zro w) [n4] W ∧ Bel w51 W ∧ ∃ j : Nat, s.2.1 = j ∧ j ≤ sn ∧ s.1 = (S.take j).any (awk F), fun s _ => sn - s.2.1.toNat, ⟨hA, Bel.refl _, 0, rfl, Nat.zero_le _, by simp⟩, ?_⟩
    rintro b56 x57 w58 ⟨hA, hb58, j, hj, hjn, hb⟩
    simp only at hj hb
    subst hj hb
    have hw : IntKind.i64.wrap ((j : Int) + 1) = ((j + 1 : Nat) : Int) := by rw [wrap_i64 (by omega) (by omega)]; omega
    refine brD (fun hlt => ?_) fun hge => ?_
    · have hjS : j < S.length := by omega
      obtain ⟨id, hid⟩ : ∃ id, S[j]? = some id := ⟨_, List.getElem?_eq_getElem hjS⟩
      have hidS := List.mem_of_getElem? hid
      obtain ⟨ad, g1, el, _⟩ := elt_at (P := Try.prog) (k := .i64) (t := 29) (hS51.call hb58) hid (e := 2) (by kernel_rfl) (by kernel_rfl)
      rw [hw]
      have next : ∀ {gs : List Nat} {W : World} {b : Bool}, At (zro w) gs W → (∀ x ∈ [n4], x ∈ gs) → Bel w51 W → b = ((S.take j).any (awk F) || awk F id) → (At (zro w) [n4] W ∧ Bel w51 W ∧ ∃ j' : Nat, ((j + 1 : Nat) : Int) = j' ∧ j' ≤ sn ∧ b = (S.take j').any (awk F)) := fun hA hg hb e => ⟨hA.sub hg, hb, j + 1, rfl, by omega, by rw [any_take hid]; exact e⟩
      refine ⟨ad, g1, _, el.one (by kernel_rfl) no_ds, go_below_too hA fun w61 hA hb61 => ?_⟩
      have hb61' := hb58.trans hb61
      refine at_callb hA (c31 _ (hsl.call hb61') (by omega) id) fun w63 hA hk hb63 => ⟨_, rfl, hk, ?_⟩
      have hb63' := hb61'.trans hb63
      cases hg : fget F id with
      | none =>
        have haw : awk F id = false := by unfold awk; rw [hg]
        rw [atF_none hg]
        refine ⟨fun _ => ⟨next hA (fun x hx => hx) hb63' (by rw [haw]; simp), by simp only; omega⟩, fun e => absurd e (by decide)⟩
      | some f =>
        obtain ⟨ix, hat, hfi⟩ := atF_some hg
        have hfm := (fget_some hg).1
        have haw : awk F id = f.aw := by unfold awk; rw [hg]
        rw [hat]
        obtain ⟨ad2, g2, el2, _⟩ := elt_at (P := Try.prog) (k := .i64) (t := 69) (hsl.call hb63') hfi (e := 80) (by kernel_rfl) (by kernel_rfl)
        refine brD (fun e => by omega) fun _ => ⟨ad2, g2, _, (el2.sub (o := 7) (by decide)).one (by kernel_rfl) no_ds, brNB (fun ha => ⟨next hA (fun x hx => hx) hb63' (by rw [haw, ha]; simp), by simp only; omega⟩) fun ha => ?_⟩
        -- one that is awake: somebody is picked
        have hsome : o.isSome = true := by
          rw [hpa, List.any_eq_true]
          exact ⟨id, hidS, haw.trans ha⟩
        obtain ⟨q, rfl⟩ := Option.isSome_iff_exists.1 hsome
        obtain ⟨fq, k1, k2, k3, k4⟩ := pick_is hords ho
        obtain ⟨k5, k6⟩ := k4 id f hg ha hidS
        refine brNB (fun e => by cases e) fun _ => ?_
        have e29 := c29 (hX.call hb63') q
        rw [k1] at e29
        refine at_callb hA e29 fun w68 hA hk hb68 => ⟨_, _, rfl, hk, ?_⟩
        have hb68' := hb63'.trans hb68
        have e34 := c34x (hX.call hb68') fq.role
        rw [all_getR hFok, if_pos (isR_of (fget_some k1).1)] at e34
        refine at_callb hA e34 fun w72 hA hk hb72 => ⟨_, _, _, _, rfl, hk, fun n77 h77 => ?_⟩
        have hb72' := hb68'.trans hb72
        have el2' := (el2.below hb68).below hb72
        refine ⟨ad2, g2, _, (el2'.sub (o := 2) (by decide)).one (by kernel_rfl) ((el2'.sub (o := 2) (by decide)).far (by simpa using h77)), go_evo_too hA (by have := hA.chg.size; simp at this ⊢; omega) fun w80 hA he80 => ?_⟩
        have hb80 := he80.bel (by simpa using h77)
        have hb80' := hb72'.trans hb80
        have e34b := c34x (hX.call hb80') f.role
        rw [all_getR hFok, if_pos (isR_of hfm)] at e34b
        refine at_callb hA e34b fun w82 hA hk hb82 => ⟨_, _, _, _, rfl, hk, fun n87 h87 => go_evo_too hA (by have := hA.chg.size; simp at this ⊢; omega) fun w88 hA he88 => ?_⟩
        have hb88 := he88.bel (by simpa using h87)
        have hb88' := (hb80'.trans hb82).trans hb88
        have e30 := c30 (hX.call hb88') q
        rw [k1] at e30
        refine at_callb hA e30 fun w90 hA hk hb90 => ⟨_, _, _, _, rfl, hk, fun n95 h95 => ?_⟩
        have hb90' := hb88'.trans hb90
        have el90 := ((((((el.below hb61).below hb63).below hb68).below hb72).below hb80).below hb82).below hb88 |>.below hb90
        refine ⟨ad, g1, _, el90.one (by kernel_rfl) (el90.far (by simpa using h95)), go_evo_too hA (by have := hA.chg.size; simp at this ⊢; omega) fun w98 hA he98 => ?_⟩
        have hb98 := he98.bel (by simpa using h95)
        have hb98' := hb90'.trans hb98
        have e30b := c30 (hX.call hb98') id
        rw [hg] at e30b
        refine at_callb hA e30b fun w100 hA hk hb100 => ⟨_, _, _, _, rfl, hk, fun n105 h105 => ?_⟩
        have hb100' := hb98'.trans hb100
        refine brNB (fun e => by cases e) fun _ => brNB (fun e => by cases e) fun _ => brNB (fun e => by cases e) fun _ => brNB (fun e => by cases e) fun _ => brNB (fun e => by cases e) fun _ => go_evo_too hA (by have := hA.chg.size; simp at this ⊢; omega) fun w111 hA he111 => ?_
        have hb111 := he111.bel (by simpa using h105)
        have hb111' := hb100'.trans hb111
        refine at_callb hA (c12 _ _ _ _ _ _ _) fun w113 hA hk hb113 => ⟨_, rfl, hk, ?_⟩
        have hb113' := hb111'.trans hb113
        have le1 : sCmp (domT T (rcl F fq.role).s).1 (domT T (rcl F fq.role).s).2 (rcl F fq.role).w (domT T (rcl F f.role).s).1 (domT T (rcl F f.role).s).2 (rcl F f.role).w ≤ 0 := by
          rcases k5 with e | e
          · rw [e, sCmp_self]; exact Int.le_refl _
          · exact cf_le e
        refine brD (fun e => absurd le1 (by simpa using e)) fun _ => ?_
        have el113 := (((((((el2'.below hb80).below hb82).below hb88).below hb90).below hb98).below hb100).below hb111).below hb113
        have tt : true = ((S.take j).any (awk F) || awk F id) := by rw [haw, ha]; simp
        refine ⟨ad2, g2, _, (el113.sub (o := 2) (by decide)).one (by kernel_rfl) no_ds, brE (fun e => ?_) fun _ => ⟨next hA (by simp) hb113' tt, by simp only; omega⟩⟩
        refine at_callb hA (c12 _ _ _ _ _ _ _) fun w118 hA hk hb118 => ⟨_, rfl, hk, ?_⟩
        have le2 : sCmp (domT T (clF fq).s).1 (domT T (clF fq).s).2 (clF fq).w (domT T (clF f).s).1 (domT T (clF f).s).2 (clF f).w ≤ 0 := by
          rcases k6 e with e2 | e2 | e2
          · subst e2
            rw [hg] at k1
            cases k1
            rw [sCmp_self]; exact Int.le_refl _
          · exact cf_le (e2 fq f k1 hg)
          · exfalso
            have e' : fq.role = f.role := e
            unfold ltR at e2
            rw [e'] at e2
            unfold cfP at e2
            rw [if_neg (by rw [sCmp_self]; simp)] at e2
            unfold cmpI at e2
            rw [if_pos rfl] at e2
            exact absurd e2 (by decide)
        exact brD (fun e => absurd le2 (by simpa using e)) fun _ => ⟨next hA (by simp) (hb113'.trans hb118) tt, by simp only; omega⟩
    · have hjs : j = S.length := by omega
      rw [hjs, List.take_length, ← hpa]
      have hS58 := hS51.call hb58
      refine ⟨fun s W => At (zro w) [n4] W ∧ Bel w58 W ∧ ∃ j : Nat, s.2.1 = j ∧ j ≤ sn ∧ s.1 = decide (o.getD 0 ∈ S.take j), fun s _ => sn - s.2.1.toNat, ⟨hA, Bel.refl _, 0, rfl, Nat.zero_le _, by simp⟩, ?_⟩
      rintro b122 x123 w124 ⟨hA, hb124, j, hj, hjn, hb⟩
      simp only at hj hb
      subst hj hb
      have hw : IntKind.i64.wrap ((j : Int) + 1) = ((j + 1 : Nat) : Int) := by rw [wrap_i64 (by omega) (by omega)]; omega
      refine brD (fun hlt => ?_) fun hge => ?_
      · have hjS : j < S.length := by omega
        obtain ⟨id, hid⟩ : ∃ id, S[j]? = some id := ⟨_, List.getElem?_eq_getElem hjS⟩
        have htk : S.take (j + 1) = S.take j ++ [id] := by rw [List.take_add_one, hid, Option.toList_some]
        rw [hw]
        refine brB (fun hin => ⟨⟨hA, hb124, j + 1, rfl, by omega, ?_⟩, by simp only; omega⟩) fun hin => ?_
        · have hin := of_decide_eq_true hin
          rw [htk]
          simp [hin]
        · have hin := of_decide_eq_false hin
          obtain ⟨ad, g1, el, _⟩ := elt_at (P := Try.prog) (k := .i64) (t := 29) (hS58.call hb124) hid (e := 2) (by kernel_rfl) (by kernel_rfl)
          refine ⟨ad, g1, _, el.one (by kernel_rfl) no_ds, ⟨hA, hb124, j + 1, rfl, by omega, ?_⟩, by simp only; omega⟩
          rw [htk, Bool.eq_iff_iff]
          rw [beq_iff_eq, decide_eq_true_eq, List.mem_append, List.mem_singleton]
          exact ⟨fun e => .inr e.symm, fun e => e.elim (fun h => absurd h hin) fun e => e.symm⟩
      · have hjs : j = S.length := by omega
        rw [hjs, List.take_length]
        have hin : o.isSome = true → decide (o.getD 0 ∈ S) = true := fun hs => by
          obtain ⟨q, rfl⟩ := Option.isSome_iff_exists.1 hs
          obtain ⟨fq, _, _, k3, _⟩ := pick_is hords ho
          simpa using k3
        refine at_callW hA (fun R hR => c37n w124 (hS58.call hb124) (by omega) R hR) fun w128 hA hk _ => ⟨_, _, rfl, hk, ?_⟩
        have fin : ∀ {W : World} {gs : List Nat}, At (zro w) gs W → True := fun _ => trivial
        cases o with
        | none =>
          refine ⟨fun _ => ⟨fun _ => brE (fun _ => brNB (fun _ => ?_) fun e => by cases e) fun e => absurd rfl e, fun e => by cases e⟩, fun e => by simp at e⟩
          refine at_callb hA (c38o _ 1 1 1) fun w132 hA hk hb132 => ⟨_, rfl, hk, brE (fun _ => ?_) fun e => absurd rfl e⟩
          refine at_callW hA (fun R hR => c39n w132 R hR) fun w135 hA hk _ => ⟨_, rfl, hk, brB (fun _ => ?_) fun e => by cases e⟩
          exact at_callW hA (c36 _) fun w138 hA hk _ => ⟨_, rfl, hk, leafW h hA rfl⟩
        | some q =>
          have hin := hin rfl
          refine ⟨fun _ => ⟨fun e => (by cases e), fun _ => brB (fun _ => brB (fun _ => brNB (fun _ => ?_) fun e => by cases e) fun e => by rw [hin] at e; cases e) fun e => by cases e⟩, fun e => by simp at e⟩
          refine at_callb hA (c38o _ 1 1 1) fun w132 hA hk hb132 => ⟨_, rfl, hk, brE (fun _ => ?_) fun e => absurd rfl e⟩
          refine at_callW hA (fun R hR => c39n w132 R hR) fun w135 hA hk _ => ⟨_, rfl, hk, brB (fun _ => ?_) fun e => by cases e⟩
          exact at_callW hA (c36 _) fun w138 hA hk _ => ⟨_, rfl, hk, leafW h hA rfl⟩
end Go.Vc.S

