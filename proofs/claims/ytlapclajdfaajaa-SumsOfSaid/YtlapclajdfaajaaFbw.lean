/- The formulas of functions, printed by a program (VcTool.lean): each is what the generator's formula comes to, by the kernel's reckoning; whoever proves one has the function's contract. -/
import Derived.Test.YtlapclajdfaajaaVcFn
import Derived.Test.YtlapclajdfaajaaProg
set_option maxRecDepth 100000
set_option maxHeartbeats 1000000
set_option linter.unusedVariables false
namespace Vcbw
open Go Go.Vc Go.RowKit
/-! manciple/manciplelaw06.SumsOf -/
def h10 : Hints := ⟨[], [44, 52, 57], [20, 25, 33, 39, 48, 60, 16, 29, 76, 78, 85], [(19, [0, 1, 2, 3, 4, 5, 7, 6, 8, 9, 10, 11, 12, 13, 14])], [], [(7, ⟨[(6, .int .i64)], []⟩), (11, ⟨[(7, .int .i64), (8, .int .i64)], []⟩)], [(19, ⟨[(11, .addr), (12, .bool)], []⟩)], [], [(18, (.op 0 (.op 1 (.alt (.op 2 (.alt (.op 3 (.op 4 (.op 5 (.op 6 (.op 7 (.op 8 (.op 9 .nil))))))) (.op 7 (.op 3 (.op 4 (.op 5 (.op 6 (.op 8 (.op 9 .nil))))))))) (.op 7 (.op 2 (.op 3 (.op 4 (.op 5 (.op 6 (.op 8 (.op 9 .nil))))))))))))]⟩
def f10_vc (aa : Option Addr) (an : Nat) (ac : Nat) (ba : Option Addr) (bn : Nat) (bc : Nat) (w : World) (R : Ending → World → Prop) : Prop :=
 (decide ((↑an : Int) > 150) = true → R (Ending.returned (Value.bool true)) w) ∧
 (decide ((↑an : Int) > 150) = false →
 (decide ((↑bn : Int) > 150) = true → R (Ending.returned (Value.bool true)) w) ∧
 (decide ((↑bn : Int) > 150) = false →
 Calls Proofs.Try.prog 33 #[Value.slice aa an ac] w fun (e1 : Ending) (w2 : World) =>
 ∃ (x3 : Int),
 ∃ (x4 : Int),
 ∃ (x5 : Int),
 ∃ (x6 : Int),
 e1 = Ending.returned (Value.agg #[Value.int IntKind.i64 x3, Value.int IntKind.i64 x4, Value.int IntKind.i64 x5, Value.int IntKind.i64 x6]) ∧
 OpW Proofs.Try.prog (valueS (Instr.alloc 40 true (Value.tuple #[]))) w2 fun (v7 : Value) (w8 : World) =>
 ∃ (ad9 : Addr),
 v7 = Value.pointer (some ad9) ∧
 OpW Proofs.Try.prog (skipS (Instr.storeAt 40 (Value.pointer (some ad9)) (Value.agg #[Value.int IntKind.i64 x3, Value.int IntKind.i64 x4, Value.int IntKind.i64 x5, Value.int IntKind.i64 x6]))) w8
 fun (v10 : Value) (w11 : World) =>
 Calls Proofs.Try.prog 34 #[Value.slice aa an ac] w11 fun (e12 : Ending) (w13 : World) =>
 ∃ (b14 : Bool),
 e12 = Ending.returned (Value.bool b14) ∧
 ((!b14) = true →
 ∃ (x15 : Int),
 ∃ (x16 : Int),
 ∃ (x17 : Int),
 ∃ (x18 : Int),
 Reads Proofs.Try.prog [] (Instr.loadAt 40 (Value.pointer (some ad9))) w13
 (Value.agg #[Value.int IntKind.i64 x15, Value.int IntKind.i64 x16, Value.int IntKind.i64 x17, Value.int IntKind.i64 x18]) ∧
 ((x15 == 0 && (x16 == 0 && (x17 == 0 && (x18 == 0 && true)))) = true →
 Calls Proofs.Try.prog 23 #[] w13 fun (e19 : Ending) (w20 : World) => ∃ (b21 : Bool), e19 = Ending.returned (Value.bool b21) ∧ R (Ending.returned (Value.bool b21)) w20) ∧
 ((x15 == 0 && (x16 == 0 && (x17 == 0 && (x18 == 0 && true)))) = false → R (Ending.returned (Value.bool false)) w13)) ∧
 ((!b14) = false →
 ∃ (J22 : Int × Unit → World → Prop),
 ∃ (J23 : Int × Unit → World → Nat),
 J22 (0, ()) w13 ∧
 ∀ (x24 : Int) (w25 : World),
 J22 (x24, ()) w25 →
 (decide (x24 < 4) = true →
 ∃ (J26 : Int × Int × Unit → World → Prop),
 ∃ (J27 : Int × Int × Unit → World → Nat),
 J26 (0, 0, ()) w25 ∧
 ∀ (x28 x29 : Int) (w30 : World),
 J26 (x28, x29, ()) w30 →
 (decide (x29 < (↑an : Int)) = true →
 ∃ (ad31 : Addr),
 Gives Proofs.Try.prog (Instr.indexAt 55 (Value.slice aa an ac) (Value.int IntKind.i64 x29)) (Value.pointer (some ad31)) ∧
 ∃ (x32 : Int),
 Reads Proofs.Try.prog [] (Instr.loadAt 3 (Value.pointer (some ad31))) w30 (Value.int IntKind.i64 x32) ∧
 ((x32 == x24) = true →
 ∃ (ad33 : Addr),
 Gives Proofs.Try.prog (Instr.indexAt 55 (Value.slice aa an ac) (Value.int IntKind.i64 x29)) (Value.pointer (some ad33)) ∧
 ∃ (x34 : Int),
 Reads Proofs.Try.prog [] (Instr.loadAt 2 (Value.pointer (some (Addr.mk ad33.block (ad33.off + 2) none)))) w30 (Value.int IntKind.i64 x34) ∧
 J26 (IntKind.i64.wrap (x28 + x34), IntKind.i64.wrap (x29 + 1), ()) w30 ∧
 J27 (IntKind.i64.wrap (x28 + x34), IntKind.i64.wrap (x29 + 1), ()) w30 < J27 (x28, x29, ()) w30) ∧
 ((x32 == x24) = false → J26 (x28, IntKind.i64.wrap (x29 + 1), ()) w30 ∧ J27 (x28, IntKind.i64.wrap (x29 + 1), ()) w30 < J27 (x28, x29, ()) w30)) ∧
 (decide (x29 < (↑an : Int)) = false →
 ∃ (ad35 : Addr),
 Gives Proofs.Try.prog (Instr.indexAt 40 (Value.pointer (some ad9)) (Value.int IntKind.i64 x24)) (Value.pointer (some ad35)) ∧
 ∃ (x36 : Int),
 Reads Proofs.Try.prog [] (Instr.loadAt 2 (Value.pointer (some ad35))) w30 (Value.int IntKind.i64 x36) ∧
 ((x36 != x28) = true → R (Ending.returned (Value.bool false)) w30) ∧
 ((x36 != x28) = false → J22 (IntKind.i64.wrap (x24 + 1), ()) w30 ∧ J23 (IntKind.i64.wrap (x24 + 1), ()) w30 < J23 (x24, ()) w25))) ∧
 (decide (x24 < 4) = false →
 Calls Proofs.Try.prog 35 #[Value.slice aa an ac, Value.slice ba bn bc] w25 fun (e37 : Ending) (w38 : World) =>
 ∃ (a39 : Option Addr),
 ∃ (n40 : Nat),
 ∃ (n41 : Nat),
 ∃ (b42 : Bool),
 e37 = Ending.returned (Value.tuple #[Value.slice a39 n40 n41, Value.bool b42]) ∧
 ∃ (J43 : Addr × Bool × Unit → World → Prop),
 (∃ (x44 : Int),
 ∃ (x45 : Int),
 ∃ (x46 : Int),
 ∃ (x47 : Int),
 Reads Proofs.Try.prog [] (Instr.loadAt 40 (Value.pointer (some ad9))) w38
 (Value.agg #[Value.int IntKind.i64 x44, Value.int IntKind.i64 x45, Value.int IntKind.i64 x46, Value.int IntKind.i64 x47]) ∧
 (∀ (w48 : World),
 Below w38.heap.size w38 w48 →
 Calls Proofs.Try.prog 33 #[Value.slice ba bn bc] w48 fun (e49 : Ending) (w50 : World) =>
 ∃ (x51 : Int),
 ∃ (x52 : Int),
 ∃ (x53 : Int),
 ∃ (x54 : Int),
 e49 = Ending.returned (Value.agg #[Value.int IntKind.i64 x51, Value.int IntKind.i64 x52, Value.int IntKind.i64 x53, Value.int IntKind.i64 x54]) ∧
 Reads Proofs.Try.prog [] (Instr.loadAt 40 (Value.pointer (some ad9))) w50
 (Value.agg #[Value.int IntKind.i64 x44, Value.int IntKind.i64 x45, Value.int IntKind.i64 x46, Value.int IntKind.i64 x47]) ∧
 (Calls Proofs.Try.prog 27
 #[Value.agg #[Value.int IntKind.i64 x44, Value.int IntKind.i64 x45, Value.int IntKind.i64 x46, Value.int IntKind.i64 x47],
 Value.agg #[Value.int IntKind.i64 x51, Value.int IntKind.i64 x52, Value.int IntKind.i64 x53, Value.int IntKind.i64 x54]]
 w50 fun (e55 : Ending) (w56 : World) =>
 ∃ (x57 : Int),
 ∃ (x58 : Int),
 ∃ (x59 : Int),
 ∃ (x60 : Int),
 ∃ (b61 : Bool),
 e55 =
 Ending.returned
 (Value.tuple
 #[Value.agg
 #[Value.int IntKind.i64 x57, Value.int IntKind.i64 x58, Value.int IntKind.i64 x59, Value.int IntKind.i64 x60],
 Value.bool b61]) ∧
 OpW Proofs.Try.prog (valueS (Instr.alloc 40 true (Value.tuple #[]))) w56 fun (v62 : Value) (w63 : World) =>
 ∃ (ad64 : Addr),
 v62 = Value.pointer (some ad64) ∧
 OpW Proofs.Try.prog
 (skipS
 (Instr.storeAt 40 (Value.pointer (some ad64))
 (Value.agg
 #[Value.int IntKind.i64 x57, Value.int IntKind.i64 x58, Value.int IntKind.i64 x59, Value.int IntKind.i64 x60])))
 w63 fun (v65 : Value) (w66 : World) => J43 (ad64, b61, ()) w66) ∧
 OpW Proofs.Try.prog (valueS (Instr.alloc 40 true (Value.tuple #[]))) w50 fun (v67 : Value) (w68 : World) =>
 ∃ (ad69 : Addr),
 v67 = Value.pointer (some ad69) ∧
 Reads Proofs.Try.prog [] (Instr.loadAt 40 (Value.pointer (some ad9))) w68
 (Value.agg #[Value.int IntKind.i64 x44, Value.int IntKind.i64 x45, Value.int IntKind.i64 x46, Value.int IntKind.i64 x47]) ∧
 Calls Proofs.Try.prog 27
 #[Value.agg #[Value.int IntKind.i64 x44, Value.int IntKind.i64 x45, Value.int IntKind.i64 x46, Value.int IntKind.i64 x47],
 Value.agg #[Value.int IntKind.i64 x51, Value.int IntKind.i64 x52, Value.int IntKind.i64 x53, Value.int IntKind.i64 x54]]
 w68 fun (e70 : Ending) (w71 : World) =>
 ∃ (x72 : Int),
 ∃ (x73 : Int),
 ∃ (x74 : Int),
 ∃ (x75 : Int),
 ∃ (b76 : Bool),
 e70 =
 Ending.returned
 (Value.tuple
 #[Value.agg
 #[Value.int IntKind.i64 x72, Value.int IntKind.i64 x73, Value.int IntKind.i64 x74,
 Value.int IntKind.i64 x75],
 Value.bool b76]) ∧
 OpW Proofs.Try.prog
 (skipS
 (Instr.storeAt 40 (Value.pointer (some ad69))
 (Value.agg
 #[Value.int IntKind.i64 x72, Value.int IntKind.i64 x73, Value.int IntKind.i64 x74,
 Value.int IntKind.i64 x75])))
 w71 fun (v77 : Value) (w78 : World) => J43 (ad69, b76, ()) w78) ∧
 ∀ (w79 : World),
 Below w38.heap.size w38 w79 →
 OpW Proofs.Try.prog (valueS (Instr.alloc 40 true (Value.tuple #[]))) w79 fun (v80 : Value) (w81 : World) =>
 ∃ (ad82 : Addr),
 v80 = Value.pointer (some ad82) ∧
 Reads Proofs.Try.prog [] (Instr.loadAt 40 (Value.pointer (some ad9))) w81
 (Value.agg #[Value.int IntKind.i64 x44, Value.int IntKind.i64 x45, Value.int IntKind.i64 x46, Value.int IntKind.i64 x47]) ∧
 Calls Proofs.Try.prog 33 #[Value.slice ba bn bc] w81 fun (e83 : Ending) (w84 : World) =>
 ∃ (x85 : Int),
 ∃ (x86 : Int),
 ∃ (x87 : Int),
 ∃ (x88 : Int),
 e83 =
 Ending.returned
 (Value.agg #[Value.int IntKind.i64 x85, Value.int IntKind.i64 x86, Value.int IntKind.i64 x87, Value.int IntKind.i64 x88]) ∧
 Reads Proofs.Try.prog [] (Instr.loadAt 40 (Value.pointer (some ad9))) w84
 (Value.agg #[Value.int IntKind.i64 x44, Value.int IntKind.i64 x45, Value.int IntKind.i64 x46, Value.int IntKind.i64 x47]) ∧
 Calls Proofs.Try.prog 27
 #[Value.agg #[Value.int IntKind.i64 x44, Value.int IntKind.i64 x45, Value.int IntKind.i64 x46, Value.int IntKind.i64 x47],
 Value.agg #[Value.int IntKind.i64 x85, Value.int IntKind.i64 x86, Value.int IntKind.i64 x87, Value.int IntKind.i64 x88]]
 w84 fun (e89 : Ending) (w90 : World) =>
 ∃ (x91 : Int),
 ∃ (x92 : Int),
 ∃ (x93 : Int),
 ∃ (x94 : Int),
 ∃ (b95 : Bool),
 e89 =
 Ending.returned
 (Value.tuple
 #[Value.agg
 #[Value.int IntKind.i64 x91, Value.int IntKind.i64 x92, Value.int IntKind.i64 x93, Value.int IntKind.i64 x94],
 Value.bool b95]) ∧
 OpW Proofs.Try.prog
 (skipS
 (Instr.storeAt 40 (Value.pointer (some ad82))
 (Value.agg
 #[Value.int IntKind.i64 x91, Value.int IntKind.i64 x92, Value.int IntKind.i64 x93, Value.int IntKind.i64 x94])))
 w90 fun (v96 : Value) (w97 : World) => J43 (ad82, b95, ()) w97) ∧
 ∀ (ad98 : Addr) (b99 : Bool) (w100 : World),
 J43 (ad98, b99, ()) w100 →
 ((!b42) = true →
 ∀ (w101 : World),
 Below w100.heap.size w100 w101 →
 Calls Proofs.Try.prog 23 #[] w101 fun (e102 : Ending) (w103 : World) =>
 ∃ (b104 : Bool), e102 = Ending.returned (Value.bool b104) ∧ R (Ending.returned (Value.bool b104)) w103) ∧
 ((!b42) = false →
 (b99 = true →
 ∃ (x105 : Int),
 ∃ (x106 : Int),
 ∃ (x107 : Int),
 ∃ (x108 : Int),
 Reads Proofs.Try.prog [] (Instr.loadAt 40 (Value.pointer (some ad98))) w100
 (Value.agg #[Value.int IntKind.i64 x105, Value.int IntKind.i64 x106, Value.int IntKind.i64 x107, Value.int IntKind.i64 x108]) ∧
 ∀ (w109 : World),
 Below w100.heap.size w100 w109 →
 Calls Proofs.Try.prog 33 #[Value.slice a39 n40 n41] w109 fun (e110 : Ending) (w111 : World) =>
 ∃ (x112 : Int),
 ∃ (x113 : Int),
 ∃ (x114 : Int),
 ∃ (x115 : Int),
 e110 =
 Ending.returned
 (Value.agg #[Value.int IntKind.i64 x112, Value.int IntKind.i64 x113, Value.int IntKind.i64 x114, Value.int IntKind.i64 x115]) ∧
 Reads Proofs.Try.prog [] (Instr.loadAt 40 (Value.pointer (some ad98))) w111
 (Value.agg #[Value.int IntKind.i64 x105, Value.int IntKind.i64 x106, Value.int IntKind.i64 x107, Value.int IntKind.i64 x108]) ∧
 ((x112 == x105 && (x113 == x106 && (x114 == x107 && (x115 == x108 && true)))) = true →
 Calls Proofs.Try.prog 23 #[] w111 fun (e116 : Ending) (w117 : World) =>
 ∃ (b118 : Bool),
 e116 = Ending.returned (Value.bool b118) ∧
 Reads Proofs.Try.prog [] (Instr.loadAt 40 (Value.pointer (some ad98))) w117
 (Value.agg
 #[Value.int IntKind.i64 x105, Value.int IntKind.i64 x106, Value.int IntKind.i64 x107, Value.int IntKind.i64 x108]) ∧
 R (Ending.returned (Value.bool b118)) w117) ∧
 ((x112 == x105 && (x113 == x106 && (x114 == x107 && (x115 == x108 && true)))) = false →
 R (Ending.returned (Value.bool false)) w111)) ∧
 (b99 = false → ∀ (w119 : World), Below w100.heap.size w100 w119 → R (Ending.returned (Value.bool false)) w119))))))
theorem f10_eq (aa : Option Addr) (an : Nat) (ac : Nat) (ba : Option Addr) (bn : Nat) (bc : Nat) (w : World) (R : Ending → World → Prop) : (fnF Go.Proofs.Try.prog h10 Go.Proofs.Try.f10 [Value.slice aa an ac, Value.slice ba bn bc] w R).den = f10_vc aa an ac ba bn bc w R := by kernel_rfl
theorem f10_calls (aa : Option Addr) (an : Nat) (ac : Nat) (ba : Option Addr) (bn : Nat) (bc : Nat) (w : World) (R : Ending → World → Prop) (h : f10_vc aa an ac ba bn bc w R) : Calls Go.Proofs.Try.prog 10 (List.toArray [Value.slice aa an ac, Value.slice ba bn bc]) w R :=
 fn_sound (H := h10) (fn := Go.Proofs.Try.f10) (by kernel_rfl) (by kernel_rfl) (by kernel_rfl) ((f10_eq aa an ac ba bn bc w R).mpr h)

end Vcbw
