/- The formulas of functions, printed by a program (VcTool.lean): each is what the generator's formula comes to, by the kernel's reckoning; whoever proves one has the function's contract. -/
import Derived.Test.YtlapclajdfaajaaVcFn
import Derived.Test.YtlapclajdfaajaaProg
set_option maxRecDepth 100000
set_option maxHeartbeats 1000000
set_option linter.unusedVariables false
namespace Vcbv
open Go Go.Vc Go.RowKit
/-! manciple/vec.Add -/
def h35 : Hints := ⟨[7], [36, 40, 49, 54, 61, 65, 73, 78, 80, 86, 101, 103], [17, 25, 26, 55, 93, 13, 21, 30, 34, 59], [(5, [0, 1, 2, 3, 4, 5, 6, 7, 8, 9, 10, 12, 13, 14, 11, 15, 16, 17, 18, 19, 20]), (6, [0, 1, 2, 3, 6, 7, 4, 5, 8, 9]), (7, [0, 1, 2, 3, 4, 5, 6, 8, 9, 10, 7, 11, 12, 13, 14, 15]), (8, [0, 1, 2, 3, 6, 7, 4, 5, 8, 9]), (10, [0, 1, 2, 3, 4, 5, 6, 7, 8, 9, 10, 11]), (14, [0, 1, 4, 5, 6, 7, 2, 3, 8, 9, 10])], [], [(4, ⟨[(0, .sl), (1, .sl), (6, .sl)], []⟩)], [(5, ⟨[], []⟩), (6, ⟨[(26, .bool)], []⟩), (8, ⟨[(55, .bool)], []⟩)], [], []⟩
def f35_vc (aa : Option Addr) (an : Nat) (ac : Nat) (ba : Option Addr) (bn : Nat) (bc : Nat) (w : World) (R : Ending → World → Prop) : Prop :=
 Calls Proofs.Try.prog 34 #[Value.slice aa an ac] w fun (e1 : Ending) (w2 : World) =>
 ∃ (b3 : Bool),
 e1 = Ending.returned (Value.bool b3) ∧
 ((!b3) = true → R (Ending.returned (Value.tuple #[Value.slice none 0 0, Value.bool false])) w2) ∧
 ((!b3) = false →
 Calls Proofs.Try.prog 34 #[Value.slice ba bn bc] w2 fun (e4 : Ending) (w5 : World) =>
 ∃ (b6 : Bool),
 e4 = Ending.returned (Value.bool b6) ∧
 ((!b6) = true → R (Ending.returned (Value.tuple #[Value.slice none 0 0, Value.bool false])) w5) ∧
 ((!b6) = false →
 ∃ (J7 : (Option Addr × Nat × Nat) × (Option Addr × Nat × Nat) × (Option Addr × Nat × Nat) × Unit → World → Prop),
 ∃ (J8 : (Option Addr × Nat × Nat) × (Option Addr × Nat × Nat) × (Option Addr × Nat × Nat) × Unit → World → Nat),
 J7 ((aa, an, ac), (ba, bn, bc), (none, 0, 0), ()) w5 ∧
 ∀ (a9 : Option Addr) (n10 n11 : Nat) (a12 : Option Addr) (n13 n14 : Nat) (a15 : Option Addr) (n16 n17 : Nat) (w18 : World),
 J7 ((a9, n10, n11), (a12, n13, n14), (a15, n16, n17), ()) w18 →
 ∃ (J19 : Unit → World → Prop),
 ((decide ((↑n10 : Int) > 0) = true → J19 () w18) ∧
 (decide ((↑n10 : Int) > 0) = false →
 (decide ((↑n13 : Int) > 0) = true → J19 () w18) ∧ (decide ((↑n13 : Int) > 0) = false → R (Ending.returned (Value.tuple #[Value.slice a15 n16 n17, Value.bool true])) w18))) ∧
 ∀ (w20 : World),
 J19 () w20 →
 ∃ (J21 : Bool × Unit → World → Prop),
 ((((↑n13 : Int) == 0) = true → ∀ (w22 : World), Below w20.heap.size w20 w22 → J21 (true, ()) w22) ∧
 (((↑n13 : Int) == 0) = false →
 (decide ((↑n10 : Int) > 0) = true →
 ∃ (ad23 : Addr),
 Gives Proofs.Try.prog (Instr.indexAt 55 (Value.slice a9 n10 n11) (Value.int IntKind.i64 0)) (Value.pointer (some ad23)) ∧
 ∃ (x24 : Int),
 ∃ (x25 : Int),
 ∃ (x26 : Int),
 Reads Proofs.Try.prog [] (Instr.loadAt 59 (Value.pointer (some ad23))) w20 (Value.agg #[Value.int IntKind.i64 x24, Value.int IntKind.i64 x25, Value.int IntKind.i64 x26]) ∧
 ∃ (ad27 : Addr),
 Gives Proofs.Try.prog (Instr.indexAt 55 (Value.slice a12 n13 n14) (Value.int IntKind.i64 0)) (Value.pointer (some ad27)) ∧
 ∃ (x28 : Int),
 ∃ (x29 : Int),
 ∃ (x30 : Int),
 Reads Proofs.Try.prog [] (Instr.loadAt 59 (Value.pointer (some ad27))) w20
 (Value.agg #[Value.int IntKind.i64 x28, Value.int IntKind.i64 x29, Value.int IntKind.i64 x30]) ∧
 ∀ (w31 : World),
 Below w20.heap.size w20 w31 →
 Calls Proofs.Try.prog 47 #[Value.agg #[Value.int IntKind.i64 x24, Value.int IntKind.i64 x25, Value.int IntKind.i64 x26]] w31 fun (e32 : Ending) (w33 : World) =>
 ∃ (x34 : Int),
 ∃ (x35 : Int),
 e32 = Ending.returned (Value.agg #[Value.int IntKind.i64 x34, Value.int IntKind.i64 x35]) ∧
 Reads Proofs.Try.prog [] (Instr.loadAt 59 (Value.pointer (some ad27))) w33
 (Value.agg #[Value.int IntKind.i64 x28, Value.int IntKind.i64 x29, Value.int IntKind.i64 x30]) ∧
 Calls Proofs.Try.prog 47 #[Value.agg #[Value.int IntKind.i64 x28, Value.int IntKind.i64 x29, Value.int IntKind.i64 x30]] w33
 fun (e36 : Ending) (w37 : World) =>
 ∃ (x38 : Int),
 ∃ (x39 : Int),
 e36 = Ending.returned (Value.agg #[Value.int IntKind.i64 x38, Value.int IntKind.i64 x39]) ∧
 Calls Proofs.Try.prog 49
 #[Value.agg #[Value.int IntKind.i64 x34, Value.int IntKind.i64 x35], Value.agg #[Value.int IntKind.i64 x38, Value.int IntKind.i64 x39]] w37
 fun (e40 : Ending) (w41 : World) => ∃ (x42 : Int), e40 = Ending.returned (Value.int IntKind.i64 x42) ∧ J21 (decide (x42 < 0), ()) w41) ∧
 (decide ((↑n10 : Int) > 0) = false → ∀ (w43 : World), Below w20.heap.size w20 w43 → J21 (false, ()) w43))) ∧
 ∀ (b44 : Bool) (w45 : World),
 J21 (b44, ()) w45 →
 (b44 = true →
 ∃ (ad46 : Addr),
 Gives Proofs.Try.prog (Instr.indexAt 55 (Value.slice a9 n10 n11) (Value.int IntKind.i64 0)) (Value.pointer (some ad46)) ∧
 ∃ (x47 : Int),
 ∃ (x48 : Int),
 ∃ (x49 : Int),
 Reads Proofs.Try.prog [] (Instr.loadAt 59 (Value.pointer (some ad46))) w45 (Value.agg #[Value.int IntKind.i64 x47, Value.int IntKind.i64 x48, Value.int IntKind.i64 x49]) ∧
 ∃ (a50 : Option Addr),
 ∃ (n51 : Nat),
 ∃ (n52 : Nat),
 Gives Proofs.Try.prog (Instr.sliceAt 55 (Value.slice a9 n10 n11) (some (Value.int IntKind.i64 1)) none none) (Value.slice a50 n51 n52) ∧
 ∀ (w53 : World),
 Below w45.heap.size w45 w53 →
 OpW Proofs.Try.prog (valueS (Instr.buildSlice 55 1 #[(0, Value.agg #[Value.int IntKind.i64 x47, Value.int IntKind.i64 x48, Value.int IntKind.i64 x49])])) w53
 fun (v54 : Value) (w55 : World) =>
 ∃ (a56 : Option Addr),
 ∃ (n57 : Nat),
 ∃ (n58 : Nat),
 v54 = Value.slice a56 n57 n58 ∧
 OpW Proofs.Try.prog (builtin Builtin.append #[55, 55] 55 #[false, false] #[Value.slice a15 n16 n17, Value.slice a56 n57 n58]) w55
 fun (v59 : Value) (w60 : World) =>
 ∃ (a61 : Option Addr),
 ∃ (n62 : Nat),
 ∃ (n63 : Nat),
 v59 = Value.slice a61 n62 n63 ∧
 J7 ((a50, n51, n52), (a12, n13, n14), (a61, n62, n63), ()) w60 ∧
 J8 ((a50, n51, n52), (a12, n13, n14), (a61, n62, n63), ()) w60 < J8 ((a9, n10, n11), (a12, n13, n14), (a15, n16, n17), ()) w18) ∧
 (b44 = false →
 ∃ (J64 : Bool × Unit → World → Prop),
 ((((↑n10 : Int) == 0) = true → ∀ (w65 : World), Below w45.heap.size w45 w65 → J64 (true, ()) w65) ∧
 (((↑n10 : Int) == 0) = false →
 ∃ (ad66 : Addr),
 Gives Proofs.Try.prog (Instr.indexAt 55 (Value.slice a9 n10 n11) (Value.int IntKind.i64 0)) (Value.pointer (some ad66)) ∧
 ∃ (x67 : Int),
 ∃ (x68 : Int),
 ∃ (x69 : Int),
 Reads Proofs.Try.prog [] (Instr.loadAt 59 (Value.pointer (some ad66))) w45 (Value.agg #[Value.int IntKind.i64 x67, Value.int IntKind.i64 x68, Value.int IntKind.i64 x69]) ∧
 ∃ (ad70 : Addr),
 Gives Proofs.Try.prog (Instr.indexAt 55 (Value.slice a12 n13 n14) (Value.int IntKind.i64 0)) (Value.pointer (some ad70)) ∧
 ∃ (x71 : Int),
 ∃ (x72 : Int),
 ∃ (x73 : Int),
 Reads Proofs.Try.prog [] (Instr.loadAt 59 (Value.pointer (some ad70))) w45
 (Value.agg #[Value.int IntKind.i64 x71, Value.int IntKind.i64 x72, Value.int IntKind.i64 x73]) ∧
 ∀ (w74 : World),
 Below w45.heap.size w45 w74 →
 Calls Proofs.Try.prog 47 #[Value.agg #[Value.int IntKind.i64 x67, Value.int IntKind.i64 x68, Value.int IntKind.i64 x69]] w74
 fun (e75 : Ending) (w76 : World) =>
 ∃ (x77 : Int),
 ∃ (x78 : Int),
 e75 = Ending.returned (Value.agg #[Value.int IntKind.i64 x77, Value.int IntKind.i64 x78]) ∧
 Reads Proofs.Try.prog [] (Instr.loadAt 59 (Value.pointer (some ad70))) w76
 (Value.agg #[Value.int IntKind.i64 x71, Value.int IntKind.i64 x72, Value.int IntKind.i64 x73]) ∧
 Calls Proofs.Try.prog 47 #[Value.agg #[Value.int IntKind.i64 x71, Value.int IntKind.i64 x72, Value.int IntKind.i64 x73]] w76
 fun (e79 : Ending) (w80 : World) =>
 ∃ (x81 : Int),
 ∃ (x82 : Int),
 e79 = Ending.returned (Value.agg #[Value.int IntKind.i64 x81, Value.int IntKind.i64 x82]) ∧
 Calls Proofs.Try.prog 49
 #[Value.agg #[Value.int IntKind.i64 x77, Value.int IntKind.i64 x78],
 Value.agg #[Value.int IntKind.i64 x81, Value.int IntKind.i64 x82]]
 w80 fun (e83 : Ending) (w84 : World) =>
 ∃ (x85 : Int), e83 = Ending.returned (Value.int IntKind.i64 x85) ∧ J64 (decide (x85 > 0), ()) w84)) ∧
 ∀ (b86 : Bool) (w87 : World),
 J64 (b86, ()) w87 →
 (b86 = true →
 ∃ (ad88 : Addr),
 Gives Proofs.Try.prog (Instr.indexAt 55 (Value.slice a12 n13 n14) (Value.int IntKind.i64 0)) (Value.pointer (some ad88)) ∧
 ∃ (x89 : Int),
 ∃ (x90 : Int),
 ∃ (x91 : Int),
 Reads Proofs.Try.prog [] (Instr.loadAt 59 (Value.pointer (some ad88))) w87
 (Value.agg #[Value.int IntKind.i64 x89, Value.int IntKind.i64 x90, Value.int IntKind.i64 x91]) ∧
 ∃ (a92 : Option Addr),
 ∃ (n93 : Nat),
 ∃ (n94 : Nat),
 Gives Proofs.Try.prog (Instr.sliceAt 55 (Value.slice a12 n13 n14) (some (Value.int IntKind.i64 1)) none none) (Value.slice a92 n93 n94) ∧
 ∀ (w95 : World),
 Below w87.heap.size w87 w95 →
 OpW Proofs.Try.prog (valueS (Instr.buildSlice 55 1 #[(0, Value.agg #[Value.int IntKind.i64 x89, Value.int IntKind.i64 x90, Value.int IntKind.i64 x91])]))
 w95 fun (v96 : Value) (w97 : World) =>
 ∃ (a98 : Option Addr),
 ∃ (n99 : Nat),
 ∃ (n100 : Nat),
 v96 = Value.slice a98 n99 n100 ∧
 OpW Proofs.Try.prog (builtin Builtin.append #[55, 55] 55 #[false, false] #[Value.slice a15 n16 n17, Value.slice a98 n99 n100]) w97
 fun (v101 : Value) (w102 : World) =>
 ∃ (a103 : Option Addr),
 ∃ (n104 : Nat),
 ∃ (n105 : Nat),
 v101 = Value.slice a103 n104 n105 ∧
 J7 ((a9, n10, n11), (a92, n93, n94), (a103, n104, n105), ()) w102 ∧
 J8 ((a9, n10, n11), (a92, n93, n94), (a103, n104, n105), ()) w102 < J8 ((a9, n10, n11), (a12, n13, n14), (a15, n16, n17), ()) w18) ∧
 (b86 = false →
 ∃ (ad106 : Addr),
 Gives Proofs.Try.prog (Instr.indexAt 55 (Value.slice a9 n10 n11) (Value.int IntKind.i64 0)) (Value.pointer (some ad106)) ∧
 ∃ (x107 : Int),
 ∃ (x108 : Int),
 ∃ (x109 : Int),
 Reads Proofs.Try.prog [] (Instr.loadAt 59 (Value.pointer (some ad106))) w87
 (Value.agg #[Value.int IntKind.i64 x107, Value.int IntKind.i64 x108, Value.int IntKind.i64 x109]) ∧
 ∀ (n110 : Nat),
 w87.heap.size ≤ n110 →
 ∃ (ad111 : Addr),
 Gives Proofs.Try.prog (Instr.indexAt 55 (Value.slice a12 n13 n14) (Value.int IntKind.i64 0)) (Value.pointer (some ad111)) ∧
 ∃ (x112 : Int),
 Reads Proofs.Try.prog [n110] (Instr.loadAt 2 (Value.pointer (some (Addr.mk ad111.block (ad111.off + 2) none)))) w87 (Value.int IntKind.i64 x112) ∧
 ∀ (w113 : World),
 Evo [n110] w87 w113 →
 Under [n110] w113 →
 Calls Proofs.Try.prog 50 #[Value.int IntKind.i64 x109, Value.int IntKind.i64 x112, Value.int IntKind.i64 9007199254740992] w113
 fun (e114 : Ending) (w115 : World) =>
 ∃ (x116 : Int),
 ∃ (b117 : Bool),
 e114 = Ending.returned (Value.tuple #[Value.int IntKind.i64 x116, Value.bool b117]) ∧
 Keeps [n110] w113 w115 ∧
 ((!b117) = true → R (Ending.returned (Value.tuple #[Value.slice none 0 0, Value.bool false])) w115) ∧
 ((!b117) = false →
 ∃ (a118 : Option Addr),
 ∃ (n119 : Nat),
 ∃ (n120 : Nat),
 Gives Proofs.Try.prog (Instr.sliceAt 55 (Value.slice a9 n10 n11) (some (Value.int IntKind.i64 1)) none none)
 (Value.slice a118 n119 n120) ∧
 ∃ (a121 : Option Addr),
 ∃ (n122 : Nat),
 ∃ (n123 : Nat),
 Gives Proofs.Try.prog (Instr.sliceAt 55 (Value.slice a12 n13 n14) (some (Value.int IntKind.i64 1)) none none)
 (Value.slice a121 n122 n123) ∧
 ∀ (w124 : World),
 Evo [n110] w115 w124 →
 Under [n110] w124 →
 OpW Proofs.Try.prog
 (valueS
 (Instr.buildSlice 55 1
 #[(0, Value.agg #[Value.int IntKind.i64 x107, Value.int IntKind.i64 x108, Value.int IntKind.i64 x116])]))
 w124 fun (v125 : Value) (w126 : World) =>
 ∃ (a127 : Option Addr),
 ∃ (n128 : Nat),
 ∃ (n129 : Nat),
 v125 = Value.slice a127 n128 n129 ∧
 Keeps [n110] w124 w126 ∧
 OpW Proofs.Try.prog
 (builtin Builtin.append #[55, 55] 55 #[false, false]
 #[Value.slice a15 n16 n17, Value.slice a127 n128 n129])
 w126 fun (v130 : Value) (w131 : World) =>
 ∃ (a132 : Option Addr),
 ∃ (n133 : Nat),
 ∃ (n134 : Nat),
 v130 = Value.slice a132 n133 n134 ∧
 Keeps [n110] w126 w131 ∧
 J7 ((a118, n119, n120), (a121, n122, n123), (a132, n133, n134), ()) w131 ∧
 J8 ((a118, n119, n120), (a121, n122, n123), (a132, n133, n134), ()) w131 <
 J8 ((a9, n10, n11), (a12, n13, n14), (a15, n16, n17), ()) w18)))))
theorem f35_eq (aa : Option Addr) (an : Nat) (ac : Nat) (ba : Option Addr) (bn : Nat) (bc : Nat) (w : World) (R : Ending → World → Prop) : (fnF Go.Proofs.Try.prog h35 Go.Proofs.Try.f35 [Value.slice aa an ac, Value.slice ba bn bc] w R).den = f35_vc aa an ac ba bn bc w R := by kernel_rfl
theorem f35_calls (aa : Option Addr) (an : Nat) (ac : Nat) (ba : Option Addr) (bn : Nat) (bc : Nat) (w : World) (R : Ending → World → Prop) (h : f35_vc aa an ac ba bn bc w R) : Calls Go.Proofs.Try.prog 35 (List.toArray [Value.slice aa an ac, Value.slice ba bn bc]) w R :=
 fn_sound (H := h35) (fn := Go.Proofs.Try.f35) (by kernel_rfl) (by kernel_rfl) (by kernel_rfl) ((f35_eq aa an ac ba bn bc w R).mpr h)

end Vcbv
