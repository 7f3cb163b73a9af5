/- The formulas of functions, printed by a program (VcTool.lean): each is what the generator's formula comes to, by the kernel's reckoning; whoever proves one has the function's contract. -/
import Derived.Test.YtfipbnoidoljoaaVcFn
import Derived.Test.YtfipbnoidoljoaaProg
set_option maxRecDepth 100000
set_option maxHeartbeats 1000000
set_option linter.unusedVariables false
namespace Vcd1
open Go Go.Vc Go.RowKit
/-! manciple/manciplelaw08.TreePlays -/
def h3 : Hints := ⟨[], [33, 47, 108, 125], [22, 28, 44, 49, 54, 62, 80, 129, 19, 72, 95, 102, 104, 113, 120, 122, 134], [], [], [(6, ⟨[(8, .sl), (9, .int .i64)], []⟩)], [(19, ⟨[(8, .sl)], []⟩), (20, ⟨[(80, .bool)], []⟩), (24, ⟨[(129, .bool)], []⟩)], [], []⟩
def f3_vc (m : Int) (la : Option Addr) (ln : Nat) (lc : Nat) (i : Int) (w : World) (R : Ending → World → Prop) : Prop :=
 OpW Proofs.Try.prog (valueS (Instr.box 3 (Value.int IntKind.i64 m))) w fun (v1 : Value) (w2 : World) =>
 ∃ (ad3 : Addr),
 v1 = Value.pointer (some ad3) ∧
 (decide ((↑ln : Int) > 120) = true → R (Ending.returned (Value.bool true)) w2) ∧
 (decide ((↑ln : Int) > 120) = false →
 ∃ (x4 : Int),
 Reads Proofs.Try.prog [] (Instr.loadAt 3 (Value.pointer (some ad3))) w2 (Value.int IntKind.i64 x4) ∧
 (decide (x4 > 1000) = true → R (Ending.returned (Value.bool true)) w2) ∧
 (decide (x4 > 1000) = false →
 Calls Proofs.Try.prog 10 #[Value.func (Fn.func 11) #[] #[Value.pointer (some ad3)]] w2 fun (e5 : Ending) (w6 : World) =>
 ∃ (a7 : Option Addr),
 e5 = Ending.returned (Value.pointer a7) ∧
 ∃ (J8 : (Option Addr × Nat × Nat) × Int × Unit → World → Prop),
 ∃ (J9 : (Option Addr × Nat × Nat) × Int × Unit → World → Nat),
 J8 ((none, 0, 0), 0, ()) w6 ∧
 ∀ (a10 : Option Addr) (n11 n12 : Nat) (x13 : Int) (w14 : World),
 J8 ((a10, n11, n12), x13, ()) w14 →
 (decide (x13 < (↑ln : Int)) = true →
 ∃ (ad15 : Addr),
 Gives Proofs.Try.prog (Instr.indexAt 22 (Value.slice la ln lc) (Value.int IntKind.i64 x13)) (Value.pointer (some ad15)) ∧
 ∃ (x16 : Int),
 Reads Proofs.Try.prog [] (Instr.loadAt 3 (Value.pointer (some (Addr.mk ad15.block (ad15.off + 1) none)))) w14 (Value.int IntKind.i64 x16) ∧
 Calls Proofs.Try.prog 13 #[Value.slice a10 n11 n12, Value.int IntKind.i64 x16] w14 fun (e17 : Ending) (w18 : World) =>
 ∃ (x19 : Int),
 e17 = Ending.returned (Value.int IntKind.i64 x19) ∧
 Calls Proofs.Try.prog 14 #[Value.pointer a7, Value.int IntKind.i64 x16] w18 fun (e20 : Ending) (w21 : World) =>
 ∃ (b22 : Bool),
 e20 = Ending.returned (Value.bool b22) ∧
 ((!b22 == decide (x19 ≥ 0)) = true → R (Ending.returned (Value.bool false)) w21) ∧
 ((!b22 == decide (x19 ≥ 0)) = false →
 ∃ (J23 : (Option Addr × Nat × Nat) × Unit → World → Prop),
 (∃ (ad24 : Addr),
 Gives Proofs.Try.prog (Instr.indexAt 22 (Value.slice la ln lc) (Value.int IntKind.i64 x13)) (Value.pointer (some ad24)) ∧
 ∃ (b25 : Bool),
 Reads Proofs.Try.prog [] (Instr.loadAt 4 (Value.pointer (some ad24))) w21 (Value.bool b25) ∧
 (b25 = true →
 Calls Proofs.Try.prog 15 #[Value.pointer a7, Value.int IntKind.i64 x16] w21 fun (e26 : Ending) (w27 : World) =>
 ∃ (b28 : Bool),
 e26 = Ending.returned (Value.bool b28) ∧
 ((!b28 == decide (x19 ≥ 0)) = true → R (Ending.returned (Value.bool false)) w27) ∧
 ((!b28 == decide (x19 ≥ 0)) = false →
 Calls Proofs.Try.prog 16 #[Value.slice a10 n11 n12, Value.int IntKind.i64 x16] w27 fun (e29 : Ending) (w30 : World) =>
 ∃ (a31 : Option Addr), ∃ (n32 : Nat), ∃ (n33 : Nat), e29 = Ending.returned (Value.slice a31 n32 n33) ∧ J23 ((a31, n32, n33), ()) w30)) ∧
 (b25 = false →
 Calls Proofs.Try.prog 17 #[Value.pointer a7, Value.int IntKind.i64 x16] w21 fun (e34 : Ending) (w35 : World) =>
 ∃ (b36 : Bool),
 e34 = Ending.returned (Value.bool b36) ∧
 ((b36 == decide (x19 ≥ 0)) = true → R (Ending.returned (Value.bool false)) w35) ∧
 ((b36 == decide (x19 ≥ 0)) = false →
 ∃ (x37 : Int),
 Reads Proofs.Try.prog [] (Instr.loadAt 3 (Value.pointer (some ad3))) w35 (Value.int IntKind.i64 x37) ∧
 Calls Proofs.Try.prog 18 #[Value.int IntKind.i64 x37, Value.slice a10 n11 n12, Value.int IntKind.i64 x16] w35 fun (e38 : Ending) (w39 : World) =>
 ∃ (a40 : Option Addr), ∃ (n41 : Nat), ∃ (n42 : Nat), e38 = Ending.returned (Value.slice a40 n41 n42) ∧ J23 ((a40, n41, n42), ()) w39))) ∧
 ∀ (a43 : Option Addr) (n44 n45 : Nat) (w46 : World),
 J23 ((a43, n44, n45), ()) w46 →
 ∃ (J47 : Bool × Unit → World → Prop),
 (Calls Proofs.Try.prog 19 #[Value.pointer a7] w46 fun (e48 : Ending) (w49 : World) =>
 ∃ (x50 : Int),
 e48 = Ending.returned (Value.int IntKind.i64 x50) ∧
 ((x50 != (↑n44 : Int)) = true → J47 (true, ()) w49) ∧
 ((x50 != (↑n44 : Int)) = false →
 Calls Proofs.Try.prog 20 #[Value.pointer a7, Value.int IntKind.i64 x16] w49 fun (e51 : Ending) (w52 : World) =>
 ∃ (x53 : Int),
 e51 = Ending.returned (Value.int IntKind.i64 x53) ∧
 Calls Proofs.Try.prog 13 #[Value.slice a43 n44 n45, Value.int IntKind.i64 x16] w52 fun (e54 : Ending) (w55 : World) =>
 ∃ (x56 : Int), e54 = Ending.returned (Value.int IntKind.i64 x56) ∧ J47 (x53 != x56, ()) w55)) ∧
 ∀ (b57 : Bool) (w58 : World),
 J47 (b57, ()) w58 →
 (b57 = true → R (Ending.returned (Value.bool false)) w58) ∧
 (b57 = false →
 J8 ((a43, n44, n45), IntKind.i64.wrap (x13 + 1), ()) w58 ∧ J9 ((a43, n44, n45), IntKind.i64.wrap (x13 + 1), ()) w58 < J9 ((a10, n11, n12), x13, ()) w14))) ∧
 (decide (x13 < (↑ln : Int)) = false →
 Calls Proofs.Try.prog 21 #[Value.pointer a7, Value.int IntKind.i64 i] w14 fun (e59 : Ending) (w60 : World) =>
 ∃ (x61 : Int),
 ∃ (b62 : Bool),
 e59 = Ending.returned (Value.tuple #[Value.int IntKind.i64 x61, Value.bool b62]) ∧
 Calls Proofs.Try.prog 22 #[Value.pointer a7] w60 fun (e63 : Ending) (w64 : World) =>
 ∃ (x65 : Int),
 ∃ (b66 : Bool),
 e63 = Ending.returned (Value.tuple #[Value.int IntKind.i64 x65, Value.bool b66]) ∧
 ∃ (J67 : Bool × Unit → World → Prop),
 ((decide (i ≥ 0) = true →
 ((!b62 == decide (i < (↑n11 : Int))) = true → J67 (true, ()) w64) ∧
 ((!b62 == decide (i < (↑n11 : Int))) = false →
 (b62 = true →
 ∃ (ad68 : Addr),
 Gives Proofs.Try.prog (Instr.indexAt 27 (Value.slice a10 n11 n12) (Value.int IntKind.i64 i)) (Value.pointer (some ad68)) ∧
 ∃ (x69 : Int),
 Reads Proofs.Try.prog [] (Instr.loadAt 3 (Value.pointer (some ad68))) w64 (Value.int IntKind.i64 x69) ∧
 ((x61 != x69) = true → J67 (true, ()) w64) ∧
 ((x61 != x69) = false →
 ((!b66 == decide ((↑n11 : Int) > 0)) = true → J67 (true, ()) w64) ∧
 ((!b66 == decide ((↑n11 : Int) > 0)) = false →
 (b66 = true →
 ∃ (ad70 : Addr),
 Gives Proofs.Try.prog (Instr.indexAt 27 (Value.slice a10 n11 n12) (Value.int IntKind.i64 0)) (Value.pointer (some ad70)) ∧
 ∃ (x71 : Int), Reads Proofs.Try.prog [] (Instr.loadAt 3 (Value.pointer (some ad70))) w64 (Value.int IntKind.i64 x71) ∧ J67 (x65 != x71, ()) w64) ∧
 (b66 = false → J67 (false, ()) w64)))) ∧
 (b62 = false →
 ((!b66 == decide ((↑n11 : Int) > 0)) = true → J67 (true, ()) w64) ∧
 ((!b66 == decide ((↑n11 : Int) > 0)) = false →
 (b66 = true →
 ∃ (ad72 : Addr),
 Gives Proofs.Try.prog (Instr.indexAt 27 (Value.slice a10 n11 n12) (Value.int IntKind.i64 0)) (Value.pointer (some ad72)) ∧
 ∃ (x73 : Int), Reads Proofs.Try.prog [] (Instr.loadAt 3 (Value.pointer (some ad72))) w64 (Value.int IntKind.i64 x73) ∧ J67 (x65 != x73, ()) w64) ∧
 (b66 = false → J67 (false, ()) w64))))) ∧
 (decide (i ≥ 0) = false →
 ((!b62 == false) = true → J67 (true, ()) w64) ∧
 ((!b62 == false) = false →
 (b62 = true →
 ∃ (ad74 : Addr),
 Gives Proofs.Try.prog (Instr.indexAt 27 (Value.slice a10 n11 n12) (Value.int IntKind.i64 i)) (Value.pointer (some ad74)) ∧
 ∃ (x75 : Int),
 Reads Proofs.Try.prog [] (Instr.loadAt 3 (Value.pointer (some ad74))) w64 (Value.int IntKind.i64 x75) ∧
 ((x61 != x75) = true → J67 (true, ()) w64) ∧
 ((x61 != x75) = false →
 ((!b66 == decide ((↑n11 : Int) > 0)) = true → J67 (true, ()) w64) ∧
 ((!b66 == decide ((↑n11 : Int) > 0)) = false →
 (b66 = true →
 ∃ (ad76 : Addr),
 Gives Proofs.Try.prog (Instr.indexAt 27 (Value.slice a10 n11 n12) (Value.int IntKind.i64 0)) (Value.pointer (some ad76)) ∧
 ∃ (x77 : Int), Reads Proofs.Try.prog [] (Instr.loadAt 3 (Value.pointer (some ad76))) w64 (Value.int IntKind.i64 x77) ∧ J67 (x65 != x77, ()) w64) ∧
 (b66 = false → J67 (false, ()) w64)))) ∧
 (b62 = false →
 ((!b66 == decide ((↑n11 : Int) > 0)) = true → J67 (true, ()) w64) ∧
 ((!b66 == decide ((↑n11 : Int) > 0)) = false →
 (b66 = true →
 ∃ (ad78 : Addr),
 Gives Proofs.Try.prog (Instr.indexAt 27 (Value.slice a10 n11 n12) (Value.int IntKind.i64 0)) (Value.pointer (some ad78)) ∧
 ∃ (x79 : Int), Reads Proofs.Try.prog [] (Instr.loadAt 3 (Value.pointer (some ad78))) w64 (Value.int IntKind.i64 x79) ∧ J67 (x65 != x79, ()) w64) ∧
 (b66 = false → J67 (false, ()) w64)))))) ∧
 ∀ (b80 : Bool) (w81 : World),
 J67 (b80, ()) w81 →
 (b80 = true → R (Ending.returned (Value.bool false)) w81) ∧
 (b80 = false →
 Calls Proofs.Try.prog 24 #[Value.pointer a7] w81 fun (e82 : Ending) (w83 : World) =>
 ∃ (a84 : Option Addr),
 ∃ (n85 : Nat),
 ∃ (n86 : Nat),
 e82 = Ending.returned (Value.slice a84 n85 n86) ∧
 Calls Proofs.Try.prog 23 #[Value.slice a84 n85 n86, Value.slice a10 n11 n12] w83 fun (e87 : Ending) (w88 : World) =>
 ∃ (b89 : Bool),
 e87 = Ending.returned (Value.bool b89) ∧
 (b89 = true →
 Calls Proofs.Try.prog 25 #[] w88 fun (e90 : Ending) (w91 : World) =>
 ∃ (b92 : Bool), e90 = Ending.returned (Value.bool b92) ∧ R (Ending.returned (Value.bool b92)) w91) ∧
 (b89 = false → R (Ending.returned (Value.bool false)) w88)))))
theorem f3_eq (m : Int) (la : Option Addr) (ln : Nat) (lc : Nat) (i : Int) (w : World) (R : Ending → World → Prop) : (fnF Go.Proofs.Try.prog h3 Go.Proofs.Try.f3 [Value.int IntKind.i64 m, Value.slice la ln lc, Value.int IntKind.i64 i] w R).den = f3_vc m la ln lc i w R := by kernel_rfl
theorem f3_calls (m : Int) (la : Option Addr) (ln : Nat) (lc : Nat) (i : Int) (w : World) (R : Ending → World → Prop) (h : f3_vc m la ln lc i w R) : Calls Go.Proofs.Try.prog 3 (List.toArray [Value.int IntKind.i64 m, Value.slice la ln lc, Value.int IntKind.i64 i]) w R :=
 fn_sound (H := h3) (fn := Go.Proofs.Try.f3) (by kernel_rfl) (by kernel_rfl) (by kernel_rfl) ((f3_eq m la ln lc i w R).mpr h)


/-! manciple/manciplelaw08.TreeBack -/
def h4 : Hints := ⟨[], [26, 40, 44], [15, 20, 34, 46, 67, 50, 56, 61, 77, 82, 87, 91, 96, 100, 104], [(12, [0, 1, 2, 3, 4, 5, 6, 7, 8, 9])], [], [(5, ⟨[(6, .int .i64)], []⟩), (10, ⟨[(8, .int .i64)], []⟩)], [], [], []⟩
def f4_vc (la : Option Addr) (ln : Nat) (lc : Nat) (k : Int) (w : World) (R : Ending → World → Prop) : Prop :=
 (decide ((↑ln : Int) > 120) = true → R (Ending.returned (Value.bool true)) w) ∧
 (decide ((↑ln : Int) > 120) = false →
 Calls Proofs.Try.prog 10 #[Value.func (Fn.func 26) #[] #[]] w fun (e1 : Ending) (w2 : World) =>
 ∃ (a3 : Option Addr),
 e1 = Ending.returned (Value.pointer a3) ∧
 ∃ (J4 : Int × Unit → World → Prop),
 ∃ (J5 : Int × Unit → World → Nat),
 J4 (0, ()) w2 ∧
 ∀ (x6 : Int) (w7 : World),
 J4 (x6, ()) w7 →
 (decide (x6 < (↑ln : Int)) = true →
 ∃ (ad8 : Addr),
 Gives Proofs.Try.prog (Instr.indexAt 27 (Value.slice la ln lc) (Value.int IntKind.i64 x6)) (Value.pointer (some ad8)) ∧
 ∃ (x9 : Int),
 Reads Proofs.Try.prog [] (Instr.loadAt 3 (Value.pointer (some ad8))) w7 (Value.int IntKind.i64 x9) ∧
 Calls Proofs.Try.prog 17 #[Value.pointer a3, Value.int IntKind.i64 x9] w7 fun (e10 : Ending) (w11 : World) =>
 ∃ (b12 : Bool), e10 = Ending.returned (Value.bool b12) ∧ J4 (IntKind.i64.wrap (x6 + 1), ()) w11 ∧ J5 (IntKind.i64.wrap (x6 + 1), ()) w11 < J5 (x6, ()) w7) ∧
 (decide (x6 < (↑ln : Int)) = false →
 Calls Proofs.Try.prog 24 #[Value.pointer a3] w7 fun (e13 : Ending) (w14 : World) =>
 ∃ (a15 : Option Addr),
 ∃ (n16 : Nat),
 ∃ (n17 : Nat),
 e13 = Ending.returned (Value.slice a15 n16 n17) ∧
 ∃ (J18 : Int × Unit → World → Prop),
 ∃ (J19 : Int × Unit → World → Nat),
 J18 (1, ()) w14 ∧
 ∀ (x20 : Int) (w21 : World),
 J18 (x20, ()) w21 →
 (decide (x20 < (↑n16 : Int)) = true →
 ∃ (ad22 : Addr),
 Gives Proofs.Try.prog (Instr.indexAt 27 (Value.slice a15 n16 n17) (Value.int IntKind.i64 (IntKind.i64.wrap (x20 - 1)))) (Value.pointer (some ad22)) ∧
 ∃ (x23 : Int),
 Reads Proofs.Try.prog [] (Instr.loadAt 3 (Value.pointer (some ad22))) w21 (Value.int IntKind.i64 x23) ∧
 ∃ (ad24 : Addr),
 Gives Proofs.Try.prog (Instr.indexAt 27 (Value.slice a15 n16 n17) (Value.int IntKind.i64 x20)) (Value.pointer (some ad24)) ∧
 ∃ (x25 : Int),
 Reads Proofs.Try.prog [] (Instr.loadAt 3 (Value.pointer (some ad24))) w21 (Value.int IntKind.i64 x25) ∧
 (decide (x23 ≥ x25) = true → ∀ (w26 : World), Bel w21 w26 → R (Ending.returned (Value.bool false)) w26) ∧
 (decide (x23 ≥ x25) = false → ∀ (w27 : World), Bel w21 w27 → J18 (IntKind.i64.wrap (x20 + 1), ()) w27 ∧ J19 (IntKind.i64.wrap (x20 + 1), ()) w27 < J19 (x20, ()) w21)) ∧
 (decide (x20 < (↑n16 : Int)) = false →
 Calls Proofs.Try.prog 17 #[Value.pointer a3, Value.int IntKind.i64 k] w21 fun (e28 : Ending) (w29 : World) =>
 ∃ (b30 : Bool),
 e28 = Ending.returned (Value.bool b30) ∧
 (b30 = true →
 Calls Proofs.Try.prog 15 #[Value.pointer a3, Value.int IntKind.i64 k] w29 fun (e31 : Ending) (w32 : World) =>
 ∃ (b33 : Bool),
 e31 = Ending.returned (Value.bool b33) ∧
 ((!b33) = true → R (Ending.returned (Value.bool false)) w32) ∧
 ((!b33) = false →
 Calls Proofs.Try.prog 14 #[Value.pointer a3, Value.int IntKind.i64 k] w32 fun (e34 : Ending) (w35 : World) =>
 ∃ (b36 : Bool),
 e34 = Ending.returned (Value.bool b36) ∧
 ((!b36) = true →
 Calls Proofs.Try.prog 20 #[Value.pointer a3, Value.int IntKind.i64 k] w35 fun (e37 : Ending) (w38 : World) =>
 ∃ (x39 : Int),
 e37 = Ending.returned (Value.int IntKind.i64 x39) ∧
 ((x39 != -1) = true → R (Ending.returned (Value.bool false)) w38) ∧
 ((x39 != -1) = false →
 Calls Proofs.Try.prog 22 #[Value.pointer none] w38 fun (e40 : Ending) (w41 : World) =>
 ∃ (x42 : Int),
 ∃ (b43 : Bool),
 e40 = Ending.returned (Value.tuple #[Value.int IntKind.i64 x42, Value.bool b43]) ∧
 OpW Proofs.Try.prog (valueS (Instr.alloc 45 true (Value.tuple #[]))) w41 fun (v44 : Value) (w45 : World) =>
 ∃ (ad46 : Addr),
 v44 = Value.pointer (some ad46) ∧
 Calls Proofs.Try.prog 24 #[Value.pointer a3] w45 fun (e47 : Ending) (w48 : World) =>
 ∃ (a49 : Option Addr),
 ∃ (n50 : Nat),
 ∃ (n51 : Nat),
 e47 = Ending.returned (Value.slice a49 n50 n51) ∧
 Calls Proofs.Try.prog 23 #[Value.slice a49 n50 n51, Value.slice a15 n16 n17] w48 fun (e52 : Ending) (w53 : World) =>
 ∃ (b54 : Bool),
 e52 = Ending.returned (Value.bool b54) ∧
 (b54 = true →
 Calls Proofs.Try.prog 17 #[Value.pointer none, Value.int IntKind.i64 1] w53 fun (e55 : Ending) (w56 : World) =>
 ∃ (b57 : Bool),
 e55 = Ending.returned (Value.bool b57) ∧
 ((!b57) = true →
 Calls Proofs.Try.prog 15 #[Value.pointer none, Value.int IntKind.i64 1] w56
 fun (e58 : Ending) (w59 : World) =>
 ∃ (b60 : Bool),
 e58 = Ending.returned (Value.bool b60) ∧
 ((!b60) = true →
 ((!b43) = true →
 Calls Proofs.Try.prog 19 #[Value.pointer none] w59 fun (e61 : Ending) (w62 : World) =>
 ∃ (x63 : Int),
 e61 = Ending.returned (Value.int IntKind.i64 x63) ∧
 ((x63 == 0) = true →
 Calls Proofs.Try.prog 17 #[Value.pointer (some ad46), Value.int IntKind.i64 1] w62
 fun (e64 : Ending) (w65 : World) =>
 ∃ (b66 : Bool),
 e64 = Ending.returned (Value.bool b66) ∧
 ((!b66) = true →
 Calls Proofs.Try.prog 19 #[Value.pointer (some ad46)] w65
 fun (e67 : Ending) (w68 : World) =>
 ∃ (x69 : Int),
 e67 = Ending.returned (Value.int IntKind.i64 x69) ∧
 ((x69 == 0) = true →
 Calls Proofs.Try.prog 25 #[] w68
 fun (e70 : Ending) (w71 : World) =>
 ∃ (b72 : Bool),
 e70 = Ending.returned (Value.bool b72) ∧
 R (Ending.returned (Value.bool b72)) w71) ∧
 ((x69 == 0) = false →
 R (Ending.returned (Value.bool false)) w68)) ∧
 ((!b66) = false → R (Ending.returned (Value.bool false)) w65)) ∧
 ((x63 == 0) = false → R (Ending.returned (Value.bool false)) w62)) ∧
 ((!b43) = false → R (Ending.returned (Value.bool false)) w59)) ∧
 ((!b60) = false → R (Ending.returned (Value.bool false)) w59)) ∧
 ((!b57) = false → R (Ending.returned (Value.bool false)) w56)) ∧
 (b54 = false → R (Ending.returned (Value.bool false)) w53))) ∧
 ((!b36) = false →
 Calls Proofs.Try.prog 22 #[Value.pointer none] w35 fun (e73 : Ending) (w74 : World) =>
 ∃ (x75 : Int),
 ∃ (b76 : Bool),
 e73 = Ending.returned (Value.tuple #[Value.int IntKind.i64 x75, Value.bool b76]) ∧
 OpW Proofs.Try.prog (valueS (Instr.alloc 45 true (Value.tuple #[]))) w74 fun (v77 : Value) (w78 : World) =>
 ∃ (ad79 : Addr),
 v77 = Value.pointer (some ad79) ∧
 Calls Proofs.Try.prog 24 #[Value.pointer a3] w78 fun (e80 : Ending) (w81 : World) =>
 ∃ (a82 : Option Addr),
 ∃ (n83 : Nat),
 ∃ (n84 : Nat),
 e80 = Ending.returned (Value.slice a82 n83 n84) ∧
 Calls Proofs.Try.prog 23 #[Value.slice a82 n83 n84, Value.slice a15 n16 n17] w81 fun (e85 : Ending) (w86 : World) =>
 ∃ (b87 : Bool),
 e85 = Ending.returned (Value.bool b87) ∧
 (b87 = true →
 Calls Proofs.Try.prog 17 #[Value.pointer none, Value.int IntKind.i64 1] w86 fun (e88 : Ending) (w89 : World) =>
 ∃ (b90 : Bool),
 e88 = Ending.returned (Value.bool b90) ∧
 ((!b90) = true →
 Calls Proofs.Try.prog 15 #[Value.pointer none, Value.int IntKind.i64 1] w89 fun (e91 : Ending) (w92 : World) =>
 ∃ (b93 : Bool),
 e91 = Ending.returned (Value.bool b93) ∧
 ((!b93) = true →
 ((!b76) = true →
 Calls Proofs.Try.prog 19 #[Value.pointer none] w92 fun (e94 : Ending) (w95 : World) =>
 ∃ (x96 : Int),
 e94 = Ending.returned (Value.int IntKind.i64 x96) ∧
 ((x96 == 0) = true →
 Calls Proofs.Try.prog 17 #[Value.pointer (some ad79), Value.int IntKind.i64 1] w95
 fun (e97 : Ending) (w98 : World) =>
 ∃ (b99 : Bool),
 e97 = Ending.returned (Value.bool b99) ∧
 ((!b99) = true →
 Calls Proofs.Try.prog 19 #[Value.pointer (some ad79)] w98
 fun (e100 : Ending) (w101 : World) =>
 ∃ (x102 : Int),
 e100 = Ending.returned (Value.int IntKind.i64 x102) ∧
 ((x102 == 0) = true →
 Calls Proofs.Try.prog 25 #[] w101 fun (e103 : Ending) (w104 : World) =>
 ∃ (b105 : Bool),
 e103 = Ending.returned (Value.bool b105) ∧
 R (Ending.returned (Value.bool b105)) w104) ∧
 ((x102 == 0) = false → R (Ending.returned (Value.bool false)) w101)) ∧
 ((!b99) = false → R (Ending.returned (Value.bool false)) w98)) ∧
 ((x96 == 0) = false → R (Ending.returned (Value.bool false)) w95)) ∧
 ((!b76) = false → R (Ending.returned (Value.bool false)) w92)) ∧
 ((!b93) = false → R (Ending.returned (Value.bool false)) w92)) ∧
 ((!b90) = false → R (Ending.returned (Value.bool false)) w89)) ∧
 (b87 = false → R (Ending.returned (Value.bool false)) w86)))) ∧
 (b30 = false →
 Calls Proofs.Try.prog 14 #[Value.pointer a3, Value.int IntKind.i64 k] w29 fun (e106 : Ending) (w107 : World) =>
 ∃ (b108 : Bool),
 e106 = Ending.returned (Value.bool b108) ∧
 ((!b108) = true →
 Calls Proofs.Try.prog 20 #[Value.pointer a3, Value.int IntKind.i64 k] w107 fun (e109 : Ending) (w110 : World) =>
 ∃ (x111 : Int),
 e109 = Ending.returned (Value.int IntKind.i64 x111) ∧
 ((x111 != -1) = true → R (Ending.returned (Value.bool false)) w110) ∧
 ((x111 != -1) = false →
 Calls Proofs.Try.prog 22 #[Value.pointer none] w110 fun (e112 : Ending) (w113 : World) =>
 ∃ (x114 : Int),
 ∃ (b115 : Bool),
 e112 = Ending.returned (Value.tuple #[Value.int IntKind.i64 x114, Value.bool b115]) ∧
 OpW Proofs.Try.prog (valueS (Instr.alloc 45 true (Value.tuple #[]))) w113 fun (v116 : Value) (w117 : World) =>
 ∃ (ad118 : Addr),
 v116 = Value.pointer (some ad118) ∧
 Calls Proofs.Try.prog 24 #[Value.pointer a3] w117 fun (e119 : Ending) (w120 : World) =>
 ∃ (a121 : Option Addr),
 ∃ (n122 : Nat),
 ∃ (n123 : Nat),
 e119 = Ending.returned (Value.slice a121 n122 n123) ∧
 Calls Proofs.Try.prog 23 #[Value.slice a121 n122 n123, Value.slice a15 n16 n17] w120 fun (e124 : Ending) (w125 : World) =>
 ∃ (b126 : Bool),
 e124 = Ending.returned (Value.bool b126) ∧
 (b126 = true →
 Calls Proofs.Try.prog 17 #[Value.pointer none, Value.int IntKind.i64 1] w125 fun (e127 : Ending) (w128 : World) =>
 ∃ (b129 : Bool),
 e127 = Ending.returned (Value.bool b129) ∧
 ((!b129) = true →
 Calls Proofs.Try.prog 15 #[Value.pointer none, Value.int IntKind.i64 1] w128 fun (e130 : Ending) (w131 : World) =>
 ∃ (b132 : Bool),
 e130 = Ending.returned (Value.bool b132) ∧
 ((!b132) = true →
 ((!b115) = true →
 Calls Proofs.Try.prog 19 #[Value.pointer none] w131 fun (e133 : Ending) (w134 : World) =>
 ∃ (x135 : Int),
 e133 = Ending.returned (Value.int IntKind.i64 x135) ∧
 ((x135 == 0) = true →
 Calls Proofs.Try.prog 17 #[Value.pointer (some ad118), Value.int IntKind.i64 1] w134
 fun (e136 : Ending) (w137 : World) =>
 ∃ (b138 : Bool),
 e136 = Ending.returned (Value.bool b138) ∧
 ((!b138) = true →
 Calls Proofs.Try.prog 19 #[Value.pointer (some ad118)] w137
 fun (e139 : Ending) (w140 : World) =>
 ∃ (x141 : Int),
 e139 = Ending.returned (Value.int IntKind.i64 x141) ∧
 ((x141 == 0) = true →
 Calls Proofs.Try.prog 25 #[] w140 fun (e142 : Ending) (w143 : World) =>
 ∃ (b144 : Bool),
 e142 = Ending.returned (Value.bool b144) ∧
 R (Ending.returned (Value.bool b144)) w143) ∧
 ((x141 == 0) = false → R (Ending.returned (Value.bool false)) w140)) ∧
 ((!b138) = false → R (Ending.returned (Value.bool false)) w137)) ∧
 ((x135 == 0) = false → R (Ending.returned (Value.bool false)) w134)) ∧
 ((!b115) = false → R (Ending.returned (Value.bool false)) w131)) ∧
 ((!b132) = false → R (Ending.returned (Value.bool false)) w131)) ∧
 ((!b129) = false → R (Ending.returned (Value.bool false)) w128)) ∧
 (b126 = false → R (Ending.returned (Value.bool false)) w125))) ∧
 ((!b108) = false →
 Calls Proofs.Try.prog 22 #[Value.pointer none] w107 fun (e145 : Ending) (w146 : World) =>
 ∃ (x147 : Int),
 ∃ (b148 : Bool),
 e145 = Ending.returned (Value.tuple #[Value.int IntKind.i64 x147, Value.bool b148]) ∧
 OpW Proofs.Try.prog (valueS (Instr.alloc 45 true (Value.tuple #[]))) w146 fun (v149 : Value) (w150 : World) =>
 ∃ (ad151 : Addr),
 v149 = Value.pointer (some ad151) ∧
 Calls Proofs.Try.prog 24 #[Value.pointer a3] w150 fun (e152 : Ending) (w153 : World) =>
 ∃ (a154 : Option Addr),
 ∃ (n155 : Nat),
 ∃ (n156 : Nat),
 e152 = Ending.returned (Value.slice a154 n155 n156) ∧
 Calls Proofs.Try.prog 23 #[Value.slice a154 n155 n156, Value.slice a15 n16 n17] w153 fun (e157 : Ending) (w158 : World) =>
 ∃ (b159 : Bool),
 e157 = Ending.returned (Value.bool b159) ∧
 (b159 = true →
 Calls Proofs.Try.prog 17 #[Value.pointer none, Value.int IntKind.i64 1] w158 fun (e160 : Ending) (w161 : World) =>
 ∃ (b162 : Bool),
 e160 = Ending.returned (Value.bool b162) ∧
 ((!b162) = true →
 Calls Proofs.Try.prog 15 #[Value.pointer none, Value.int IntKind.i64 1] w161 fun (e163 : Ending) (w164 : World) =>
 ∃ (b165 : Bool),
 e163 = Ending.returned (Value.bool b165) ∧
 ((!b165) = true →
 ((!b148) = true →
 Calls Proofs.Try.prog 19 #[Value.pointer none] w164 fun (e166 : Ending) (w167 : World) =>
 ∃ (x168 : Int),
 e166 = Ending.returned (Value.int IntKind.i64 x168) ∧
 ((x168 == 0) = true →
 Calls Proofs.Try.prog 17 #[Value.pointer (some ad151), Value.int IntKind.i64 1] w167
 fun (e169 : Ending) (w170 : World) =>
 ∃ (b171 : Bool),
 e169 = Ending.returned (Value.bool b171) ∧
 ((!b171) = true →
 Calls Proofs.Try.prog 19 #[Value.pointer (some ad151)] w170
 fun (e172 : Ending) (w173 : World) =>
 ∃ (x174 : Int),
 e172 = Ending.returned (Value.int IntKind.i64 x174) ∧
 ((x174 == 0) = true →
 Calls Proofs.Try.prog 25 #[] w173 fun (e175 : Ending) (w176 : World) =>
 ∃ (b177 : Bool),
 e175 = Ending.returned (Value.bool b177) ∧
 R (Ending.returned (Value.bool b177)) w176) ∧
 ((x174 == 0) = false → R (Ending.returned (Value.bool false)) w173)) ∧
 ((!b171) = false → R (Ending.returned (Value.bool false)) w170)) ∧
 ((x168 == 0) = false → R (Ending.returned (Value.bool false)) w167)) ∧
 ((!b148) = false → R (Ending.returned (Value.bool false)) w164)) ∧
 ((!b165) = false → R (Ending.returned (Value.bool false)) w164)) ∧
 ((!b162) = false → R (Ending.returned (Value.bool false)) w161)) ∧
 (b159 = false → R (Ending.returned (Value.bool false)) w158))))))
theorem f4_eq (la : Option Addr) (ln : Nat) (lc : Nat) (k : Int) (w : World) (R : Ending → World → Prop) : (fnF Go.Proofs.Try.prog h4 Go.Proofs.Try.f4 [Value.slice la ln lc, Value.int IntKind.i64 k] w R).den = f4_vc la ln lc k w R := by kernel_rfl
theorem f4_calls (la : Option Addr) (ln : Nat) (lc : Nat) (k : Int) (w : World) (R : Ending → World → Prop) (h : f4_vc la ln lc k w R) : Calls Go.Proofs.Try.prog 4 (List.toArray [Value.slice la ln lc, Value.int IntKind.i64 k]) w R :=
 fn_sound (H := h4) (fn := Go.Proofs.Try.f4) (by kernel_rfl) (by kernel_rfl) (by kernel_rfl) ((f4_eq la ln lc k w R).mpr h)

end Vcd1
