/- Own texts of this claim, laid together: FA1, Jq1, Jq2, Jq3, Jq4, FA2, Jq5, Jq6, Jq7, QArg, FA3. -/
import Derived.Test.YthfagnpgiciphaaMg28e4830d
import Derived.Test.YthfagnpgiciphaaProg

/- The formulas of functions, printed by a program (VcTool.lean): each is what the generator's formula comes to, by the kernel's reckoning; whoever proves one has the function's contract. -/
set_option maxRecDepth 100000
set_option maxHeartbeats 1000000
set_option linter.unusedVariables false
namespace Vct
open Go Go.Vc Go.RowKit
/-! manciple/mancipleref22.Few -/
def h38 : Hints := ⟨[], [14, 21], [8, 29], [(5, [0, 1, 2, 3, 4, 5, 6, 7, 8, 9, 10, 11, 12, 13, 14, 15])], [], [(3, ⟨[(3, .int .i64), (4, .int .i64)], []⟩)], [], [], []⟩
def f38_vc (la : Option Addr) (ln : Nat) (lc : Nat) (w : World) (R : Ending → World → Prop) : Prop :=
 ∃ (J1 : Int × Int × Unit → World → Prop),
 ∃ (J2 : Int × Int × Unit → World → Nat),
 J1 (0, 0, ()) w ∧
 ∀ (x3 x4 : Int) (w5 : World),
 J1 (x3, x4, ()) w5 →
 (decide (x4 < (↑ln : Int)) = true →
 ∃ (ad6 : Addr),
 Gives Proofs.Try.prog (Instr.indexAt 76 (Value.slice la ln lc) (Value.int IntKind.i64 x4)) (Value.pointer (some ad6)) ∧
 ∃ (a7 : Option Addr),
 ∃ (n8 : Nat),
 ∃ (n9 : Nat),
 Reads Proofs.Try.prog [] (Instr.loadAt 23 (Value.pointer (some (Addr.mk ad6.block (ad6.off + 2) none)))) w5 (Value.slice a7 n8 n9) ∧
 ∃ (ad10 : Addr),
 Gives Proofs.Try.prog (Instr.indexAt 76 (Value.slice la ln lc) (Value.int IntKind.i64 x4)) (Value.pointer (some ad10)) ∧
 ∃ (a11 : Option Addr),
 ∃ (n12 : Nat),
 ∃ (n13 : Nat),
 Reads Proofs.Try.prog [] (Instr.loadAt 23 (Value.pointer (some (Addr.mk ad10.block (ad10.off + 3) none)))) w5 (Value.slice a11 n12 n13) ∧
 ∀ (w14 : World),
 Bel w5 w14 →
 J1 (IntKind.i64.wrap (IntKind.i64.wrap (x3 + (↑n8 : Int)) + (↑n12 : Int)), IntKind.i64.wrap (x4 + 1), ()) w14 ∧
 J2 (IntKind.i64.wrap (IntKind.i64.wrap (x3 + (↑n8 : Int)) + (↑n12 : Int)), IntKind.i64.wrap (x4 + 1), ()) w14 < J2 (x3, x4, ()) w5) ∧
 (decide (x4 < (↑ln : Int)) = false → (decide ((↑ln : Int) ≤ 80) = true → R (Ending.returned (Value.bool (decide (x3 ≤ 600)))) w5) ∧ (decide ((↑ln : Int) ≤ 80) = false → R (Ending.returned (Value.bool false)) w5))
theorem f38_eq (la : Option Addr) (ln : Nat) (lc : Nat) (w : World) (R : Ending → World → Prop) : (fnF Go.Proofs.Try.prog h38 Go.Proofs.Try.f38 [Value.slice la ln lc] w R).den = f38_vc la ln lc w R := by kernel_rfl
theorem f38_calls (la : Option Addr) (ln : Nat) (lc : Nat) (w : World) (R : Ending → World → Prop) (h : f38_vc la ln lc w R) : Calls Go.Proofs.Try.prog 38 (List.toArray [Value.slice la ln lc]) w R :=
 fn_sound (H := h38) (fn := Go.Proofs.Try.f38) (by kernel_rfl) (by kernel_rfl) (by kernel_rfl) ((f38_eq la ln lc w R).mpr h)


/-! manciple/agents.New -/
def h39 : Hints := ⟨[], [], [14, 7, 11], [], [], [], [], [], []⟩
def f39_vc (cap : Int) (most : Int) (w : World) (R : Ending → World → Prop) : Prop :=
 (decide (cap < 1) = true → R (Ending.returned (Value.pointer none)) w) ∧
 (decide (cap < 1) = false →
 (decide (most < 1) = true → R (Ending.returned (Value.pointer none)) w) ∧
 (decide (most < 1) = false →
 (decide (most > 9007199254740992) = true → R (Ending.returned (Value.pointer none)) w) ∧
 (decide (most > 9007199254740992) = false →
 OpW Proofs.Try.prog (valueS (Instr.makeMap 90 none)) w fun (v1 : Value) (w2 : World) =>
 ∃ (r3 : Option Nat),
 v1 = Value.map r3 ∧
 OpW Proofs.Try.prog
 (valueS
 (Instr.box 92
 (Value.agg
 #[Value.int IntKind.i64 cap, Value.int IntKind.i64 most, Value.map r3, Value.int IntKind.i64 0, Value.int IntKind.i64 0, Value.int IntKind.i64 0, Value.int IntKind.i64 0, Value.int IntKind.i64 0,
 Value.int IntKind.i64 0, Value.int IntKind.i64 0, Value.int IntKind.i64 0])))
 w2 fun (v4 : Value) (w5 : World) => ∃ (ad6 : Addr), v4 = Value.pointer (some ad6) ∧ R (Ending.returned (Value.pointer (some ad6))) w5)))
theorem f39_eq (cap : Int) (most : Int) (w : World) (R : Ending → World → Prop) : (fnF Go.Proofs.Try.prog h39 Go.Proofs.Try.f39 [Value.int IntKind.i64 cap, Value.int IntKind.i64 most] w R).den = f39_vc cap most w R := by kernel_rfl
theorem f39_calls (cap : Int) (most : Int) (w : World) (R : Ending → World → Prop) (h : f39_vc cap most w R) : Calls Go.Proofs.Try.prog 39 (List.toArray [Value.int IntKind.i64 cap, Value.int IntKind.i64 most]) w R :=
 fn_sound (H := h39) (fn := Go.Proofs.Try.f39) (by kernel_rfl) (by kernel_rfl) (by kernel_rfl) ((f39_eq cap most w R).mpr h)


/-! (*manciple/agents.Table).Sum -/
def h40 : Hints := ⟨[2], [8], [5], [], [], [], [], [], []⟩
def f40_vc (t : Option Addr) (w : World) (R : Ending → World → Prop) : Prop :=
 ∀ (n1 : Nat),
 w.heap.size ≤ n1 →
 ∀ (w2 : World),
 Bel w w2 →
 Under [n1] w2 →
 Calls Proofs.Try.prog 90 #[Value.pointer t] w2 fun (e3 : Ending) (w4 : World) =>
 ∃ (b5 : Bool),
 e3 = Ending.returned (Value.bool b5) ∧
 Keeps [n1] w2 w4 ∧
 ((!b5) = true → ∀ (w6 : World), Evo [n1] w4 w6 → Under [n1] w6 → R (Ending.returned (Value.agg #[Value.int IntKind.i64 0, Value.int IntKind.i64 0, Value.int IntKind.i64 0, Value.int IntKind.i64 0])) w6) ∧
 ((!b5) = false →
 ∃ (ad7 : Addr),
 t = some ad7 ∧
 ∃ (x8 : Int),
 ∃ (x9 : Int),
 ∃ (x10 : Int),
 ∃ (x11 : Int),
 Reads Proofs.Try.prog [] (Instr.loadAt 65 (Value.pointer (some (Addr.mk ad7.block (ad7.off + 3) none)))) w4
 (Value.agg #[Value.int IntKind.i64 x8, Value.int IntKind.i64 x9, Value.int IntKind.i64 x10, Value.int IntKind.i64 x11]) ∧
 ∀ (w12 : World), Evo [n1] w4 w12 → Under [n1] w12 → R (Ending.returned (Value.agg #[Value.int IntKind.i64 x8, Value.int IntKind.i64 x9, Value.int IntKind.i64 x10, Value.int IntKind.i64 x11])) w12)
theorem f40_eq (t : Option Addr) (w : World) (R : Ending → World → Prop) : (fnF Go.Proofs.Try.prog h40 Go.Proofs.Try.f40 [Value.pointer t] w R).den = f40_vc t w R := by kernel_rfl
theorem f40_calls (t : Option Addr) (w : World) (R : Ending → World → Prop) (h : f40_vc t w R) : Calls Go.Proofs.Try.prog 40 (List.toArray [Value.pointer t]) w R :=
 fn_sound (H := h40) (fn := Go.Proofs.Try.f40) (by kernel_rfl) (by kernel_rfl) (by kernel_rfl) ((f40_eq t w R).mpr h)


/-! (*manciple/agents.Table).All -/
def h41 : Hints := ⟨[], [9], [7], [], [], [(4, ⟨[(3, .sl)], []⟩)], [], [(13, .cons (.int .i64) (.cons (.ptr) (.nil))), (15, .cons (.int .i64) (.cons (.ptr) (.nil)))], []⟩
def f41_vc (t : Option Addr) (w : World) (R : Ending → World → Prop) : Prop :=
 Calls Proofs.Try.prog 90 #[Value.pointer t] w fun (e1 : Ending) (w2 : World) =>
 ∃ (b3 : Bool),
 e1 = Ending.returned (Value.bool b3) ∧
 (b3 = true →
 ∃ (ad4 : Addr),
 t = some ad4 ∧
 ∃ (r5 : Option Nat),
 Reads Proofs.Try.prog [] (Instr.loadAt 90 (Value.pointer (some (Addr.mk ad4.block (ad4.off + 2) none)))) w2 (Value.map r5) ∧
 OpW Proofs.Try.prog (valueS (Instr.range 90 (Value.map r5))) w2 fun (v6 : Value) (w7 : World) =>
 ∃ (ad8 : Addr),
 v6 = Value.pointer (some ad8) ∧
 ∃ (J9 : (Option Addr × Nat × Nat) × Unit → World → Prop),
 ∃ (J10 : (Option Addr × Nat × Nat) × Unit → World → Nat),
 J9 ((none, 0, 0), ()) w7 ∧
 ∀ (a11 : Option Addr) (n12 n13 : Nat) (w14 : World),
 J9 ((a11, n12, n13), ()) w14 →
 OpW Proofs.Try.prog (valueS (Instr.next (Value.pointer (some ad8)) false 0)) w14 fun (v15 : Value) (w16 : World) =>
 (v15 = Value.tuple #[Value.bool false] ∨
 ∃ (x :
 (nextShape (Hints.mk [] [9] [7] [] [] [(4, LH.mk [(3, Sh.sl)] [])] [] [(13, (Sh.int IntKind.i64).cons (Sh.ptr.cons Sh.nil)), (15, (Sh.int IntKind.i64).cons (Sh.ptr.cons Sh.nil))] [])
 #[Oper.mk (some 13) (Op.next (Operand.tmp 12) false) 0 "agents.go:151" #[] none, Oper.mk (some 14) (Op.extract (Operand.tmp 13) 0) 4 "agents.go:151" #[Edge.mk 0 Ground.data] none][0]).T),
 v15 = Value.tuple #[Value.bool true, Value.int IntKind.i64 x.fst, Value.pointer x.snd.fst]) ∧
 (v15 = Value.tuple #[Value.bool false] →
 Calls Proofs.Try.prog 92 #[Value.slice a11 n12 n13, Value.func (Fn.func 93) #[] #[]] w16 fun (e17 : Ending) (w18 : World) =>
 e17 = Ending.returned (Value.tuple #[]) ∧ R (Ending.returned (Value.slice a11 n12 n13)) w18) ∧
 ∀ (x19 : Int) (a20 : Option Addr),
 v15 = Value.tuple #[Value.bool true, Value.int IntKind.i64 x19, Value.pointer a20] →
 OpW Proofs.Try.prog ((Instr.entry (Value.pointer (some ad8))).bind fun (__do_lift : Value) => pure (Next.value __do_lift)) w16 fun (v21 : Value) (w22 : World) =>
 ∃ (x23 : Int),
 ∃ (a24 : Option Addr),
 v21 = Value.tuple #[Value.int IntKind.i64 x23, Value.pointer a24] ∧
 Calls Proofs.Try.prog 91 #[Value.pointer a24] w22 fun (e25 : Ending) (w26 : World) =>
 ∃ (x27 : Int),
 ∃ (a28 : Option Addr),
 ∃ (n29 : Nat),
 ∃ (n30 : Nat),
 ∃ (a31 : Option Addr),
 ∃ (n32 : Nat),
 ∃ (n33 : Nat),
 e25 = Ending.returned (Value.agg #[Value.int IntKind.i64 x27, Value.slice a28 n29 n30, Value.slice a31 n32 n33]) ∧
 OpW Proofs.Try.prog (valueS (Instr.buildSlice 81 1 #[(0, Value.agg #[Value.int IntKind.i64 x27, Value.slice a28 n29 n30, Value.slice a31 n32 n33])])) w26
 fun (v34 : Value) (w35 : World) =>
 ∃ (a36 : Option Addr),
 ∃ (n37 : Nat),
 ∃ (n38 : Nat),
 v34 = Value.slice a36 n37 n38 ∧
 OpW Proofs.Try.prog (builtin Builtin.append #[81, 81] 81 #[false, false] #[Value.slice a11 n12 n13, Value.slice a36 n37 n38]) w35
 fun (v39 : Value) (w40 : World) =>
 ∃ (a41 : Option Addr),
 ∃ (n42 : Nat),
 ∃ (n43 : Nat), v39 = Value.slice a41 n42 n43 ∧ J9 ((a41, n42, n43), ()) w40 ∧ J10 ((a41, n42, n43), ()) w40 < J10 ((a11, n12, n13), ()) w14) ∧
 (b3 = false → Calls Proofs.Try.prog 92 #[Value.slice none 0 0, Value.func (Fn.func 93) #[] #[]] w2 fun (e44 : Ending) (w45 : World) => e44 = Ending.returned (Value.tuple #[]) ∧ R (Ending.returned (Value.slice none 0 0)) w45)
theorem f41_eq (t : Option Addr) (w : World) (R : Ending → World → Prop) : (fnF Go.Proofs.Try.prog h41 Go.Proofs.Try.f41 [Value.pointer t] w R).den = f41_vc t w R := by kernel_rfl
theorem f41_calls (t : Option Addr) (w : World) (R : Ending → World → Prop) (h : f41_vc t w R) : Calls Go.Proofs.Try.prog 41 (List.toArray [Value.pointer t]) w R :=
 fn_sound (H := h41) (fn := Go.Proofs.Try.f41) (by kernel_rfl) (by kernel_rfl) (by kernel_rfl) ((f41_eq t w R).mpr h)


/-! manciple/manciplelaw22.Do -/
def h42 : Hints := ⟨[3], [], [10, 23, 29, 37], [], [], [], [], [], []⟩
def f42_vc (t : Option Addr) (a_0 : Int) (a_1 : Int) (a_2a : Option Addr) (a_2n : Nat) (a_2c : Nat) (a_3a : Option Addr) (a_3n : Nat) (a_3c : Nat) (w : World) (R : Ending → World → Prop) : Prop :=
 ∀ (n1 : Nat),
 w.heap.size ≤ n1 →
 ((a_0 == 0) = true →
 ∀ (w2 : World),
 Bel w w2 →
 Under [n1] w2 →
 Calls Proofs.Try.prog 44 #[Value.pointer t, Value.int IntKind.i64 a_1, Value.slice a_2a a_2n a_2c] w2 fun (e3 : Ending) (w4 : World) =>
 ∃ (b5 : Bool), ∃ (x6 : Int), e3 = Ending.returned (Value.tuple #[Value.bool b5, Value.int IntKind.i64 x6]) ∧ Keeps [n1] w2 w4 ∧ R (Ending.returned (Value.tuple #[Value.bool b5, Value.int IntKind.i64 x6])) w4) ∧
 ((a_0 == 0) = false →
 ((a_0 == 1) = true →
 ∀ (w7 : World),
 Bel w w7 →
 Under [n1] w7 →
 Calls Proofs.Try.prog 46 #[Value.pointer t, Value.int IntKind.i64 a_1] w7 fun (e8 : Ending) (w9 : World) =>
 ∃ (b10 : Bool), e8 = Ending.returned (Value.bool b10) ∧ Keeps [n1] w7 w9 ∧ R (Ending.returned (Value.tuple #[Value.bool b10, Value.int IntKind.i64 0])) w9) ∧
 ((a_0 == 1) = false →
 ((a_0 == 2) = true →
 ∀ (w11 : World),
 Bel w w11 →
 Under [n1] w11 →
 Calls Proofs.Try.prog 45 #[Value.pointer t, Value.int IntKind.i64 a_1, Value.slice a_2a a_2n a_2c] w11 fun (e12 : Ending) (w13 : World) =>
 ∃ (x14 : Int), e12 = Ending.returned (Value.int IntKind.i64 x14) ∧ Keeps [n1] w11 w13 ∧ R (Ending.returned (Value.tuple #[Value.bool false, Value.int IntKind.i64 x14])) w13) ∧
 ((a_0 == 2) = false →
 ((a_0 == 3) = true →
 ∀ (w15 : World),
 Bel w w15 →
 Under [n1] w15 →
 Calls Proofs.Try.prog 51 #[Value.pointer t, Value.int IntKind.i64 a_1, Value.slice a_2a a_2n a_2c] w15 fun (e16 : Ending) (w17 : World) =>
 ∃ (x18 : Int), e16 = Ending.returned (Value.int IntKind.i64 x18) ∧ Keeps [n1] w15 w17 ∧ R (Ending.returned (Value.tuple #[Value.bool false, Value.int IntKind.i64 x18])) w17) ∧
 ((a_0 == 3) = false →
 ∀ (w19 : World),
 Bel w w19 →
 Under [n1] w19 →
 Calls Proofs.Try.prog 95 #[Value.pointer t, Value.int IntKind.i64 a_1, Value.slice a_2a a_2n a_2c, Value.slice a_3a a_3n a_3c] w19 fun (e20 : Ending) (w21 : World) =>
 ∃ (x22 : Int), e20 = Ending.returned (Value.int IntKind.i64 x22) ∧ Keeps [n1] w19 w21 ∧ R (Ending.returned (Value.tuple #[Value.bool false, Value.int IntKind.i64 x22])) w21))))
theorem f42_eq (t : Option Addr) (a_0 : Int) (a_1 : Int) (a_2a : Option Addr) (a_2n : Nat) (a_2c : Nat) (a_3a : Option Addr) (a_3n : Nat) (a_3c : Nat) (w : World) (R : Ending → World → Prop) : (fnF Go.Proofs.Try.prog h42 Go.Proofs.Try.f42 [Value.pointer t, Value.agg #[Value.int IntKind.i64 a_0, Value.int IntKind.i64 a_1, Value.slice a_2a a_2n a_2c, Value.slice a_3a a_3n a_3c]] w R).den = f42_vc t a_0 a_1 a_2a a_2n a_2c a_3a a_3n a_3c w R := by kernel_rfl
theorem f42_calls (t : Option Addr) (a_0 : Int) (a_1 : Int) (a_2a : Option Addr) (a_2n : Nat) (a_2c : Nat) (a_3a : Option Addr) (a_3n : Nat) (a_3c : Nat) (w : World) (R : Ending → World → Prop) (h : f42_vc t a_0 a_1 a_2a a_2n a_2c a_3a a_3n a_3c w R) : Calls Go.Proofs.Try.prog 42 (List.toArray [Value.pointer t, Value.agg #[Value.int IntKind.i64 a_0, Value.int IntKind.i64 a_1, Value.slice a_2a a_2n a_2c, Value.slice a_3a a_3n a_3c]]) w R :=
 fn_sound (H := h42) (fn := Go.Proofs.Try.f42) (by kernel_rfl) (by kernel_rfl) (by kernel_rfl) ((f42_eq t a_0 a_1 a_2a a_2n a_2c a_3a a_3n a_3c w R).mpr h)


/-! (*manciple/agents.Table).Register -/
def h44 : Hints := ⟨[], [40, 52, 63, 66, 72, 77, 82, 95, 100, 108], [18, 22, 35, 47, 70, 80, 25, 30, 38, 62], [(11, [0, 1, 2, 3, 5, 6, 7, 8, 4, 9, 10]), (13, [0, 1, 2, 3, 4, 5, 6, 7, 8, 9]), (15, [0, 1, 2, 3, 4, 5, 6, 8, 7, 9, 10, 11, 12]), (17, [0, 1, 2, 3, 4, 5, 6, 7, 8, 9, 10, 11, 12, 13])], [], [], [(10, ⟨[], []⟩), (11, ⟨[(10, .addr), (11, .bool)], []⟩), (13, ⟨[], []⟩)], [], [(10, (.op 0 (.op 1 (.op 2 (.op 3 (.op 4 (.alt (.op 5 (.alt (.op 6 (.op 7 (.op 8 (.op 9 (.op 10 (.op 11 (.op 12 .nil))))))) (.op 10 (.op 6 (.op 7 (.op 8 (.op 9 (.op 11 (.op 12 .nil))))))))) (.op 10 (.op 5 (.op 6 (.op 7 (.op 8 (.op 9 (.op 11 (.op 12 .nil)))))))))))))))]⟩
def f44_vc (t : Option Addr) (id : Int) (va : Option Addr) (vn : Nat) (vc : Nat) (w : World) (R : Ending → World → Prop) : Prop :=
 Calls Proofs.Try.prog 97 #[Value.pointer t, Value.int IntKind.i64 id] w fun (e1 : Ending) (w2 : World) =>
 ∃ (a3 : Option Addr),
 ∃ (x4 : Int),
 e1 = Ending.returned (Value.tuple #[Value.pointer a3, Value.int IntKind.i64 x4]) ∧
 ∃ (J5 : Unit → World → Prop),
 (((x4 == 40) = true → R (Ending.returned (Value.tuple #[Value.bool false, Value.int IntKind.i64 x4])) w2) ∧
 ((x4 == 40) = false →
 (decide (id < 1) = true → R (Ending.returned (Value.tuple #[Value.bool false, Value.int IntKind.i64 41])) w2) ∧
 (decide (id < 1) = false →
 (((↑vn : Int) == 0) = true → R (Ending.returned (Value.tuple #[Value.bool false, Value.int IntKind.i64 41])) w2) ∧
 (((↑vn : Int) == 0) = false →
 Calls Proofs.Try.prog 17 #[Value.slice va vn vc] w2 fun (e6 : Ending) (w7 : World) =>
 ∃ (b8 : Bool),
 e6 = Ending.returned (Value.bool b8) ∧
 ((!b8) = true → R (Ending.returned (Value.tuple #[Value.bool false, Value.int IntKind.i64 41])) w7) ∧
 ((!b8) = false →
 ((x4 == 0) = true →
 ∃ (ad9 : Addr),
 a3 = some ad9 ∧
 ∃ (a10 : Option Addr),
 ∃ (n11 : Nat),
 ∃ (n12 : Nat),
 Reads Proofs.Try.prog [] (Instr.loadAt 23 (Value.pointer (some (Addr.mk ad9.block (ad9.off + 1) none)))) w7 (Value.slice a10 n11 n12) ∧
 Calls Proofs.Try.prog 58 #[Value.slice a10 n11 n12, Value.slice va vn vc] w7 fun (e13 : Ending) (w14 : World) =>
 ∃ (b15 : Bool),
 e13 = Ending.returned (Value.bool b15) ∧
 ((!b15) = true → R (Ending.returned (Value.tuple #[Value.bool false, Value.int IntKind.i64 20])) w14) ∧
 ((!b15) = false → ((x4 == 0) = true → R (Ending.returned (Value.tuple #[Value.bool false, Value.int IntKind.i64 0])) w14) ∧ ((x4 == 0) = false → J5 () w14))) ∧
 ((x4 == 0) = false → ((x4 == 0) = true → R (Ending.returned (Value.tuple #[Value.bool false, Value.int IntKind.i64 0])) w7) ∧ ((x4 == 0) = false → J5 () w7))))))) ∧
 ∀ (w16 : World),
 J5 () w16 →
 ∃ (J17 : Addr × Bool × Unit → World → Prop),
 (∃ (ad18 : Addr),
 t = some ad18 ∧
 ∃ (x19 : Int),
 ∃ (x20 : Int),
 ∃ (x21 : Int),
 ∃ (x22 : Int),
 Reads Proofs.Try.prog [] (Instr.loadAt 65 (Value.pointer (some (Addr.mk ad18.block (ad18.off + 3) none)))) w16
 (Value.agg #[Value.int IntKind.i64 x19, Value.int IntKind.i64 x20, Value.int IntKind.i64 x21, Value.int IntKind.i64 x22]) ∧
 (∀ (w23 : World),
 Bel w16 w23 →
 Calls Proofs.Try.prog 50 #[Value.slice va vn vc] w23 fun (e24 : Ending) (w25 : World) =>
 ∃ (x26 : Int),
 ∃ (x27 : Int),
 ∃ (x28 : Int),
 ∃ (x29 : Int),
 e24 = Ending.returned (Value.agg #[Value.int IntKind.i64 x26, Value.int IntKind.i64 x27, Value.int IntKind.i64 x28, Value.int IntKind.i64 x29]) ∧
 Reads Proofs.Try.prog [] (Instr.loadAt 65 (Value.pointer (some (Addr.mk ad18.block (ad18.off + 3) none)))) w25
 (Value.agg #[Value.int IntKind.i64 x19, Value.int IntKind.i64 x20, Value.int IntKind.i64 x21, Value.int IntKind.i64 x22]) ∧
 (Calls Proofs.Try.prog 49
 #[Value.agg #[Value.int IntKind.i64 x19, Value.int IntKind.i64 x20, Value.int IntKind.i64 x21, Value.int IntKind.i64 x22],
 Value.agg #[Value.int IntKind.i64 x26, Value.int IntKind.i64 x27, Value.int IntKind.i64 x28, Value.int IntKind.i64 x29]]
 w25 fun (e30 : Ending) (w31 : World) =>
 ∃ (x32 : Int),
 ∃ (x33 : Int),
 ∃ (x34 : Int),
 ∃ (x35 : Int),
 ∃ (b36 : Bool),
 e30 =
 Ending.returned
 (Value.tuple #[Value.agg #[Value.int IntKind.i64 x32, Value.int IntKind.i64 x33, Value.int IntKind.i64 x34, Value.int IntKind.i64 x35], Value.bool b36]) ∧
 OpW Proofs.Try.prog (valueS (Instr.alloc 65 true (Value.tuple #[]))) w31 fun (v37 : Value) (w38 : World) =>
 ∃ (ad39 : Addr),
 v37 = Value.pointer (some ad39) ∧
 OpW Proofs.Try.prog
 (skipS
 (Instr.storeAt 65 (Value.pointer (some ad39))
 (Value.agg #[Value.int IntKind.i64 x32, Value.int IntKind.i64 x33, Value.int IntKind.i64 x34, Value.int IntKind.i64 x35])))
 w38 fun (v40 : Value) (w41 : World) => J17 (ad39, b36, ()) w41) ∧
 OpW Proofs.Try.prog (valueS (Instr.alloc 65 true (Value.tuple #[]))) w25 fun (v42 : Value) (w43 : World) =>
 ∃ (ad44 : Addr),
 v42 = Value.pointer (some ad44) ∧
 Reads Proofs.Try.prog [] (Instr.loadAt 65 (Value.pointer (some (Addr.mk ad18.block (ad18.off + 3) none)))) w43
 (Value.agg #[Value.int IntKind.i64 x19, Value.int IntKind.i64 x20, Value.int IntKind.i64 x21, Value.int IntKind.i64 x22]) ∧
 Calls Proofs.Try.prog 49
 #[Value.agg #[Value.int IntKind.i64 x19, Value.int IntKind.i64 x20, Value.int IntKind.i64 x21, Value.int IntKind.i64 x22],
 Value.agg #[Value.int IntKind.i64 x26, Value.int IntKind.i64 x27, Value.int IntKind.i64 x28, Value.int IntKind.i64 x29]]
 w43 fun (e45 : Ending) (w46 : World) =>
 ∃ (x47 : Int),
 ∃ (x48 : Int),
 ∃ (x49 : Int),
 ∃ (x50 : Int),
 ∃ (b51 : Bool),
 e45 =
 Ending.returned
 (Value.tuple #[Value.agg #[Value.int IntKind.i64 x47, Value.int IntKind.i64 x48, Value.int IntKind.i64 x49, Value.int IntKind.i64 x50], Value.bool b51]) ∧
 OpW Proofs.Try.prog
 (skipS
 (Instr.storeAt 65 (Value.pointer (some ad44))
 (Value.agg #[Value.int IntKind.i64 x47, Value.int IntKind.i64 x48, Value.int IntKind.i64 x49, Value.int IntKind.i64 x50])))
 w46 fun (v52 : Value) (w53 : World) => J17 (ad44, b51, ()) w53) ∧
 ∀ (w54 : World),
 Bel w16 w54 →
 OpW Proofs.Try.prog (valueS (Instr.alloc 65 true (Value.tuple #[]))) w54 fun (v55 : Value) (w56 : World) =>
 ∃ (ad57 : Addr),
 v55 = Value.pointer (some ad57) ∧
 Reads Proofs.Try.prog [] (Instr.loadAt 65 (Value.pointer (some (Addr.mk ad18.block (ad18.off + 3) none)))) w56
 (Value.agg #[Value.int IntKind.i64 x19, Value.int IntKind.i64 x20, Value.int IntKind.i64 x21, Value.int IntKind.i64 x22]) ∧
 Calls Proofs.Try.prog 50 #[Value.slice va vn vc] w56 fun (e58 : Ending) (w59 : World) =>
 ∃ (x60 : Int),
 ∃ (x61 : Int),
 ∃ (x62 : Int),
 ∃ (x63 : Int),
 e58 = Ending.returned (Value.agg #[Value.int IntKind.i64 x60, Value.int IntKind.i64 x61, Value.int IntKind.i64 x62, Value.int IntKind.i64 x63]) ∧
 Reads Proofs.Try.prog [] (Instr.loadAt 65 (Value.pointer (some (Addr.mk ad18.block (ad18.off + 3) none)))) w59
 (Value.agg #[Value.int IntKind.i64 x19, Value.int IntKind.i64 x20, Value.int IntKind.i64 x21, Value.int IntKind.i64 x22]) ∧
 Calls Proofs.Try.prog 49
 #[Value.agg #[Value.int IntKind.i64 x19, Value.int IntKind.i64 x20, Value.int IntKind.i64 x21, Value.int IntKind.i64 x22],
 Value.agg #[Value.int IntKind.i64 x60, Value.int IntKind.i64 x61, Value.int IntKind.i64 x62, Value.int IntKind.i64 x63]]
 w59 fun (e64 : Ending) (w65 : World) =>
 ∃ (x66 : Int),
 ∃ (x67 : Int),
 ∃ (x68 : Int),
 ∃ (x69 : Int),
 ∃ (b70 : Bool),
 e64 =
 Ending.returned
 (Value.tuple #[Value.agg #[Value.int IntKind.i64 x66, Value.int IntKind.i64 x67, Value.int IntKind.i64 x68, Value.int IntKind.i64 x69], Value.bool b70]) ∧
 OpW Proofs.Try.prog
 (skipS
 (Instr.storeAt 65 (Value.pointer (some ad57))
 (Value.agg #[Value.int IntKind.i64 x66, Value.int IntKind.i64 x67, Value.int IntKind.i64 x68, Value.int IntKind.i64 x69])))
 w65 fun (v71 : Value) (w72 : World) => J17 (ad57, b70, ()) w72) ∧
 ∀ (ad73 : Addr) (b74 : Bool) (w75 : World),
 J17 (ad73, b74, ()) w75 →
 ∃ (J76 : Unit → World → Prop),
 (((!b74) = true → ∀ (w77 : World), Bel w75 w77 → R (Ending.returned (Value.tuple #[Value.bool false, Value.int IntKind.i64 31])) w77) ∧
 ((!b74) = false →
 ∃ (a78 : Option Addr),
 ∃ (n79 : Nat),
 ∃ (n80 : Nat),
 Gives Proofs.Try.prog (Instr.sliceAt 65 (Value.pointer (some ad73)) none none none) (Value.slice a78 n79 n80) ∧
 ∃ (ad81 : Addr),
 t = some ad81 ∧
 ∃ (x82 : Int),
 Reads Proofs.Try.prog [] (Instr.loadAt 2 (Value.pointer (some (Addr.mk ad81.block (ad81.off + 1) none)))) w75 (Value.int IntKind.i64 x82) ∧
 ∀ (w83 : World),
 Bel w75 w83 →
 Calls Proofs.Try.prog 98 #[Value.slice a78 n79 n80] w83 fun (e84 : Ending) (w85 : World) =>
 ∃ (x86 : Int),
 e84 = Ending.returned (Value.int IntKind.i64 x86) ∧
 Reads Proofs.Try.prog [] (Instr.loadAt 2 (Value.pointer (some (Addr.mk ad81.block (ad81.off + 1) none)))) w85 (Value.int IntKind.i64 x82) ∧
 (decide (x86 > x82) = true → R (Ending.returned (Value.tuple #[Value.bool false, Value.int IntKind.i64 31])) w85) ∧ (decide (x86 > x82) = false → J76 () w85))) ∧
 ∀ (w87 : World),
 J76 () w87 →
 ∃ (ad88 : Addr),
 t = some ad88 ∧
 ∃ (r89 : Option Nat),
 Reads Proofs.Try.prog [] (Instr.loadAt 90 (Value.pointer (some (Addr.mk ad88.block (ad88.off + 2) none)))) w87 (Value.map r89) ∧
 ∃ (x90 : Int),
 Reads Proofs.Try.prog [] (Builtin.len_ #[90] 3 #[Value.map r89]) w87 (Value.int IntKind.i64 x90) ∧
 ∃ (ad91 : Addr),
 t = some ad91 ∧
 ∃ (x92 : Int),
 Reads Proofs.Try.prog [] (Instr.loadAt 3 (Value.pointer (some ad91))) w87 (Value.int IntKind.i64 x92) ∧
 (decide (x90 ≥ x92) = true → ∀ (w93 : World), Bel w87 w93 → R (Ending.returned (Value.tuple #[Value.bool false, Value.int IntKind.i64 32])) w93) ∧
 (decide (x90 ≥ x92) = false →
 ∃ (ad94 : Addr),
 t = some ad94 ∧
 ∃ (r95 : Option Nat),
 Reads Proofs.Try.prog [] (Instr.loadAt 90 (Value.pointer (some (Addr.mk ad94.block (ad94.off + 2) none)))) w87 (Value.map r95) ∧
 ∀ (w96 : World),
 Bel w87 w96 →
 Calls Proofs.Try.prog 79 #[Value.slice va vn vc] w96 fun (e97 : Ending) (w98 : World) =>
 ∃ (a99 : Option Addr),
 ∃ (n100 : Nat),
 ∃ (n101 : Nat),
 e97 = Ending.returned (Value.slice a99 n100 n101) ∧
 Reads Proofs.Try.prog [] (Instr.loadAt 90 (Value.pointer (some (Addr.mk ad94.block (ad94.off + 2) none)))) w98 (Value.map r95) ∧
 Calls Proofs.Try.prog 79 #[Value.slice va vn vc] w98 fun (e102 : Ending) (w103 : World) =>
 ∃ (a104 : Option Addr),
 ∃ (n105 : Nat),
 ∃ (n106 : Nat),
 e102 = Ending.returned (Value.slice a104 n105 n106) ∧
 Reads Proofs.Try.prog [] (Instr.loadAt 90 (Value.pointer (some (Addr.mk ad94.block (ad94.off + 2) none)))) w103 (Value.map r95) ∧
 OpW Proofs.Try.prog (valueS (Instr.box 89 (Value.agg #[Value.int IntKind.i64 id, Value.slice a99 n100 n101, Value.slice a104 n105 n106]))) w103
 fun (v107 : Value) (w108 : World) =>
 ∃ (ad109 : Addr),
 v107 = Value.pointer (some ad109) ∧
 Reads Proofs.Try.prog [] (Instr.loadAt 90 (Value.pointer (some (Addr.mk ad94.block (ad94.off + 2) none)))) w108 (Value.map r95) ∧
 OpW Proofs.Try.prog (skipS (Instr.mapUpdate 90 (Value.map r95) (Value.int IntKind.i64 id) (Value.pointer (some ad109)))) w108
 fun (v110 : Value) (w111 : World) =>
 ∃ (x112 : Int),
 ∃ (x113 : Int),
 ∃ (x114 : Int),
 ∃ (x115 : Int),
 Reads Proofs.Try.prog [] (Instr.loadAt 65 (Value.pointer (some ad73))) w111
 (Value.agg
 #[Value.int IntKind.i64 x112, Value.int IntKind.i64 x113, Value.int IntKind.i64 x114, Value.int IntKind.i64 x115]) ∧
 ∃ (ad116 : Addr),
 t = some ad116 ∧
 OpW Proofs.Try.prog
 (skipS
 (Instr.storeAt 65 (Value.pointer (some (Addr.mk ad116.block (ad116.off + 3) none)))
 (Value.agg
 #[Value.int IntKind.i64 x112, Value.int IntKind.i64 x113, Value.int IntKind.i64 x114, Value.int IntKind.i64 x115])))
 w111 fun (v117 : Value) (w118 : World) =>
 ∃ (ad119 : Addr),
 t = some ad119 ∧
 ∃ (x120 : Int),
 ∃ (x121 : Int),
 ∃ (x122 : Int),
 ∃ (x123 : Int),
 Reads Proofs.Try.prog [] (Instr.loadAt 65 (Value.pointer (some (Addr.mk ad119.block (ad119.off + 7) none))))
 w118
 (Value.agg
 #[Value.int IntKind.i64 x120, Value.int IntKind.i64 x121, Value.int IntKind.i64 x122,
 Value.int IntKind.i64 x123]) ∧
 ∀ (w124 : World),
 Bel w118 w124 →
 Calls Proofs.Try.prog 50 #[Value.slice va vn vc] w124 fun (e125 : Ending) (w126 : World) =>
 ∃ (x127 : Int),
 ∃ (x128 : Int),
 ∃ (x129 : Int),
 ∃ (x130 : Int),
 e125 =
 Ending.returned
 (Value.agg
 #[Value.int IntKind.i64 x127, Value.int IntKind.i64 x128, Value.int IntKind.i64 x129,
 Value.int IntKind.i64 x130]) ∧
 Reads Proofs.Try.prog []
 (Instr.loadAt 65 (Value.pointer (some (Addr.mk ad119.block (ad119.off + 7) none)))) w126
 (Value.agg
 #[Value.int IntKind.i64 x120, Value.int IntKind.i64 x121, Value.int IntKind.i64 x122,
 Value.int IntKind.i64 x123]) ∧
 Calls Proofs.Try.prog 49
 #[Value.agg
 #[Value.int IntKind.i64 x120, Value.int IntKind.i64 x121,
 Value.int IntKind.i64 x122, Value.int IntKind.i64 x123],
 Value.agg
 #[Value.int IntKind.i64 x127, Value.int IntKind.i64 x128,
 Value.int IntKind.i64 x129, Value.int IntKind.i64 x130]]
 w126 fun (e131 : Ending) (w132 : World) =>
 ∃ (x133 : Int),
 ∃ (x134 : Int),
 ∃ (x135 : Int),
 ∃ (x136 : Int),
 ∃ (b137 : Bool),
 e131 =
 Ending.returned
 (Value.tuple
 #[Value.agg
 #[Value.int IntKind.i64 x133, Value.int IntKind.i64 x134,
 Value.int IntKind.i64 x135, Value.int IntKind.i64 x136],
 Value.bool b137]) ∧
 ∃ (ad138 : Addr),
 t = some ad138 ∧
 OpW Proofs.Try.prog
 (skipS
 (Instr.storeAt 65
 (Value.pointer (some (Addr.mk ad138.block (ad138.off + 7) none)))
 (Value.agg
 #[Value.int IntKind.i64 x133, Value.int IntKind.i64 x134,
 Value.int IntKind.i64 x135, Value.int IntKind.i64 x136])))
 w132 fun (v139 : Value) (w140 : World) =>
 R
 (Ending.returned
 (Value.tuple #[Value.bool true, Value.int IntKind.i64 0]))
 w140)
theorem f44_eq (t : Option Addr) (id : Int) (va : Option Addr) (vn : Nat) (vc : Nat) (w : World) (R : Ending → World → Prop) : (fnF Go.Proofs.Try.prog h44 Go.Proofs.Try.f44 [Value.pointer t, Value.int IntKind.i64 id, Value.slice va vn vc] w R).den = f44_vc t id va vn vc w R := by kernel_rfl
theorem f44_calls (t : Option Addr) (id : Int) (va : Option Addr) (vn : Nat) (vc : Nat) (w : World) (R : Ending → World → Prop) (h : f44_vc t id va vn vc w R) : Calls Go.Proofs.Try.prog 44 (List.toArray [Value.pointer t, Value.int IntKind.i64 id, Value.slice va vn vc]) w R :=
 fn_sound (H := h44) (fn := Go.Proofs.Try.f44) (by kernel_rfl) (by kernel_rfl) (by kernel_rfl) ((f44_eq t id va vn vc w R).mpr h)


/-! (*manciple/agents.Table).Take -/
def h45 : Hints := ⟨[], [22], [18, 30], [], [], [], [], [], []⟩
def f45_vc (t : Option Addr) (id : Int) (va : Option Addr) (vn : Nat) (vc : Nat) (w : World) (R : Ending → World → Prop) : Prop :=
 Calls Proofs.Try.prog 97 #[Value.pointer t, Value.int IntKind.i64 id] w fun (e1 : Ending) (w2 : World) =>
 ∃ (a3 : Option Addr),
 ∃ (x4 : Int),
 e1 = Ending.returned (Value.tuple #[Value.pointer a3, Value.int IntKind.i64 x4]) ∧
 ((x4 != 0) = true → R (Ending.returned (Value.int IntKind.i64 x4)) w2) ∧
 ((x4 != 0) = false →
 ∃ (ad5 : Addr),
 a3 = some ad5 ∧
 ∃ (a6 : Option Addr),
 ∃ (n7 : Nat),
 ∃ (n8 : Nat),
 Reads Proofs.Try.prog [] (Instr.loadAt 23 (Value.pointer (some (Addr.mk ad5.block (ad5.off + 2) none)))) w2 (Value.slice a6 n7 n8) ∧
 Calls Proofs.Try.prog 96 #[Value.slice a6 n7 n8, Value.slice va vn vc] w2 fun (e9 : Ending) (w10 : World) =>
 ∃ (a11 : Option Addr),
 ∃ (n12 : Nat),
 ∃ (n13 : Nat),
 ∃ (b14 : Bool),
 e9 = Ending.returned (Value.tuple #[Value.slice a11 n12 n13, Value.bool b14]) ∧
 ((!b14) = true → R (Ending.returned (Value.int IntKind.i64 30)) w10) ∧
 ((!b14) = false →
 Calls Proofs.Try.prog 99 #[Value.pointer t, Value.pointer a3, Value.slice a11 n12 n13] w10 fun (e15 : Ending) (w16 : World) =>
 e15 = Ending.returned (Value.tuple #[]) ∧ R (Ending.returned (Value.int IntKind.i64 0)) w16))
theorem f45_eq (t : Option Addr) (id : Int) (va : Option Addr) (vn : Nat) (vc : Nat) (w : World) (R : Ending → World → Prop) : (fnF Go.Proofs.Try.prog h45 Go.Proofs.Try.f45 [Value.pointer t, Value.int IntKind.i64 id, Value.slice va vn vc] w R).den = f45_vc t id va vn vc w R := by kernel_rfl
theorem f45_calls (t : Option Addr) (id : Int) (va : Option Addr) (vn : Nat) (vc : Nat) (w : World) (R : Ending → World → Prop) (h : f45_vc t id va vn vc w R) : Calls Go.Proofs.Try.prog 45 (List.toArray [Value.pointer t, Value.int IntKind.i64 id, Value.slice va vn vc]) w R :=
 fn_sound (H := h45) (fn := Go.Proofs.Try.f45) (by kernel_rfl) (by kernel_rfl) (by kernel_rfl) ((f45_eq t id va vn vc w R).mpr h)


/-! (*manciple/agents.Table).Lose -/
def h46 : Hints := ⟨[], [18, 22, 29, 34, 38, 45, 48], [14], [(4, [0, 1, 2, 3, 4, 5, 6, 7, 8, 9, 10, 11, 12, 13, 14, 15, 16]), (5, [0, 1, 2, 3, 4, 5, 6, 7, 8, 9, 10, 11, 12, 13, 14, 15, 16])], [], [], [], [], []⟩
def f46_vc (t : Option Addr) (id : Int) (w : World) (R : Ending → World → Prop) : Prop :=
 Calls Proofs.Try.prog 97 #[Value.pointer t, Value.int IntKind.i64 id] w fun (e1 : Ending) (w2 : World) =>
 ∃ (a3 : Option Addr),
 ∃ (x4 : Int),
 e1 = Ending.returned (Value.tuple #[Value.pointer a3, Value.int IntKind.i64 x4]) ∧
 ((x4 != 0) = true → R (Ending.returned (Value.bool false)) w2) ∧
 ((x4 != 0) = false →
 ∃ (ad5 : Addr),
 t = some ad5 ∧
 ∃ (x6 : Int),
 ∃ (x7 : Int),
 ∃ (x8 : Int),
 ∃ (x9 : Int),
 Reads Proofs.Try.prog [] (Instr.loadAt 65 (Value.pointer (some (Addr.mk ad5.block (ad5.off + 3) none)))) w2
 (Value.agg #[Value.int IntKind.i64 x6, Value.int IntKind.i64 x7, Value.int IntKind.i64 x8, Value.int IntKind.i64 x9]) ∧
 ∃ (ad10 : Addr),
 a3 = some ad10 ∧
 ∃ (a11 : Option Addr),
 ∃ (n12 : Nat),
 ∃ (n13 : Nat),
 Reads Proofs.Try.prog [] (Instr.loadAt 23 (Value.pointer (some (Addr.mk ad10.block (ad10.off + 1) none)))) w2 (Value.slice a11 n12 n13) ∧
 ∀ (w14 : World),
 Bel w2 w14 →
 Calls Proofs.Try.prog 50 #[Value.slice a11 n12 n13] w14 fun (e15 : Ending) (w16 : World) =>
 ∃ (x17 : Int),
 ∃ (x18 : Int),
 ∃ (x19 : Int),
 ∃ (x20 : Int),
 e15 = Ending.returned (Value.agg #[Value.int IntKind.i64 x17, Value.int IntKind.i64 x18, Value.int IntKind.i64 x19, Value.int IntKind.i64 x20]) ∧
 Reads Proofs.Try.prog [] (Instr.loadAt 65 (Value.pointer (some (Addr.mk ad5.block (ad5.off + 3) none)))) w16
 (Value.agg #[Value.int IntKind.i64 x6, Value.int IntKind.i64 x7, Value.int IntKind.i64 x8, Value.int IntKind.i64 x9]) ∧
 Calls Proofs.Try.prog 100
 #[Value.agg #[Value.int IntKind.i64 x6, Value.int IntKind.i64 x7, Value.int IntKind.i64 x8, Value.int IntKind.i64 x9],
 Value.agg #[Value.int IntKind.i64 x17, Value.int IntKind.i64 x18, Value.int IntKind.i64 x19, Value.int IntKind.i64 x20]]
 w16 fun (e21 : Ending) (w22 : World) =>
 ∃ (x23 : Int),
 ∃ (x24 : Int),
 ∃ (x25 : Int),
 ∃ (x26 : Int),
 ∃ (b27 : Bool),
 e21 =
 Ending.returned
 (Value.tuple #[Value.agg #[Value.int IntKind.i64 x23, Value.int IntKind.i64 x24, Value.int IntKind.i64 x25, Value.int IntKind.i64 x26], Value.bool b27]) ∧
 ∃ (ad28 : Addr),
 t = some ad28 ∧
 OpW Proofs.Try.prog
 (skipS
 (Instr.storeAt 65 (Value.pointer (some (Addr.mk ad28.block (ad28.off + 3) none)))
 (Value.agg #[Value.int IntKind.i64 x23, Value.int IntKind.i64 x24, Value.int IntKind.i64 x25, Value.int IntKind.i64 x26])))
 w22 fun (v29 : Value) (w30 : World) =>
 ∃ (ad31 : Addr),
 t = some ad31 ∧
 ∃ (x32 : Int),
 ∃ (x33 : Int),
 ∃ (x34 : Int),
 ∃ (x35 : Int),
 Reads Proofs.Try.prog [] (Instr.loadAt 65 (Value.pointer (some (Addr.mk ad31.block (ad31.off + 7) none)))) w30
 (Value.agg #[Value.int IntKind.i64 x32, Value.int IntKind.i64 x33, Value.int IntKind.i64 x34, Value.int IntKind.i64 x35]) ∧
 ∃ (ad36 : Addr),
 a3 = some ad36 ∧
 ∃ (a37 : Option Addr),
 ∃ (n38 : Nat),
 ∃ (n39 : Nat),
 Reads Proofs.Try.prog [] (Instr.loadAt 23 (Value.pointer (some (Addr.mk ad36.block (ad36.off + 2) none)))) w30 (Value.slice a37 n38 n39) ∧
 ∀ (w40 : World),
 Bel w30 w40 →
 Calls Proofs.Try.prog 50 #[Value.slice a37 n38 n39] w40 fun (e41 : Ending) (w42 : World) =>
 ∃ (x43 : Int),
 ∃ (x44 : Int),
 ∃ (x45 : Int),
 ∃ (x46 : Int),
 e41 =
 Ending.returned
 (Value.agg
 #[Value.int IntKind.i64 x43, Value.int IntKind.i64 x44, Value.int IntKind.i64 x45, Value.int IntKind.i64 x46]) ∧
 Reads Proofs.Try.prog [] (Instr.loadAt 65 (Value.pointer (some (Addr.mk ad31.block (ad31.off + 7) none)))) w42
 (Value.agg
 #[Value.int IntKind.i64 x32, Value.int IntKind.i64 x33, Value.int IntKind.i64 x34, Value.int IntKind.i64 x35]) ∧
 Calls Proofs.Try.prog 100
 #[Value.agg
 #[Value.int IntKind.i64 x32, Value.int IntKind.i64 x33, Value.int IntKind.i64 x34, Value.int IntKind.i64 x35],
 Value.agg
 #[Value.int IntKind.i64 x43, Value.int IntKind.i64 x44, Value.int IntKind.i64 x45, Value.int IntKind.i64 x46]]
 w42 fun (e47 : Ending) (w48 : World) =>
 ∃ (x49 : Int),
 ∃ (x50 : Int),
 ∃ (x51 : Int),
 ∃ (x52 : Int),
 ∃ (b53 : Bool),
 e47 =
 Ending.returned
 (Value.tuple
 #[Value.agg
 #[Value.int IntKind.i64 x49, Value.int IntKind.i64 x50, Value.int IntKind.i64 x51,
 Value.int IntKind.i64 x52],
 Value.bool b53]) ∧
 ∃ (ad54 : Addr),
 t = some ad54 ∧
 OpW Proofs.Try.prog
 (skipS
 (Instr.storeAt 65 (Value.pointer (some (Addr.mk ad54.block (ad54.off + 7) none)))
 (Value.agg
 #[Value.int IntKind.i64 x49, Value.int IntKind.i64 x50, Value.int IntKind.i64 x51,
 Value.int IntKind.i64 x52])))
 w48 fun (v55 : Value) (w56 : World) =>
 ∃ (ad57 : Addr),
 t = some ad57 ∧
 ∃ (r58 : Option Nat),
 Reads Proofs.Try.prog []
 (Instr.loadAt 90 (Value.pointer (some (Addr.mk ad57.block (ad57.off + 2) none)))) w56
 (Value.map r58) ∧
 OpW Proofs.Try.prog
 (builtin Builtin.delete #[90, 2] 0 #[false, false]
 #[Value.map r58, Value.int IntKind.i64 id])
 w56 fun (v59 : Value) (w60 : World) =>
 v59 = Value.tuple #[] ∧ R (Ending.returned (Value.bool true)) w60)
theorem f46_eq (t : Option Addr) (id : Int) (w : World) (R : Ending → World → Prop) : (fnF Go.Proofs.Try.prog h46 Go.Proofs.Try.f46 [Value.pointer t, Value.int IntKind.i64 id] w R).den = f46_vc t id w R := by kernel_rfl
theorem f46_calls (t : Option Addr) (id : Int) (w : World) (R : Ending → World → Prop) (h : f46_vc t id w R) : Calls Go.Proofs.Try.prog 46 (List.toArray [Value.pointer t, Value.int IntKind.i64 id]) w R :=
 fn_sound (H := h46) (fn := Go.Proofs.Try.f46) (by kernel_rfl) (by kernel_rfl) (by kernel_rfl) ((f46_eq t id w R).mpr h)


/-! (*manciple/agents.Table).Free -/
def h48 : Hints := ⟨[2], [8], [5], [], [], [], [], [], []⟩
def f48_vc (t : Option Addr) (w : World) (R : Ending → World → Prop) : Prop :=
 ∀ (n1 : Nat),
 w.heap.size ≤ n1 →
 ∀ (w2 : World),
 Bel w w2 →
 Under [n1] w2 →
 Calls Proofs.Try.prog 90 #[Value.pointer t] w2 fun (e3 : Ending) (w4 : World) =>
 ∃ (b5 : Bool),
 e3 = Ending.returned (Value.bool b5) ∧
 Keeps [n1] w2 w4 ∧
 ((!b5) = true → ∀ (w6 : World), Evo [n1] w4 w6 → Under [n1] w6 → R (Ending.returned (Value.agg #[Value.int IntKind.i64 0, Value.int IntKind.i64 0, Value.int IntKind.i64 0, Value.int IntKind.i64 0])) w6) ∧
 ((!b5) = false →
 ∃ (ad7 : Addr),
 t = some ad7 ∧
 ∃ (x8 : Int),
 ∃ (x9 : Int),
 ∃ (x10 : Int),
 ∃ (x11 : Int),
 Reads Proofs.Try.prog [] (Instr.loadAt 65 (Value.pointer (some (Addr.mk ad7.block (ad7.off + 7) none)))) w4
 (Value.agg #[Value.int IntKind.i64 x8, Value.int IntKind.i64 x9, Value.int IntKind.i64 x10, Value.int IntKind.i64 x11]) ∧
 ∀ (w12 : World), Evo [n1] w4 w12 → Under [n1] w12 → R (Ending.returned (Value.agg #[Value.int IntKind.i64 x8, Value.int IntKind.i64 x9, Value.int IntKind.i64 x10, Value.int IntKind.i64 x11])) w12)
theorem f48_eq (t : Option Addr) (w : World) (R : Ending → World → Prop) : (fnF Go.Proofs.Try.prog h48 Go.Proofs.Try.f48 [Value.pointer t] w R).den = f48_vc t w R := by kernel_rfl
theorem f48_calls (t : Option Addr) (w : World) (R : Ending → World → Prop) (h : f48_vc t w R) : Calls Go.Proofs.Try.prog 48 (List.toArray [Value.pointer t]) w R :=
 fn_sound (H := h48) (fn := Go.Proofs.Try.f48) (by kernel_rfl) (by kernel_rfl) (by kernel_rfl) ((f48_eq t w R).mpr h)


/-! (*manciple/agents.Table).Give -/
def h51 : Hints := ⟨[], [22, 33], [18, 39, 31], [], [], [], [], [], []⟩
def f51_vc (t : Option Addr) (id : Int) (va : Option Addr) (vn : Nat) (vc : Nat) (w : World) (R : Ending → World → Prop) : Prop :=
 Calls Proofs.Try.prog 97 #[Value.pointer t, Value.int IntKind.i64 id] w fun (e1 : Ending) (w2 : World) =>
 ∃ (a3 : Option Addr),
 ∃ (x4 : Int),
 e1 = Ending.returned (Value.tuple #[Value.pointer a3, Value.int IntKind.i64 x4]) ∧
 ((x4 != 0) = true → R (Ending.returned (Value.int IntKind.i64 x4)) w2) ∧
 ((x4 != 0) = false →
 ∃ (ad5 : Addr),
 a3 = some ad5 ∧
 ∃ (a6 : Option Addr),
 ∃ (n7 : Nat),
 ∃ (n8 : Nat),
 Reads Proofs.Try.prog [] (Instr.loadAt 23 (Value.pointer (some (Addr.mk ad5.block (ad5.off + 2) none)))) w2 (Value.slice a6 n7 n8) ∧
 Calls Proofs.Try.prog 102 #[Value.slice a6 n7 n8, Value.slice va vn vc] w2 fun (e9 : Ending) (w10 : World) =>
 ∃ (a11 : Option Addr),
 ∃ (n12 : Nat),
 ∃ (n13 : Nat),
 ∃ (b14 : Bool),
 e9 = Ending.returned (Value.tuple #[Value.slice a11 n12 n13, Value.bool b14]) ∧
 ((!b14) = true → R (Ending.returned (Value.int IntKind.i64 31)) w10) ∧
 ((!b14) = false →
 ∃ (ad15 : Addr),
 a3 = some ad15 ∧
 ∃ (a16 : Option Addr),
 ∃ (n17 : Nat),
 ∃ (n18 : Nat),
 Reads Proofs.Try.prog [] (Instr.loadAt 23 (Value.pointer (some (Addr.mk ad15.block (ad15.off + 1) none)))) w10 (Value.slice a16 n17 n18) ∧
 Calls Proofs.Try.prog 43 #[Value.slice a16 n17 n18, Value.slice a11 n12 n13] w10 fun (e19 : Ending) (w20 : World) =>
 ∃ (b21 : Bool),
 e19 = Ending.returned (Value.bool b21) ∧
 ((!b21) = true → R (Ending.returned (Value.int IntKind.i64 31)) w20) ∧
 ((!b21) = false →
 Calls Proofs.Try.prog 99 #[Value.pointer t, Value.pointer a3, Value.slice a11 n12 n13] w20 fun (e22 : Ending) (w23 : World) =>
 e22 = Ending.returned (Value.tuple #[]) ∧ R (Ending.returned (Value.int IntKind.i64 0)) w23)))
theorem f51_eq (t : Option Addr) (id : Int) (va : Option Addr) (vn : Nat) (vc : Nat) (w : World) (R : Ending → World → Prop) : (fnF Go.Proofs.Try.prog h51 Go.Proofs.Try.f51 [Value.pointer t, Value.int IntKind.i64 id, Value.slice va vn vc] w R).den = f51_vc t id va vn vc w R := by kernel_rfl
theorem f51_calls (t : Option Addr) (id : Int) (va : Option Addr) (vn : Nat) (vc : Nat) (w : World) (R : Ending → World → Prop) (h : f51_vc t id va vn vc w R) : Calls Go.Proofs.Try.prog 51 (List.toArray [Value.pointer t, Value.int IntKind.i64 id, Value.slice va vn vc]) w R :=
 fn_sound (H := h51) (fn := Go.Proofs.Try.f51) (by kernel_rfl) (by kernel_rfl) (by kernel_rfl) ((f51_eq t id va vn vc w R).mpr h)


/-! manciple/mancipleref22.Same -/
def h52 : Hints := ⟨[], [19, 24, 31, 36, 45, 50], [10, 14, 55, 28, 42], [(6, [0, 1, 2, 3, 4, 5, 6, 7, 8, 9, 10, 11, 12, 13, 14, 15, 16, 17, 18, 19, 20, 21, 22, 23, 24, 25, 26, 27, 28, 29, 30, 31, 32, 33, 34, 35, 36, 37, 38])], [], [(4, ⟨[(5, .int .i64)], []⟩)], [], [], []⟩
def f52_vc (aa : Option Addr) (an : Nat) (ac : Nat) (ba : Option Addr) (bn : Nat) (bc : Nat) (w : World) (R : Ending → World → Prop) : Prop :=
 (((↑an : Int) != (↑bn : Int)) = true → R (Ending.returned (Value.bool false)) w) ∧
 (((↑an : Int) != (↑bn : Int)) = false →
 ∃ (J1 : Int × Unit → World → Prop),
 ∃ (J2 : Int × Unit → World → Nat),
 J1 (0, ()) w ∧
 ∀ (x3 : Int) (w4 : World),
 J1 (x3, ()) w4 →
 (decide (x3 < (↑an : Int)) = true →
 ∃ (ad5 : Addr),
 Gives Proofs.Try.prog (Instr.indexAt 81 (Value.slice aa an ac) (Value.int IntKind.i64 x3)) (Value.pointer (some ad5)) ∧
 ∃ (x6 : Int),
 Reads Proofs.Try.prog [] (Instr.loadAt 2 (Value.pointer (some ad5))) w4 (Value.int IntKind.i64 x6) ∧
 ∃ (ad7 : Addr),
 Gives Proofs.Try.prog (Instr.indexAt 81 (Value.slice ba bn bc) (Value.int IntKind.i64 x3)) (Value.pointer (some ad7)) ∧
 ∃ (x8 : Int),
 Reads Proofs.Try.prog [] (Instr.loadAt 2 (Value.pointer (some ad7))) w4 (Value.int IntKind.i64 x8) ∧
 ((x6 != x8) = true → ∀ (w9 : World), Bel w4 w9 → R (Ending.returned (Value.bool false)) w9) ∧
 ((x6 != x8) = false →
 ∃ (ad10 : Addr),
 Gives Proofs.Try.prog (Instr.indexAt 81 (Value.slice aa an ac) (Value.int IntKind.i64 x3)) (Value.pointer (some ad10)) ∧
 ∃ (a11 : Option Addr),
 ∃ (n12 : Nat),
 ∃ (n13 : Nat),
 Reads Proofs.Try.prog [] (Instr.loadAt 23 (Value.pointer (some (Addr.mk ad10.block (ad10.off + 1) none)))) w4 (Value.slice a11 n12 n13) ∧
 ∃ (ad14 : Addr),
 Gives Proofs.Try.prog (Instr.indexAt 81 (Value.slice ba bn bc) (Value.int IntKind.i64 x3)) (Value.pointer (some ad14)) ∧
 ∃ (a15 : Option Addr),
 ∃ (n16 : Nat),
 ∃ (n17 : Nat),
 Reads Proofs.Try.prog [] (Instr.loadAt 23 (Value.pointer (some (Addr.mk ad14.block (ad14.off + 1) none)))) w4 (Value.slice a15 n16 n17) ∧
 ∀ (w18 : World),
 Bel w4 w18 →
 Calls Proofs.Try.prog 82 #[Value.slice a11 n12 n13, Value.slice a15 n16 n17] w18 fun (e19 : Ending) (w20 : World) =>
 ∃ (b21 : Bool),
 e19 = Ending.returned (Value.bool b21) ∧
 Reads Proofs.Try.prog [] (Instr.loadAt 2 (Value.pointer (some ad7))) w20 (Value.int IntKind.i64 x8) ∧
 Reads Proofs.Try.prog [] (Instr.loadAt 2 (Value.pointer (some ad5))) w20 (Value.int IntKind.i64 x6) ∧
 ((!b21) = true → R (Ending.returned (Value.bool false)) w20) ∧
 ((!b21) = false →
 ∃ (ad22 : Addr),
 Gives Proofs.Try.prog (Instr.indexAt 81 (Value.slice aa an ac) (Value.int IntKind.i64 x3)) (Value.pointer (some ad22)) ∧
 ∃ (a23 : Option Addr),
 ∃ (n24 : Nat),
 ∃ (n25 : Nat),
 Reads Proofs.Try.prog [] (Instr.loadAt 23 (Value.pointer (some (Addr.mk ad22.block (ad22.off + 2) none)))) w20 (Value.slice a23 n24 n25) ∧
 ∃ (ad26 : Addr),
 Gives Proofs.Try.prog (Instr.indexAt 81 (Value.slice ba bn bc) (Value.int IntKind.i64 x3)) (Value.pointer (some ad26)) ∧
 ∃ (a27 : Option Addr),
 ∃ (n28 : Nat),
 ∃ (n29 : Nat),
 Reads Proofs.Try.prog [] (Instr.loadAt 23 (Value.pointer (some (Addr.mk ad26.block (ad26.off + 2) none)))) w20 (Value.slice a27 n28 n29) ∧
 Calls Proofs.Try.prog 82 #[Value.slice a23 n24 n25, Value.slice a27 n28 n29] w20 fun (e30 : Ending) (w31 : World) =>
 ∃ (b32 : Bool),
 e30 = Ending.returned (Value.bool b32) ∧
 Reads Proofs.Try.prog [] (Instr.loadAt 2 (Value.pointer (some ad7))) w31 (Value.int IntKind.i64 x8) ∧
 Reads Proofs.Try.prog [] (Instr.loadAt 2 (Value.pointer (some ad5))) w31 (Value.int IntKind.i64 x6) ∧
 ((!b32) = true → R (Ending.returned (Value.bool false)) w31) ∧
 ((!b32) = false → J1 (IntKind.i64.wrap (x3 + 1), ()) w31 ∧ J2 (IntKind.i64.wrap (x3 + 1), ()) w31 < J2 (x3, ()) w4)))) ∧
 (decide (x3 < (↑an : Int)) = false → R (Ending.returned (Value.bool true)) w4))
theorem f52_eq (aa : Option Addr) (an : Nat) (ac : Nat) (ba : Option Addr) (bn : Nat) (bc : Nat) (w : World) (R : Ending → World → Prop) : (fnF Go.Proofs.Try.prog h52 Go.Proofs.Try.f52 [Value.slice aa an ac, Value.slice ba bn bc] w R).den = f52_vc aa an ac ba bn bc w R := by kernel_rfl
theorem f52_calls (aa : Option Addr) (an : Nat) (ac : Nat) (ba : Option Addr) (bn : Nat) (bc : Nat) (w : World) (R : Ending → World → Prop) (h : f52_vc aa an ac ba bn bc w R) : Calls Go.Proofs.Try.prog 52 (List.toArray [Value.slice aa an ac, Value.slice ba bn bc]) w R :=
 fn_sound (H := h52) (fn := Go.Proofs.Try.f52) (by kernel_rfl) (by kernel_rfl) (by kernel_rfl) ((f52_eq aa an ac ba bn bc w R).mpr h)


/-! (*manciple/agents.Table).Get -/
def h54 : Hints := ⟨[4], [], [15], [], [], [], [], [], []⟩
def f54_vc (t : Option Addr) (id : Int) (w : World) (R : Ending → World → Prop) : Prop :=
 ∀ (n1 : Nat),
 w.heap.size ≤ n1 →
 ∀ (w2 : World),
 Bel w w2 →
 Under [n1] w2 →
 Calls Proofs.Try.prog 97 #[Value.pointer t, Value.int IntKind.i64 id] w2 fun (e3 : Ending) (w4 : World) =>
 ∃ (a5 : Option Addr),
 ∃ (x6 : Int),
 e3 = Ending.returned (Value.tuple #[Value.pointer a5, Value.int IntKind.i64 x6]) ∧
 Keeps [n1] w2 w4 ∧
 ((x6 != 0) = true → ∀ (w7 : World), Evo [n1] w4 w7 → Under [n1] w7 → R (Ending.returned (Value.tuple #[Value.agg #[Value.int IntKind.i64 0, Value.slice none 0 0, Value.slice none 0 0], Value.bool false])) w7) ∧
 ((x6 != 0) = false →
 Calls Proofs.Try.prog 91 #[Value.pointer a5] w4 fun (e8 : Ending) (w9 : World) =>
 ∃ (x10 : Int),
 ∃ (a11 : Option Addr),
 ∃ (n12 : Nat),
 ∃ (n13 : Nat),
 ∃ (a14 : Option Addr),
 ∃ (n15 : Nat),
 ∃ (n16 : Nat),
 e8 = Ending.returned (Value.agg #[Value.int IntKind.i64 x10, Value.slice a11 n12 n13, Value.slice a14 n15 n16]) ∧
 Keeps [n1] w4 w9 ∧
 ∀ (w17 : World),
 Evo [n1] w9 w17 → Under [n1] w17 → R (Ending.returned (Value.tuple #[Value.agg #[Value.int IntKind.i64 x10, Value.slice a11 n12 n13, Value.slice a14 n15 n16], Value.bool true])) w17)
theorem f54_eq (t : Option Addr) (id : Int) (w : World) (R : Ending → World → Prop) : (fnF Go.Proofs.Try.prog h54 Go.Proofs.Try.f54 [Value.pointer t, Value.int IntKind.i64 id] w R).den = f54_vc t id w R := by kernel_rfl
theorem f54_calls (t : Option Addr) (id : Int) (w : World) (R : Ending → World → Prop) (h : f54_vc t id w R) : Calls Go.Proofs.Try.prog 54 (List.toArray [Value.pointer t, Value.int IntKind.i64 id]) w R :=
 fn_sound (H := h54) (fn := Go.Proofs.Try.f54) (by kernel_rfl) (by kernel_rfl) (by kernel_rfl) ((f54_eq t id w R).mpr h)


/-! (manciple/mancipleref22.M).At -/
def h55 : Hints := ⟨[2], [16], [10, 20], [], [], [(2, ⟨[(5, .int .i64)], []⟩)], [], [], []⟩
def f55_vc (m_0 : Int) (m_1 : Int) (m_2a : Option Addr) (m_2n : Nat) (m_2c : Nat) (id : Int) (w : World) (R : Ending → World → Prop) : Prop :=
 ∀ (n1 : Nat),
 w.heap.size ≤ n1 →
 ∃ (J2 : Int × Unit → World → Prop),
 ∃ (J3 : Int × Unit → World → Nat),
 (∀ (w4 : World), Bel w w4 → Under [n1] w4 → J2 (0, ()) w4) ∧
 ∀ (x5 : Int) (w6 : World),
 J2 (x5, ()) w6 →
 (decide (x5 < (↑m_2n : Int)) = true →
 ∃ (ad7 : Addr),
 Gives Proofs.Try.prog (Instr.indexAt 81 (Value.slice m_2a m_2n m_2c) (Value.int IntKind.i64 x5)) (Value.pointer (some ad7)) ∧
 ∃ (x8 : Int),
 Reads Proofs.Try.prog [] (Instr.loadAt 2 (Value.pointer (some ad7))) w6 (Value.int IntKind.i64 x8) ∧
 ((x8 == id) = true → R (Ending.returned (Value.int IntKind.i64 x5)) w6) ∧ ((x8 == id) = false → J2 (IntKind.i64.wrap (x5 + 1), ()) w6 ∧ J3 (IntKind.i64.wrap (x5 + 1), ()) w6 < J3 (x5, ()) w6)) ∧
 (decide (x5 < (↑m_2n : Int)) = false → R (Ending.returned (Value.int IntKind.i64 (-1))) w6)
theorem f55_eq (m_0 : Int) (m_1 : Int) (m_2a : Option Addr) (m_2n : Nat) (m_2c : Nat) (id : Int) (w : World) (R : Ending → World → Prop) : (fnF Go.Proofs.Try.prog h55 Go.Proofs.Try.f55 [Value.agg #[Value.int IntKind.i64 m_0, Value.int IntKind.i64 m_1, Value.slice m_2a m_2n m_2c], Value.int IntKind.i64 id] w R).den = f55_vc m_0 m_1 m_2a m_2n m_2c id w R := by kernel_rfl
theorem f55_calls (m_0 : Int) (m_1 : Int) (m_2a : Option Addr) (m_2n : Nat) (m_2c : Nat) (id : Int) (w : World) (R : Ending → World → Prop) (h : f55_vc m_0 m_1 m_2a m_2n m_2c id w R) : Calls Go.Proofs.Try.prog 55 (List.toArray [Value.agg #[Value.int IntKind.i64 m_0, Value.int IntKind.i64 m_1, Value.slice m_2a m_2n m_2c], Value.int IntKind.i64 id]) w R :=
 fn_sound (H := h55) (fn := Go.Proofs.Try.f55) (by kernel_rfl) (by kernel_rfl) (by kernel_rfl) ((f55_eq m_0 m_1 m_2a m_2n m_2c id w R).mpr h)


/-! (*manciple/agents.Table).made -/
def h90 : Hints := ⟨[], [4, 7, 10], [5], [], [], [], [], [], []⟩
def f90_vc (t : Option Addr) (w : World) (R : Ending → World → Prop) : Prop :=
 ∃ (b1 : Bool),
 Gives Proofs.Try.prog (binOpS BinOp.neq 78 (Operand.tmp 3) (Operand.const (Value.pointer none)) (Value.pointer t) (Value.pointer none)) (Value.bool b1) ∧
 (b1 = true →
 ∃ (ad2 : Addr),
 t = some ad2 ∧
 ∃ (r3 : Option Nat),
 Reads Proofs.Try.prog [] (Instr.loadAt 90 (Value.pointer (some (Addr.mk ad2.block (ad2.off + 2) none)))) w (Value.map r3) ∧
 ∃ (b4 : Bool), Gives Proofs.Try.prog (binOpS BinOp.neq 90 (Operand.tmp 9) (Operand.const (Value.map none)) (Value.map r3) (Value.map none)) (Value.bool b4) ∧ R (Ending.returned (Value.bool b4)) w) ∧
 (b1 = false → R (Ending.returned (Value.bool false)) w)
theorem f90_eq (t : Option Addr) (w : World) (R : Ending → World → Prop) : (fnF Go.Proofs.Try.prog h90 Go.Proofs.Try.f90 [Value.pointer t] w R).den = f90_vc t w R := by kernel_rfl
theorem f90_calls (t : Option Addr) (w : World) (R : Ending → World → Prop) (h : f90_vc t w R) : Calls Go.Proofs.Try.prog 90 (List.toArray [Value.pointer t]) w R :=
 fn_sound (H := h90) (fn := Go.Proofs.Try.f90) (by kernel_rfl) (by kernel_rfl) (by kernel_rfl) ((f90_eq t w R).mpr h)


/-! manciple/agents.copied -/
def h91 : Hints := ⟨[2], [4, 8, 13], [], [(1, [0, 1, 2, 3, 4, 5, 6, 7, 9, 10, 11, 12, 8, 13, 14, 15])], [], [], [], [], []⟩
def f91_vc (a : Option Addr) (w : World) (R : Ending → World → Prop) : Prop :=
 ∀ (n1 : Nat),
 w.heap.size ≤ n1 →
 ∃ (ad2 : Addr),
 a = some ad2 ∧
 ∃ (x3 : Int),
 Reads Proofs.Try.prog [] (Instr.loadAt 2 (Value.pointer (some ad2))) w (Value.int IntKind.i64 x3) ∧
 ∃ (ad4 : Addr),
 a = some ad4 ∧
 ∃ (a5 : Option Addr),
 ∃ (n6 : Nat),
 ∃ (n7 : Nat),
 Reads Proofs.Try.prog [] (Instr.loadAt 23 (Value.pointer (some (Addr.mk ad4.block (ad4.off + 1) none)))) w (Value.slice a5 n6 n7) ∧
 ∃ (ad8 : Addr),
 a = some ad8 ∧
 ∃ (a9 : Option Addr),
 ∃ (n10 : Nat),
 ∃ (n11 : Nat),
 Reads Proofs.Try.prog [] (Instr.loadAt 23 (Value.pointer (some (Addr.mk ad8.block (ad8.off + 2) none)))) w (Value.slice a9 n10 n11) ∧
 ∀ (w12 : World),
 Bel w w12 →
 Under [n1] w12 →
 Calls Proofs.Try.prog 79 #[Value.slice a5 n6 n7] w12 fun (e13 : Ending) (w14 : World) =>
 ∃ (a15 : Option Addr),
 ∃ (n16 : Nat),
 ∃ (n17 : Nat),
 e13 = Ending.returned (Value.slice a15 n16 n17) ∧
 Keeps [n1] w12 w14 ∧
 Reads Proofs.Try.prog [] (Instr.loadAt 23 (Value.pointer (some (Addr.mk ad8.block (ad8.off + 2) none)))) w14 (Value.slice a9 n10 n11) ∧
 Reads Proofs.Try.prog [] (Instr.loadAt 2 (Value.pointer (some ad2))) w14 (Value.int IntKind.i64 x3) ∧
 Calls Proofs.Try.prog 79 #[Value.slice a9 n10 n11] w14 fun (e18 : Ending) (w19 : World) =>
 ∃ (a20 : Option Addr),
 ∃ (n21 : Nat),
 ∃ (n22 : Nat),
 e18 = Ending.returned (Value.slice a20 n21 n22) ∧
 Keeps [n1] w14 w19 ∧
 Reads Proofs.Try.prog [] (Instr.loadAt 2 (Value.pointer (some ad2))) w19 (Value.int IntKind.i64 x3) ∧
 ∀ (w23 : World), Evo [n1] w19 w23 → Under [n1] w23 → R (Ending.returned (Value.agg #[Value.int IntKind.i64 x3, Value.slice a15 n16 n17, Value.slice a20 n21 n22])) w23
theorem f91_eq (a : Option Addr) (w : World) (R : Ending → World → Prop) : (fnF Go.Proofs.Try.prog h91 Go.Proofs.Try.f91 [Value.pointer a] w R).den = f91_vc a w R := by kernel_rfl
theorem f91_calls (a : Option Addr) (w : World) (R : Ending → World → Prop) (h : f91_vc a w R) : Calls Go.Proofs.Try.prog 91 (List.toArray [Value.pointer a]) w R :=
 fn_sound (H := h91) (fn := Go.Proofs.Try.f91) (by kernel_rfl) (by kernel_rfl) (by kernel_rfl) ((f91_eq a w R).mpr h)


/-! (*manciple/agents.Table).All$1 -/
def h93 : Hints := ⟨[2, 3], [], [], [], [], [], [], [], []⟩
def f93_vc (a_0 : Int) (a_1a : Option Addr) (a_1n : Nat) (a_1c : Nat) (a_2a : Option Addr) (a_2n : Nat) (a_2c : Nat) (b_0 : Int) (b_1a : Option Addr) (b_1n : Nat) (b_1c : Nat) (b_2a : Option Addr) (b_2n : Nat) (b_2c : Nat) (w : World) (R : Ending → World → Prop) : Prop :=
 ∀ (n1 : Nat),
 w.heap.size ≤ n1 →
 ∀ (n2 : Nat),
 w.heap.size ≤ n2 →
 ∀ (w3 : World),
 Bel w w3 →
 Under [n1, n2] w3 →
 Calls Proofs.Try.prog 94 #[Value.int IntKind.i64 a_0, Value.int IntKind.i64 b_0] w3 fun (e4 : Ending) (w5 : World) =>
 ∃ (x6 : Int), e4 = Ending.returned (Value.int IntKind.i64 x6) ∧ Keeps [n1, n2] w3 w5 ∧ R (Ending.returned (Value.int IntKind.i64 x6)) w5
theorem f93_eq (a_0 : Int) (a_1a : Option Addr) (a_1n : Nat) (a_1c : Nat) (a_2a : Option Addr) (a_2n : Nat) (a_2c : Nat) (b_0 : Int) (b_1a : Option Addr) (b_1n : Nat) (b_1c : Nat) (b_2a : Option Addr) (b_2n : Nat) (b_2c : Nat) (w : World) (R : Ending → World → Prop) : (fnF Go.Proofs.Try.prog h93 Go.Proofs.Try.f93 [Value.agg #[Value.int IntKind.i64 a_0, Value.slice a_1a a_1n a_1c, Value.slice a_2a a_2n a_2c], Value.agg #[Value.int IntKind.i64 b_0, Value.slice b_1a b_1n b_1c, Value.slice b_2a b_2n b_2c]] w R).den = f93_vc a_0 a_1a a_1n a_1c a_2a a_2n a_2c b_0 b_1a b_1n b_1c b_2a b_2n b_2c w R := by kernel_rfl
theorem f93_calls (a_0 : Int) (a_1a : Option Addr) (a_1n : Nat) (a_1c : Nat) (a_2a : Option Addr) (a_2n : Nat) (a_2c : Nat) (b_0 : Int) (b_1a : Option Addr) (b_1n : Nat) (b_1c : Nat) (b_2a : Option Addr) (b_2n : Nat) (b_2c : Nat) (w : World) (R : Ending → World → Prop) (h : f93_vc a_0 a_1a a_1n a_1c a_2a a_2n a_2c b_0 b_1a b_1n b_1c b_2a b_2n b_2c w R) : Calls Go.Proofs.Try.prog 93 (List.toArray [Value.agg #[Value.int IntKind.i64 a_0, Value.slice a_1a a_1n a_1c, Value.slice a_2a a_2n a_2c], Value.agg #[Value.int IntKind.i64 b_0, Value.slice b_1a b_1n b_1c, Value.slice b_2a b_2n b_2c]]) w R :=
 fn_sound (H := h93) (fn := Go.Proofs.Try.f93) (by kernel_rfl) (by kernel_rfl) (by kernel_rfl) ((f93_eq a_0 a_1a a_1n a_1c a_2a a_2n a_2c b_0 b_1a b_1n b_1c b_2a b_2n b_2c w R).mpr h)


/-! (*manciple/agents.Table).Turn -/
def h95 : Hints := ⟨[], [24, 43, 52], [20, 48, 33, 39], [(5, [0, 1, 2, 3, 4, 5, 6, 7, 8, 9, 11, 12, 13, 14, 10, 15, 16, 17])], [], [], [], [], []⟩
def f95_vc (t : Option Addr) (id : Int) (totala : Option Addr) (totaln : Nat) (totalc : Nat) (morea : Option Addr) (moren : Nat) (morec : Nat) (w : World) (R : Ending → World → Prop) : Prop :=
 Calls Proofs.Try.prog 97 #[Value.pointer t, Value.int IntKind.i64 id] w fun (e1 : Ending) (w2 : World) =>
 ∃ (a3 : Option Addr),
 ∃ (x4 : Int),
 e1 = Ending.returned (Value.tuple #[Value.pointer a3, Value.int IntKind.i64 x4]) ∧
 ((x4 != 0) = true → R (Ending.returned (Value.int IntKind.i64 x4)) w2) ∧
 ((x4 != 0) = false →
 ∃ (ad5 : Addr),
 a3 = some ad5 ∧
 ∃ (a6 : Option Addr),
 ∃ (n7 : Nat),
 ∃ (n8 : Nat),
 Reads Proofs.Try.prog [] (Instr.loadAt 23 (Value.pointer (some (Addr.mk ad5.block (ad5.off + 2) none)))) w2 (Value.slice a6 n7 n8) ∧
 Calls Proofs.Try.prog 102 #[Value.slice a6 n7 n8, Value.slice morea moren morec] w2 fun (e9 : Ending) (w10 : World) =>
 ∃ (a11 : Option Addr),
 ∃ (n12 : Nat),
 ∃ (n13 : Nat),
 ∃ (b14 : Bool),
 e9 = Ending.returned (Value.tuple #[Value.slice a11 n12 n13, Value.bool b14]) ∧
 ((!b14) = true → ∀ (w15 : World), Bel w10 w15 → R (Ending.returned (Value.int IntKind.i64 41)) w15) ∧
 ((!b14) = false →
 ∀ (w16 : World),
 Bel w10 w16 →
 Calls Proofs.Try.prog 43 #[Value.slice totala totaln totalc, Value.slice a11 n12 n13] w16 fun (e17 : Ending) (w18 : World) =>
 ∃ (b19 : Bool),
 e17 = Ending.returned (Value.bool b19) ∧
 ((!b19) = true → R (Ending.returned (Value.int IntKind.i64 41)) w18) ∧
 ((!b19) = false →
 ∃ (ad20 : Addr),
 a3 = some ad20 ∧
 ∃ (a21 : Option Addr),
 ∃ (n22 : Nat),
 ∃ (n23 : Nat),
 Reads Proofs.Try.prog [] (Instr.loadAt 23 (Value.pointer (some (Addr.mk ad20.block (ad20.off + 1) none)))) w18 (Value.slice a21 n22 n23) ∧
 Calls Proofs.Try.prog 50 #[Value.slice totala totaln totalc] w18 fun (e24 : Ending) (w25 : World) =>
 ∃ (x26 : Int),
 ∃ (x27 : Int),
 ∃ (x28 : Int),
 ∃ (x29 : Int),
 e24 = Ending.returned (Value.agg #[Value.int IntKind.i64 x26, Value.int IntKind.i64 x27, Value.int IntKind.i64 x28, Value.int IntKind.i64 x29]) ∧
 Reads Proofs.Try.prog [] (Instr.loadAt 23 (Value.pointer (some (Addr.mk ad20.block (ad20.off + 1) none)))) w25 (Value.slice a21 n22 n23) ∧
 Calls Proofs.Try.prog 50 #[Value.slice a21 n22 n23] w25 fun (e30 : Ending) (w31 : World) =>
 ∃ (x32 : Int),
 ∃ (x33 : Int),
 ∃ (x34 : Int),
 ∃ (x35 : Int),
 e30 = Ending.returned (Value.agg #[Value.int IntKind.i64 x32, Value.int IntKind.i64 x33, Value.int IntKind.i64 x34, Value.int IntKind.i64 x35]) ∧
 ((!(x26 == x32 && (x27 == x33 && (x28 == x34 && (x29 == x35 && true))))) = true → R (Ending.returned (Value.int IntKind.i64 41)) w31) ∧
 ((!(x26 == x32 && (x27 == x33 && (x28 == x34 && (x29 == x35 && true))))) = false →
 Calls Proofs.Try.prog 79 #[Value.slice totala totaln totalc] w31 fun (e36 : Ending) (w37 : World) =>
 ∃ (a38 : Option Addr),
 ∃ (n39 : Nat),
 ∃ (n40 : Nat),
 e36 = Ending.returned (Value.slice a38 n39 n40) ∧
 ∃ (ad41 : Addr),
 a3 = some ad41 ∧
 OpW Proofs.Try.prog
 (skipS (Instr.storeAt 23 (Value.pointer (some (Addr.mk ad41.block (ad41.off + 1) none))) (Value.slice a38 n39 n40))) w37
 fun (v42 : Value) (w43 : World) =>
 Calls Proofs.Try.prog 99 #[Value.pointer t, Value.pointer a3, Value.slice a11 n12 n13] w43 fun (e44 : Ending) (w45 : World) =>
 e44 = Ending.returned (Value.tuple #[]) ∧ R (Ending.returned (Value.int IntKind.i64 0)) w45))))
theorem f95_eq (t : Option Addr) (id : Int) (totala : Option Addr) (totaln : Nat) (totalc : Nat) (morea : Option Addr) (moren : Nat) (morec : Nat) (w : World) (R : Ending → World → Prop) : (fnF Go.Proofs.Try.prog h95 Go.Proofs.Try.f95 [Value.pointer t, Value.int IntKind.i64 id, Value.slice totala totaln totalc, Value.slice morea moren morec] w R).den = f95_vc t id totala totaln totalc morea moren morec w R := by kernel_rfl
theorem f95_calls (t : Option Addr) (id : Int) (totala : Option Addr) (totaln : Nat) (totalc : Nat) (morea : Option Addr) (moren : Nat) (morec : Nat) (w : World) (R : Ending → World → Prop) (h : f95_vc t id totala totaln totalc morea moren morec w R) : Calls Go.Proofs.Try.prog 95 (List.toArray [Value.pointer t, Value.int IntKind.i64 id, Value.slice totala totaln totalc, Value.slice morea moren morec]) w R :=
 fn_sound (H := h95) (fn := Go.Proofs.Try.f95) (by kernel_rfl) (by kernel_rfl) (by kernel_rfl) ((f95_eq t id totala totaln totalc morea moren morec w R).mpr h)


/-! (*manciple/agents.Table).find -/
def h97 : Hints := ⟨[], [13], [10, 21], [], [], [], [], [], []⟩
def f97_vc (t : Option Addr) (id : Int) (w : World) (R : Ending → World → Prop) : Prop :=
 Calls Proofs.Try.prog 90 #[Value.pointer t] w fun (e1 : Ending) (w2 : World) =>
 ∃ (b3 : Bool),
 e1 = Ending.returned (Value.bool b3) ∧
 ((!b3) = true → R (Ending.returned (Value.tuple #[Value.pointer none, Value.int IntKind.i64 40])) w2) ∧
 ((!b3) = false →
 ∃ (ad4 : Addr),
 t = some ad4 ∧
 ∃ (r5 : Option Nat),
 Reads Proofs.Try.prog [] (Instr.loadAt 90 (Value.pointer (some (Addr.mk ad4.block (ad4.off + 2) none)))) w2 (Value.map r5) ∧
 ∃ (a6 : Option Addr),
 ∃ (b7 : Bool),
 Reads Proofs.Try.prog [] (Instr.lookup 90 (Value.map r5) (Value.int IntKind.i64 id) true) w2 (Value.tuple #[Value.pointer a6, Value.bool b7]) ∧
 ((!b7) = true → R (Ending.returned (Value.tuple #[Value.pointer none, Value.int IntKind.i64 43])) w2) ∧ ((!b7) = false → R (Ending.returned (Value.tuple #[Value.pointer a6, Value.int IntKind.i64 0])) w2))
theorem f97_eq (t : Option Addr) (id : Int) (w : World) (R : Ending → World → Prop) : (fnF Go.Proofs.Try.prog h97 Go.Proofs.Try.f97 [Value.pointer t, Value.int IntKind.i64 id] w R).den = f97_vc t id w R := by kernel_rfl
theorem f97_calls (t : Option Addr) (id : Int) (w : World) (R : Ending → World → Prop) (h : f97_vc t id w R) : Calls Go.Proofs.Try.prog 97 (List.toArray [Value.pointer t, Value.int IntKind.i64 id]) w R :=
 fn_sound (H := h97) (fn := Go.Proofs.Try.f97) (by kernel_rfl) (by kernel_rfl) (by kernel_rfl) ((f97_eq t id w R).mpr h)


/-! slices.Max[[]int64,int64] -/
def h98 : Hints := ⟨[], [10, 21], [7, 15], [], [], [(5, ⟨[(3, .int .i64), (4, .int .i64)], []⟩)], [], [], []⟩
def f98_vc (xa : Option Addr) (xn : Nat) (xc : Nat) (w : World) (R : Ending → World → Prop) : Prop :=
 (decide ((↑xn : Int) < 1) = true →
 OpW Proofs.Try.prog (Sem.halt (Halt.panic (Value.iface 9 (Value.string (ByteArray.mk #[115, 108, 105, 99, 101, 115, 46, 77, 97, 120, 58, 32, 101, 109, 112, 116, 121, 32, 108, 105, 115, 116]))))) w fun (v1 : Value) (w2 : World) =>
 v1 = Value.tuple #[] ∧
 ∃ (ad3 : Addr),
 Gives Proofs.Try.prog (Instr.indexAt 154 (Value.slice xa xn xc) (Value.int IntKind.i64 0)) (Value.pointer (some ad3)) ∧
 ∃ (x4 : Int),
 Reads Proofs.Try.prog [] (Instr.loadAt 2 (Value.pointer (some ad3))) w2 (Value.int IntKind.i64 x4) ∧
 ∃ (J5 : Int × Int × Unit → World → Prop),
 ∃ (J6 : Int × Int × Unit → World → Nat),
 J5 (x4, 1, ()) w2 ∧
 ∀ (x7 x8 : Int) (w9 : World),
 J5 (x7, x8, ()) w9 →
 (decide (x8 < (↑xn : Int)) = true →
 ∃ (ad10 : Addr),
 Gives Proofs.Try.prog (Instr.indexAt 154 (Value.slice xa xn xc) (Value.int IntKind.i64 x8)) (Value.pointer (some ad10)) ∧
 ∃ (x11 : Int),
 Reads Proofs.Try.prog [] (Instr.loadAt 2 (Value.pointer (some ad10))) w9 (Value.int IntKind.i64 x11) ∧
 J5 (if x11 > x7 then x11 else x7, IntKind.i64.wrap (x8 + 1), ()) w9 ∧ J6 (if x11 > x7 then x11 else x7, IntKind.i64.wrap (x8 + 1), ()) w9 < J6 (x7, x8, ()) w9) ∧
 (decide (x8 < (↑xn : Int)) = false → R (Ending.returned (Value.int IntKind.i64 x7)) w9)) ∧
 (decide ((↑xn : Int) < 1) = false →
 ∃ (ad12 : Addr),
 Gives Proofs.Try.prog (Instr.indexAt 154 (Value.slice xa xn xc) (Value.int IntKind.i64 0)) (Value.pointer (some ad12)) ∧
 ∃ (x13 : Int),
 Reads Proofs.Try.prog [] (Instr.loadAt 2 (Value.pointer (some ad12))) w (Value.int IntKind.i64 x13) ∧
 ∃ (J14 : Int × Int × Unit → World → Prop),
 ∃ (J15 : Int × Int × Unit → World → Nat),
 J14 (x13, 1, ()) w ∧
 ∀ (x16 x17 : Int) (w18 : World),
 J14 (x16, x17, ()) w18 →
 (decide (x17 < (↑xn : Int)) = true →
 ∃ (ad19 : Addr),
 Gives Proofs.Try.prog (Instr.indexAt 154 (Value.slice xa xn xc) (Value.int IntKind.i64 x17)) (Value.pointer (some ad19)) ∧
 ∃ (x20 : Int),
 Reads Proofs.Try.prog [] (Instr.loadAt 2 (Value.pointer (some ad19))) w18 (Value.int IntKind.i64 x20) ∧
 J14 (if x20 > x16 then x20 else x16, IntKind.i64.wrap (x17 + 1), ()) w18 ∧ J15 (if x20 > x16 then x20 else x16, IntKind.i64.wrap (x17 + 1), ()) w18 < J15 (x16, x17, ()) w18) ∧
 (decide (x17 < (↑xn : Int)) = false → R (Ending.returned (Value.int IntKind.i64 x16)) w18))
theorem f98_eq (xa : Option Addr) (xn : Nat) (xc : Nat) (w : World) (R : Ending → World → Prop) : (fnF Go.Proofs.Try.prog h98 Go.Proofs.Try.f98 [Value.slice xa xn xc] w R).den = f98_vc xa xn xc w R := by kernel_rfl
theorem f98_calls (xa : Option Addr) (xn : Nat) (xc : Nat) (w : World) (R : Ending → World → Prop) (h : f98_vc xa xn xc w R) : Calls Go.Proofs.Try.prog 98 (List.toArray [Value.slice xa xn xc]) w R :=
 fn_sound (H := h98) (fn := Go.Proofs.Try.f98) (by kernel_rfl) (by kernel_rfl) (by kernel_rfl) ((f98_eq xa xn xc w R).mpr h)


/-! (*manciple/agents.Table).set -/
def h99 : Hints := ⟨[], [9, 13, 20, 25, 33, 37], [], [(0, [0, 1, 2, 3, 4, 5, 6, 7, 8, 9, 10, 11, 12, 13, 14, 15, 16]), (1, [0, 1, 2, 3, 4, 5, 6, 7, 8, 9, 10, 11, 12, 13])], [], [], [], [], []⟩
def f99_vc (t : Option Addr) (a : Option Addr) (freea : Option Addr) (freen : Nat) (freec : Nat) (w : World) (R : Ending → World → Prop) : Prop :=
 ∃ (ad1 : Addr),
 t = some ad1 ∧
 ∃ (x2 : Int),
 ∃ (x3 : Int),
 ∃ (x4 : Int),
 ∃ (x5 : Int),
 Reads Proofs.Try.prog [] (Instr.loadAt 65 (Value.pointer (some (Addr.mk ad1.block (ad1.off + 7) none)))) w (Value.agg #[Value.int IntKind.i64 x2, Value.int IntKind.i64 x3, Value.int IntKind.i64 x4, Value.int IntKind.i64 x5]) ∧
 ∃ (ad6 : Addr),
 a = some ad6 ∧
 ∃ (a7 : Option Addr),
 ∃ (n8 : Nat),
 ∃ (n9 : Nat),
 Reads Proofs.Try.prog [] (Instr.loadAt 23 (Value.pointer (some (Addr.mk ad6.block (ad6.off + 2) none)))) w (Value.slice a7 n8 n9) ∧
 ∀ (w10 : World),
 Bel w w10 →
 Calls Proofs.Try.prog 50 #[Value.slice a7 n8 n9] w10 fun (e11 : Ending) (w12 : World) =>
 ∃ (x13 : Int),
 ∃ (x14 : Int),
 ∃ (x15 : Int),
 ∃ (x16 : Int),
 e11 = Ending.returned (Value.agg #[Value.int IntKind.i64 x13, Value.int IntKind.i64 x14, Value.int IntKind.i64 x15, Value.int IntKind.i64 x16]) ∧
 Reads Proofs.Try.prog [] (Instr.loadAt 65 (Value.pointer (some (Addr.mk ad1.block (ad1.off + 7) none)))) w12
 (Value.agg #[Value.int IntKind.i64 x2, Value.int IntKind.i64 x3, Value.int IntKind.i64 x4, Value.int IntKind.i64 x5]) ∧
 Calls Proofs.Try.prog 100
 #[Value.agg #[Value.int IntKind.i64 x2, Value.int IntKind.i64 x3, Value.int IntKind.i64 x4, Value.int IntKind.i64 x5],
 Value.agg #[Value.int IntKind.i64 x13, Value.int IntKind.i64 x14, Value.int IntKind.i64 x15, Value.int IntKind.i64 x16]]
 w12 fun (e17 : Ending) (w18 : World) =>
 ∃ (x19 : Int),
 ∃ (x20 : Int),
 ∃ (x21 : Int),
 ∃ (x22 : Int),
 ∃ (b23 : Bool),
 e17 = Ending.returned (Value.tuple #[Value.agg #[Value.int IntKind.i64 x19, Value.int IntKind.i64 x20, Value.int IntKind.i64 x21, Value.int IntKind.i64 x22], Value.bool b23]) ∧
 ∃ (ad24 : Addr),
 t = some ad24 ∧
 OpW Proofs.Try.prog
 (skipS
 (Instr.storeAt 65 (Value.pointer (some (Addr.mk ad24.block (ad24.off + 7) none)))
 (Value.agg #[Value.int IntKind.i64 x19, Value.int IntKind.i64 x20, Value.int IntKind.i64 x21, Value.int IntKind.i64 x22])))
 w18 fun (v25 : Value) (w26 : World) =>
 ∃ (ad27 : Addr),
 t = some ad27 ∧
 ∃ (x28 : Int),
 ∃ (x29 : Int),
 ∃ (x30 : Int),
 ∃ (x31 : Int),
 Reads Proofs.Try.prog [] (Instr.loadAt 65 (Value.pointer (some (Addr.mk ad27.block (ad27.off + 7) none)))) w26
 (Value.agg #[Value.int IntKind.i64 x28, Value.int IntKind.i64 x29, Value.int IntKind.i64 x30, Value.int IntKind.i64 x31]) ∧
 ∀ (w32 : World),
 Bel w26 w32 →
 Calls Proofs.Try.prog 50 #[Value.slice freea freen freec] w32 fun (e33 : Ending) (w34 : World) =>
 ∃ (x35 : Int),
 ∃ (x36 : Int),
 ∃ (x37 : Int),
 ∃ (x38 : Int),
 e33 = Ending.returned (Value.agg #[Value.int IntKind.i64 x35, Value.int IntKind.i64 x36, Value.int IntKind.i64 x37, Value.int IntKind.i64 x38]) ∧
 Reads Proofs.Try.prog [] (Instr.loadAt 65 (Value.pointer (some (Addr.mk ad27.block (ad27.off + 7) none)))) w34
 (Value.agg #[Value.int IntKind.i64 x28, Value.int IntKind.i64 x29, Value.int IntKind.i64 x30, Value.int IntKind.i64 x31]) ∧
 Calls Proofs.Try.prog 49
 #[Value.agg #[Value.int IntKind.i64 x28, Value.int IntKind.i64 x29, Value.int IntKind.i64 x30, Value.int IntKind.i64 x31],
 Value.agg #[Value.int IntKind.i64 x35, Value.int IntKind.i64 x36, Value.int IntKind.i64 x37, Value.int IntKind.i64 x38]]
 w34 fun (e39 : Ending) (w40 : World) =>
 ∃ (x41 : Int),
 ∃ (x42 : Int),
 ∃ (x43 : Int),
 ∃ (x44 : Int),
 ∃ (b45 : Bool),
 e39 =
 Ending.returned
 (Value.tuple
 #[Value.agg #[Value.int IntKind.i64 x41, Value.int IntKind.i64 x42, Value.int IntKind.i64 x43, Value.int IntKind.i64 x44],
 Value.bool b45]) ∧
 ∃ (ad46 : Addr),
 t = some ad46 ∧
 OpW Proofs.Try.prog
 (skipS
 (Instr.storeAt 65 (Value.pointer (some (Addr.mk ad46.block (ad46.off + 7) none)))
 (Value.agg
 #[Value.int IntKind.i64 x41, Value.int IntKind.i64 x42, Value.int IntKind.i64 x43, Value.int IntKind.i64 x44])))
 w40 fun (v47 : Value) (w48 : World) =>
 ∃ (ad49 : Addr),
 a = some ad49 ∧
 OpW Proofs.Try.prog
 (skipS
 (Instr.storeAt 23 (Value.pointer (some (Addr.mk ad49.block (ad49.off + 2) none))) (Value.slice freea freen freec)))
 w48 fun (v50 : Value) (w51 : World) => R (Ending.returned (Value.tuple #[])) w51
theorem f99_eq (t : Option Addr) (a : Option Addr) (freea : Option Addr) (freen : Nat) (freec : Nat) (w : World) (R : Ending → World → Prop) : (fnF Go.Proofs.Try.prog h99 Go.Proofs.Try.f99 [Value.pointer t, Value.pointer a, Value.slice freea freen freec] w R).den = f99_vc t a freea freen freec w R := by kernel_rfl
theorem f99_calls (t : Option Addr) (a : Option Addr) (freea : Option Addr) (freen : Nat) (freec : Nat) (w : World) (R : Ending → World → Prop) (h : f99_vc t a freea freen freec w R) : Calls Go.Proofs.Try.prog 99 (List.toArray [Value.pointer t, Value.pointer a, Value.slice freea freen freec]) w R :=
 fn_sound (H := h99) (fn := Go.Proofs.Try.f99) (by kernel_rfl) (by kernel_rfl) (by kernel_rfl) ((f99_eq t a freea freen freec w R).mpr h)

end Vct

/- Tables of agents in memory. -/
set_option maxRecDepth 20000
set_option maxHeartbeats 1000000
namespace Go.Vc.J
open Go Go.Vc Go.Vc.V Go.RowKit Go.Proofs Vct

variable {w W W' W2 : World} {M N : Nat → Prop} {gs ds : List Nat}

/-- A vector in its own memory, or none. -/
def VB (W : World) (l : List PartT) (s : Sl3) : Prop := SlE W 3 partE l s.1 s.2.1 s.2.2 ∧ ∀ ad, s.1 = some ad → ∃ cur, W.heap[ad.block]? = some (.cells cur 73 (0, 0))
theorem VB.chg {l : List PartT} {s : Sl3} (h : VB W l s) (hc : Chg N W W') (hN : ∀ b cur, N b → W.heap[b]? ≠ some (.cells cur 73 (0, 0))) : VB W' l s :=
  ⟨sle_chg h.1 hc fun b hb hn => by
    obtain ⟨cur, hcur⟩ := h.2 b hb
    exact hN _ cur hn hcur, fun ad hb => by
    obtain ⟨cur, hcur⟩ := h.2 ad hb
    exact ⟨cur, (hc.block _ (Array.getElem?_eq_some_iff.1 hcur).1 fun hn => hN _ cur hn hcur).trans hcur⟩⟩
theorem VB.call {l : List PartT} {s : Sl3} (h : VB W l s) (hb : Bel W W') : VB W' l s := h.chg (N := noB) (Chg.of_below hb) fun _ _ e => e.elim
theorem VB.of_own {l : List PartT} {a : Option Addr} {c : Nat} (ho : OwnF w M gs W 73 3 partE (.slice a l.length c) l) : VB W l (a, l.length, c) :=
  ⟨ho.sl fun _ _ => rfl, fun ad hb => by
    rcases ho.row0.2 with ⟨hv, _⟩ | ⟨g', cap', cur, hv, _, hgg, _⟩
    · obtain ⟨rfl, _⟩ := Value.slice.inj hv
      cases hb
    · obtain ⟨rfl, _⟩ := Value.slice.inj hv
      cases hb
      exact ⟨cur, hgg⟩⟩
abbrev slV (s : Sl3) : Value := .slice s.1 s.2.1 s.2.2
abbrev AgD := List PartT × List PartT
abbrev AgE := Nat × AgD × (Sl3 × Sl3)
abbrev AgM := List (Int × AgE)
abbrev agC (i : Int) (s : Sl3 × Sl3) : List Value := [.int .i64 i, slV s.1, slV s.2]
abbrev tbC (cap most : Int) (r : Nat) (su fr : Ar4) : List Value := [.int .i64 cap, .int .i64 most, .map (some r), .int .i64 su.1, .int .i64 su.2.1, .int .i64 su.2.2.1, .int .i64 su.2.2.2, .int .i64 fr.1, .int .i64 fr.2.1, .int .i64 fr.2.2.1, .int .i64 fr.2.2.2]
abbrev agP (x : AgE) : Value := ptr x.1
def okE (x : Int × AgE) : Prop := vecB x.2.2.1.1 = true ∧ vecB x.2.2.1.2 = true
structure AgS (W : World) (g r : Nat) (cap most : Int) (su fr : Ar4) (m : AgM) : Prop where
  tb : W.heap[g]? = some (.cells (tbC cap most r su fr).toArray 92 (0, 0))
  mp : OwnM W (fun b => b = r) [] W r (Value.int .i64) agP m
  nd : (m.map (·.1)).Nodup
  ag : ∀ x ∈ m, W.heap[x.2.1]? = some (.cells (agC x.1 x.2.2.2).toArray 89 (0, 0))
  vT : ∀ x ∈ m, VB W x.2.2.1.1 x.2.2.2.1
  vF : ∀ x ∈ m, VB W x.2.2.1.2 x.2.2.2.2
  ok : ∀ x ∈ m, okE x
/-- The table's blocks. -/
def Bk (g r : Nat) (m : AgM) : Nat → Prop := fun b => b = g ∨ b = r ∨ ∃ x ∈ m, b = x.2.1
variable {g r : Nat} {cap most : Int} {su fr : Ar4} {m : AgM}
theorem AgS.glt (h : AgS W g r cap most su fr m) : g < W.heap.size := (Array.getElem?_eq_some_iff.1 h.tb).1
theorem AgS.rlt (h : AgS W g r cap most su fr m) : r < W.heap.size := h.mp.lt
theorem AgS.alt (h : AgS W g r cap most su fr m) {x : Int × AgE} (hx : x ∈ m) : x.2.1 < W.heap.size := (Array.getElem?_eq_some_iff.1 (h.ag x hx)).1
theorem AgS.lt (h : AgS W g r cap most su fr m) : ∀ b, Bk g r m b → b < W.heap.size := by
  rintro b (rfl | rfl | ⟨x, hx, rfl⟩)
  · exact h.glt
  · exact h.rlt
  · exact h.alt hx
theorem AgS.gr (h : AgS W g r cap most su fr m) : g ≠ r := fun e => by
  obtain ⟨es, cl, h1, _⟩ := h.mp.obj
  have := h.tb
  rw [e, h1] at this
  cases this
theorem AgS.ga (h : AgS W g r cap most su fr m) {x : Int × AgE} (hx : x ∈ m) : g ≠ x.2.1 := cells_ne h.tb (h.ag x hx) (by decide)
theorem AgS.ra (h : AgS W g r cap most su fr m) {x : Int × AgE} (hx : x ∈ m) : r ≠ x.2.1 := fun e => by
  obtain ⟨es, cl, h1, _⟩ := h.mp.obj
  have := h.ag x hx
  rw [← e, h1] at this
  cases this
theorem AgS.aa (h : AgS W g r cap most su fr m) {x y : Int × AgE} (hx : x ∈ m) (hy : y ∈ m) (e : x.2.1 = y.2.1) : x.1 = y.1 := by
  have h1 := h.ag x hx
  have h2 := h.ag y hy
  rw [e, h2] at h1
  injection h1 with h1
  injection h1 with h1
  have h3 := congrArg (fun a => a.toList.head?) h1
  simp at h3
  exact h3.symm
/-- None of the table's blocks holds a vector. -/
theorem AgS.no (h : AgS W g r cap most su fr m) : ∀ b cur, Bk g r m b → W.heap[b]? ≠ some (.cells cur 73 (0, 0)) := by
  rintro b cur (rfl | rfl | ⟨x, hx, rfl⟩) e
  · exact cells_ne h.tb e (by decide) rfl
  · obtain ⟨es, cl, h1, _⟩ := h.mp.obj
    rw [h1] at e
    cases e
  · exact cells_ne (h.ag x hx) e (by decide) rfl
theorem AgS.call (h : AgS W g r cap most su fr m) (hb : Bel W W') : AgS W' g r cap most su fr m :=
  ⟨(hb.block h.glt).trans h.tb, OwnM.re h.mp (hb.block h.rlt) (.inr rfl) (by simp), h.nd, fun x hx => (hb.block (h.alt hx)).trans (h.ag x hx), fun x hx => (h.vT x hx).call hb, fun x hx => (h.vF x hx).call hb, h.ok⟩
/-- The table's own block is written. -/
theorem AgS.tab {su' fr' : Ar4} (h : AgS W g r cap most su fr m) (hc : Chg (fun b => b = g) W W') (hg : W'.heap[g]? = some (.cells (tbC cap most r su' fr').toArray 92 (0, 0))) : AgS W' g r cap most su' fr' m := by
  have hno : ∀ b cur, b = g → W.heap[b]? ≠ some (.cells cur 73 (0, 0)) := fun b cur e => h.no b cur (.inl e)
  exact ⟨hg, OwnM.re h.mp (hc.block r h.rlt fun e => h.gr e.symm) (.inr rfl) (by simp), h.nd, fun x hx => (hc.block _ (h.alt hx) fun e => h.ga hx e.symm).trans (h.ag x hx), fun x hx => (h.vT x hx).chg hc hno, fun x hx => (h.vF x hx).chg hc hno, h.ok⟩
theorem mget_of_mem {m : AgM} (hn : (m.map (·.1)).Nodup) {x : Int × AgE} (hx : x ∈ m) : mget x.1 m = some x.2 := by
  induction m with
  | nil => cases hx
  | cons y m ih =>
    rw [List.map_cons, List.nodup_cons] at hn
    unfold mget
    rcases List.mem_cons.1 hx with rfl | hx
    · rw [if_pos rfl]
    · rw [if_neg, ih hn.2 hx]
      intro e
      exact hn.1 (List.mem_map.2 ⟨x, hx, e⟩)
def setE (m : AgM) (i : Int) (d : AgD × (Sl3 × Sl3)) : AgM := m.map fun x => if x.1 = i then (x.1, (x.2.1, d)) else x
theorem setE_keys (i : Int) (d : AgD × (Sl3 × Sl3)) : (setE m i d).map (fun x => (x.1, x.2.1)) = m.map fun x => (x.1, x.2.1) := by
  unfold setE
  rw [List.map_map]
  refine List.map_congr_left fun x _ => ?_
  simp only [Function.comp]
  split <;> rfl
theorem mem_setE {i : Int} {d : AgD × (Sl3 × Sl3)} {y : Int × AgE} (h : y ∈ setE m i d) : ∃ x ∈ m, y.1 = x.1 ∧ y.2.1 = x.2.1 ∧ ((x.1 = i ∧ y.2.2 = d) ∨ (x.1 ≠ i ∧ y = x)) := by
  obtain ⟨x, hx, rfl⟩ := List.mem_map.1 h
  refine ⟨x, hx, ?_⟩
  split
  · rename_i he; exact ⟨rfl, rfl, .inl ⟨he, rfl⟩⟩
  · rename_i he; exact ⟨rfl, rfl, .inr ⟨he, rfl⟩⟩
theorem Bk_setE (i : Int) (d : AgD × (Sl3 × Sl3)) (b : Nat) : Bk g r (setE m i d) b ↔ Bk g r m b := by
  unfold Bk
  have : (∃ x ∈ setE m i d, b = x.2.1) ↔ ∃ x ∈ m, b = x.2.1 := by
    constructor
    · rintro ⟨y, hy, rfl⟩
      obtain ⟨x, hx, _, e, _⟩ := mem_setE hy
      exact ⟨x, hx, e⟩
    · rintro ⟨x, hx, rfl⟩
      refine ⟨_, List.mem_map.2 ⟨x, hx, rfl⟩, ?_⟩
      split <;> rfl
  rw [this]
/-- An agent's block is written. -/
theorem AgS.one {x : Int × AgE} {d : AgD × (Sl3 × Sl3)} (h : AgS W g r cap most su fr m) (hx : x ∈ m) (hc : Chg (fun b => b = x.2.1) W W') (hb : W'.heap[x.2.1]? = some (.cells (agC x.1 d.2).toArray 89 (0, 0)))
    (h1 : VB W d.1.1 d.2.1) (h2 : VB W d.1.2 d.2.2) (hok : okE (x.1, (x.2.1, d))) : AgS W' g r cap most su fr (setE m x.1 d) := by
  have hno : ∀ b cur, b = x.2.1 → W.heap[b]? ≠ some (.cells cur 73 (0, 0)) := fun b cur e => h.no b cur (.inr (.inr ⟨x, hx, e⟩))
  have hxx : ∀ y ∈ m, y.1 = x.1 → y.2.1 = x.2.1 := fun y hy e => by
    have h1 := mget_of_mem h.nd hy
    have h2 := mget_of_mem h.nd hx
    rw [e, h2] at h1
    rw [Option.some.inj h1]
  refine ⟨(hc.block g h.glt fun e => h.ga hx e).trans h.tb, ?_, ?_, fun y hy => ?_, fun y hy => ?_, fun y hy => ?_, fun y hy => ?_⟩
  · have hre := OwnM.re (w1 := W') (M1 := fun b => b = r) (gs1 := []) h.mp (hc.block r h.rlt fun e => h.ra hx e) (.inr rfl) (by simp)
    obtain ⟨es, cl, e1, e2, e3⟩ := hre.obj
    refine ⟨hre.mine, hre.apart, es, cl, e1, ?_, e3⟩
    unfold EntR at e2 ⊢
    rw [e2]
    have := congrArg (List.map fun z : Int × Nat => ((Value.int .i64 z.1), ptr z.2)) (setE_keys (m := m) x.1 d)
    rw [List.map_map, List.map_map] at this
    exact this.symm
  · have := congrArg (List.map fun z : Int × Nat => z.1) (setE_keys (m := m) x.1 d)
    rw [List.map_map, List.map_map] at this
    have e : (setE m x.1 d).map (·.1) = m.map (·.1) := this
    rw [e]
    exact h.nd
  · obtain ⟨z, hz, e1, e2, ⟨e3, e4⟩ | ⟨e3, rfl⟩⟩ := mem_setE hy
    · rw [e2, hxx z hz e3, e1, e3, e4]
      exact hb
    · exact (hc.block _ (h.alt hz) fun e => e3 (h.aa hz hx e)).trans (h.ag _ hz)
  · obtain ⟨z, hz, e1, e2, ⟨e3, e4⟩ | ⟨e3, rfl⟩⟩ := mem_setE hy
    · rw [e4]; exact h1.chg hc hno
    · exact (h.vT _ hz).chg hc hno
  · obtain ⟨z, hz, e1, e2, ⟨e3, e4⟩ | ⟨e3, rfl⟩⟩ := mem_setE hy
    · rw [e4]; exact h2.chg hc hno
    · exact (h.vF _ hz).chg hc hno
  · obtain ⟨z, hz, e1, e2, ⟨e3, e4⟩ | ⟨e3, rfl⟩⟩ := mem_setE hy
    · unfold okE at hok ⊢
      rw [e4]
      exact hok
    · exact h.ok _ hz
/-- No table that New made. -/
def NoA (W : World) (t : Option Addr) : Prop := t = none ∨ ∃ g, t = some ⟨g, 0, none⟩ ∧ W.heap[g]? = some (.cells ([.int .i64 0, .int .i64 0, .map none, .int .i64 0, .int .i64 0, .int .i64 0, .int .i64 0, .int .i64 0, .int .i64 0, .int .i64 0, .int .i64 0] : List Value).toArray 92 (0, 0))
theorem NoA.call {t : Option Addr} (h : NoA W t) (hb : Bel W W') : NoA W' t := h.imp id fun ⟨g, e, hg⟩ => ⟨g, e, (hb.block (Array.getElem?_eq_some_iff.1 hg).1).trans hg⟩
theorem AgS.rdR (h : AgS W g r cap most su fr m) (hd : ∀ d ∈ ds, d ≠ g) : Reads Try.prog ds (Instr.loadAt 90 (.pointer (some (Addr.mk g (0 + 2) none)))) W (.map (some r)) := rd_f 1 h.tb rfl (by kernel_rfl) hd
theorem AgS.rdS (h : AgS W g r cap most su fr m) (hd : ∀ d ∈ ds, d ≠ g) : Reads Try.prog ds (Instr.loadAt 65 (.pointer (some (Addr.mk g (0 + 3) none)))) W (a4V su) := ((elt_cells h.tb).sub (o := 3) (by decide)).agg 4 (by kernel_rfl) (by kernel_rfl) (by simp) hd
theorem AgS.rdF (h : AgS W g r cap most su fr m) (hd : ∀ d ∈ ds, d ≠ g) : Reads Try.prog ds (Instr.loadAt 65 (.pointer (some (Addr.mk g (0 + 7) none)))) W (a4V fr) := ((elt_cells h.tb).sub (o := 7) (by decide)).agg 4 (by kernel_rfl) (by kernel_rfl) (by simp) hd
theorem AgS.rdC (h : AgS W g r cap most su fr m) (hd : ∀ d ∈ ds, d ≠ g) : Reads Try.prog ds (Instr.loadAt 3 (ptr g)) W (.int .i64 cap) := rd_f0 h.tb (by kernel_rfl) hd
theorem AgS.rdM (h : AgS W g r cap most su fr m) (hd : ∀ d ∈ ds, d ≠ g) : Reads Try.prog ds (Instr.loadAt 2 (.pointer (some (Addr.mk g (0 + 1) none)))) W (.int .i64 most) := rd_f 0 h.tb rfl (by kernel_rfl) hd
theorem AgS.rdI (h : AgS W g r cap most su fr m) {x : Int × AgE} (hx : x ∈ m) (hd : ∀ d ∈ ds, d ≠ x.2.1) : Reads Try.prog ds (Instr.loadAt 2 (ptr x.2.1)) W (.int .i64 x.1) := rd_f0 (h.ag x hx) (by kernel_rfl) hd
theorem AgS.rdT (h : AgS W g r cap most su fr m) {x : Int × AgE} (hx : x ∈ m) (hd : ∀ d ∈ ds, d ≠ x.2.1) : Reads Try.prog ds (Instr.loadAt 23 (.pointer (some (Addr.mk x.2.1 (0 + 1) none)))) W (slV x.2.2.2.1) := rd_f 0 (h.ag x hx) rfl (by kernel_rfl) hd
theorem AgS.rdV (h : AgS W g r cap most su fr m) {x : Int × AgE} (hx : x ∈ m) (hd : ∀ d ∈ ds, d ≠ x.2.1) : Reads Try.prog ds (Instr.loadAt 23 (.pointer (some (Addr.mk x.2.1 (0 + 2) none)))) W (slV x.2.2.2.2) := rd_f 1 (h.ag x hx) rfl (by kernel_rfl) hd
theorem c90 (h : AgS W g r cap most su fr m) : Ret Try.prog 90 #[ptr g] W (.bool true) := by
  intro R hR
  refine f90_calls _ W R ?_
  unfold f90_vc
  exact ⟨true, (fun W => rfl), brB (fun _ => ⟨_, rfl, _, h.rdR nod, true, (fun W => rfl), leaf hR (At.refl W) rfl⟩) (fun e => by cases e)⟩
theorem c90n {t : Option Addr} (h : NoA W t) : Ret Try.prog 90 #[.pointer t] W (.bool false) := by
  intro R hR
  refine f90_calls _ W R ?_
  unfold f90_vc
  rcases h with rfl | ⟨g, rfl, hg⟩
  · exact ⟨false, (fun W => rfl), brB (fun e => by cases e) (fun _ => leaf hR (At.refl W) rfl)⟩
  · exact ⟨true, (fun W => rfl), brB (fun _ => ⟨_, rfl, _, rd_f 1 hg rfl (by kernel_rfl) nod, false, (fun W => rfl), leaf hR (At.refl W) rfl⟩) (fun e => by cases e)⟩
theorem c39 (cap most : Int) (w : World) : RetQ Try.prog 39 #[.int .i64 cap, .int .i64 most] w fun v w' => ((cap < 1 ∨ most < 1 ∨ most > 9007199254740992) ∧ v = .pointer none) ∨ ((1 ≤ cap ∧ 1 ≤ most ∧ most ≤ 9007199254740992) ∧ ∃ g r, v = ptr g ∧ AgS w' g r cap most zA zA [] ∧ w.heap.size ≤ g ∧ w.heap.size ≤ r) := by
  intro R h
  refine f39_calls cap most w R ?_
  unfold f39_vc
  refine brD (fun hlt => h _ _ (Bel.refl _) (.inl ⟨.inl hlt, rfl⟩)) (fun hge => brD (fun hlt => h _ _ (Bel.refl _) (.inl ⟨.inr (.inl hlt), rfl⟩)) (fun hge2 => brD (fun hlt => h _ _ (Bel.refl _) (.inl ⟨.inr (.inr hlt), rfl⟩)) (fun hge3 => ?_)))
  refine opw_makeMap (kf := Value.int .i64) (vf := agP) (At.refl w) fun r w2 hr hA _ hb2 ho => ⟨_, rfl, ?_⟩
  refine opw_boxS hA fun g w5 hg hA _ hb5 hblk => ⟨_, rfl, ?_⟩
  have hr5 : w5.heap[r]? = w2.heap[r]? := hb5.block ho.lt
  refine h _ _ hA.below (.inr ⟨⟨by omega, by omega, by omega⟩, g, r, rfl, ⟨hblk, OwnM.re ho hr5 (.inr rfl) (by simp), by simp, by simp, by simp, by simp, by simp⟩, ?_, ?_⟩)
  · have := hb2.size; omega
  · omega
/-- What find tells. -/
def findV (m : AgM) (i : Int) : Value := match mget i m with
  | none => .tuple #[.pointer none, .int .i64 43]
  | some x => .tuple #[ptr x.1, .int .i64 0]
theorem c97 (i : Int) (h : AgS W g r cap most su fr m) : Ret Try.prog 97 #[ptr g, .int .i64 i] W (findV m i) := by
  intro R hR
  refine f97_calls _ i W R ?_
  unfold f97_vc
  refine at_callb (At.refl W) (c90 h) fun w2 hA hk hb2 => ⟨_, rfl, brNB (fun e => by cases e) (fun _ => ?_)⟩
  have h := h.call hb2
  refine ⟨_, rfl, _, h.rdR nod, ?_⟩
  have hl := reads_lookup2 (P := Try.prog) (t := 90) (et := 144) (z := .pointer none) (keyOk_int (P := Try.prog) (kt := 2) (q := .i64) (by kernel_rfl)) (by kernel_rfl) (by kernel_rfl) (h.mp) i (ds := []) nod
  unfold findV at hR
  cases hx : mget i m with
  | none =>
    rw [hx] at hl hR
    exact ⟨_, _, hl, brNB (fun _ => leaf hR hA rfl) (fun e => by cases e)⟩
  | some x =>
    rw [hx] at hl hR
    exact ⟨_, _, hl, brNB (fun e => by cases e) (fun _ => leaf hR hA rfl)⟩
theorem c97n {t : Option Addr} (i : Int) (h : NoA W t) : Ret Try.prog 97 #[.pointer t, .int .i64 i] W (.tuple #[.pointer none, .int .i64 40]) := by
  intro R hR
  refine f97_calls _ i W R ?_
  unfold f97_vc
  exact at_callb (At.refl W) (c90n h) fun w2 hA hk hb2 => ⟨_, rfl, brNB (fun _ => leaf hR hA rfl) (fun e => by cases e)⟩
theorem c40 (h : AgS W g r cap most su fr m) : Ret Try.prog 40 #[ptr g] W (a4V su) := by
  intro R hR
  refine f40_calls _ W R ?_
  unfold f40_vc
  intro n1 hn1 w2 hb2 hu2
  have hA : At W [n1] w2 := ⟨((At.refl W).call hb2).chg, hu2⟩
  refine at_callb hA (c90 (h.call hb2)) fun w4 hA hk hb4 => ⟨_, rfl, hk, brNB (fun e => by cases e) (fun _ => ?_)⟩
  have h := h.call (hb2.trans hb4)
  exact ⟨_, rfl, _, _, _, _, h.rdS nod, fun w12 hev hu => leaf hR (hA.evo (by simp; omega) hev hu) rfl⟩
theorem c48 (h : AgS W g r cap most su fr m) : Ret Try.prog 48 #[ptr g] W (a4V fr) := by
  intro R hR
  refine f48_calls _ W R ?_
  unfold f48_vc
  intro n1 hn1 w2 hb2 hu2
  have hA : At W [n1] w2 := ⟨((At.refl W).call hb2).chg, hu2⟩
  refine at_callb hA (c90 (h.call hb2)) fun w4 hA hk hb4 => ⟨_, rfl, hk, brNB (fun e => by cases e) (fun _ => ?_)⟩
  have h := h.call (hb2.trans hb4)
  exact ⟨_, rfl, _, _, _, _, h.rdF nod, fun w12 hev hu => leaf hR (hA.evo (by simp; omega) hev hu) rfl⟩
theorem c40n {t : Option Addr} (h : NoA W t) : Ret Try.prog 40 #[.pointer t] W (a4V zA) := by
  intro R hR
  refine f40_calls _ W R ?_
  unfold f40_vc
  intro n1 hn1 w2 hb2 hu2
  have hA : At W [n1] w2 := ⟨((At.refl W).call hb2).chg, hu2⟩
  exact at_callb hA (c90n (h.call hb2)) fun w4 hA hk hb4 => ⟨_, rfl, hk, brNB (fun _ w6 hev hu => leaf hR (hA.evo (by simp; omega) hev hu) rfl) (fun e => by cases e)⟩
end Go.Vc.J

/- Agents: what is taken, given, turned, lost. -/
set_option maxRecDepth 20000
set_option maxHeartbeats 1000000
namespace Go.Vc.J
open Go Go.Vc Go.Vc.V Go.RowKit Go.Proofs Vct

variable {w W W' W2 : World} {M N : Nat → Prop} {gs ds : List Nat} {g r : Nat} {cap most : Int} {su fr : Ar4} {m : AgM} {B : Nat → Prop}

def adE (x y : Ar4) : Ar4 := if addC x y then addA x y else zA
def sbC (x y : Ar4) : Prop := sumH x.1 x.2.1 x.2.2.1 x.2.2.2 y.1 y.2.1 y.2.2.1 y.2.2.2
instance (x y : Ar4) : Decidable (sbC x y) := by unfold sbC; infer_instance
def sbE (x y : Ar4) : Ar4 := if sbC x y then (x.1 - y.1, x.2.1 - y.2.1, x.2.2.1 - y.2.2.1, x.2.2.2 - y.2.2.2) else zA
theorem c49e (x y : Ar4) (W : World) : Ret Try.prog 49 #[a4V x, a4V y] W (.tuple #[a4V (adE x y), .bool (decide (addC x y))]) := by
  by_cases h : addC x y
  · have := c49ok h W
    unfold adE
    rwa [if_pos h, decide_eq_true h]
  · have := c49no h W
    unfold adE
    rwa [if_neg h, decide_eq_false h]
theorem c100e (x y : Ar4) (W : World) : Ret Try.prog 100 #[a4V x, a4V y] W (.tuple #[a4V (sbE x y), .bool (decide (sbC x y))]) := by
  have := c100 x.1 x.2.1 x.2.2.1 x.2.2.2 y.1 y.2.1 y.2.2.1 y.2.2.2 W
  unfold sumS at this
  unfold sbE
  by_cases h : sbC x y
  · rw [if_pos h, decide_eq_true h]
    rwa [if_pos (show sumH _ _ _ _ _ _ _ _ from h)] at this
  · rw [if_neg h, decide_eq_false h]
    rwa [if_neg (show ¬ sumH _ _ _ _ _ _ _ _ from h)] at this
/-- The table's second sums are written. -/
theorem at_stF {fr' : Ar4} {K : Value → World → Prop} (hA : AtF w M gs W) (h : AgS W g r cap most su fr m) (hm : w.heap.size ≤ g ∨ M g) (hgs : g ∉ gs)
    (hK : ∀ w', AtF w M gs w' → Keeps gs W w' → Chg (fun b => b = g) W w' → AgS w' g r cap most su fr' m → K undef w') : OpW Try.prog (skipS (Instr.storeAt 65 (.pointer (some (Addr.mk g (0 + 7) none))) (a4V fr'))) W K :=
  opw_storeF (cells' := tbC cap most r su fr') hA h.tb hm hgs (by kernel_rfl) fun w' hA hk hc hg => hK w' hA hk hc (h.tab hc hg)
theorem at_stS {su' : Ar4} {K : Value → World → Prop} (hA : AtF w M gs W) (h : AgS W g r cap most su fr m) (hm : w.heap.size ≤ g ∨ M g) (hgs : g ∉ gs)
    (hK : ∀ w', AtF w M gs w' → Keeps gs W w' → Chg (fun b => b = g) W w' → AgS w' g r cap most su' fr m → K undef w') : OpW Try.prog (skipS (Instr.storeAt 65 (.pointer (some (Addr.mk g (0 + 3) none))) (a4V su'))) W K :=
  opw_storeF (cells' := tbC cap most r su' fr) hA h.tb hm hgs (by kernel_rfl) fun w' hA hk hc hg => hK w' hA hk hc (h.tab hc hg)

theorem c99 {x : Int × AgE} (h : AgS W g r cap most su fr m) (hx : x ∈ m) {F : List PartT} {s : Sl3} (hv : VB W F s) (hF : vecB F = true) : RetF Try.prog 99 #[ptr g, ptr x.2.1, slV s] W (Bk g r m) fun v W' => v = .tuple #[] ∧ AgS W' g r cap most su (adE (sbE fr (ofA x.2.2.1.2)) (ofA F)) (setE m x.1 ((x.2.2.1.1, F), (x.2.2.2.1, s))) := by
  intro R hR
  refine f99_calls _ _ _ _ _ W R ?_
  unfold f99_vc
  have hA : AtF W (Bk g r m) [] W := AtF.refl W _
  refine ⟨_, rfl, _, _, _, _, h.rdF nod, _, rfl, _, _, _, h.rdV hx nod, fun w10 hb10 => ?_⟩
  have hA := hA.call hb10
  have h10 := h.call hb10
  refine at_callb hA (c50' w10 (h10.vF x hx).1) fun w12 hA hk hb12 => ⟨_, _, _, _, rfl, ?_⟩
  have h12 := h10.call hb12
  refine ⟨h12.rdF nod, ?_⟩
  refine at_callb hA (c100e fr (ofA x.2.2.1.2) w12) fun w18 hA hk hb18 => ⟨_, _, _, _, _, rfl, _, rfl, ?_⟩
  have h18 := h12.call hb18
  have hv18 := hv.call ((hb10.trans hb12).trans hb18)
  refine at_stF (fr' := sbE fr (ofA x.2.2.1.2)) hA h18 (.inr (.inl rfl)) (by simp) fun w26 hA hk hc26 h26 => ⟨_, rfl, _, _, _, _, h26.rdF nod, fun w32 hb32 => ?_⟩
  have hv26 := hv18.chg hc26 fun b cur e => h18.no b cur (.inl e)
  have hA := hA.call hb32
  have h32 := h26.call hb32
  have hv32 := hv26.call hb32
  refine at_callb hA (c50' w32 hv32.1) fun w34 hA hk hb34 => ⟨_, _, _, _, rfl, ?_⟩
  have h34 := h32.call hb34
  refine ⟨h34.rdF nod, ?_⟩
  refine at_callb hA (c49e (sbE fr (ofA x.2.2.1.2)) (ofA F) w34) fun w40 hA hk hb40 => ⟨_, _, _, _, _, rfl, _, rfl, ?_⟩
  have h40 := h34.call hb40
  have hv40 := hv32.call (hb34.trans hb40)
  refine at_stF (fr' := adE (sbE fr (ofA x.2.2.1.2)) (ofA F)) hA h40 (.inr (.inl rfl)) (by simp) fun w48 hA hk hc48 h48 => ⟨_, rfl, ?_⟩
  have hv48 := hv40.chg hc48 fun b cur e => h40.no b cur (.inl e)
  refine opw_storeF (cells' := agC x.1 (x.2.2.2.1, s)) hA (h48.ag x hx) (.inr (.inr (.inr ⟨x, hx, rfl⟩))) (by simp) (by kernel_rfl) fun w51 hA hk hc51 hb51 => ?_
  refine hR _ _ hA.chg ⟨rfl, h48.one hx hc51 hb51 (h48.vT x hx) hv48 ?_⟩
  exact ⟨(h.ok x hx).1, hF⟩
/-! ### The table, plainly -/
abbrev AgL := List (Int × AgD)
abbrev AgQ := Ar4 × Ar4 × AgL
def pl (m : AgM) : AgL := m.map fun x => (x.1, x.2.2.1)
def setD (D : AgL) (i : Int) (d : AgD) : AgL := D.map fun x => if x.1 = i then (x.1, d) else x
theorem pl_setE (m : AgM) (i : Int) (d : AgD × (Sl3 × Sl3)) : pl (setE m i d) = setD (pl m) i d.1 := by
  unfold pl setE setD
  rw [List.map_map, List.map_map]
  refine List.map_congr_left fun x _ => ?_
  simp only [Function.comp]
  split <;> rfl
theorem mget_pl (m : AgM) (i : Int) : mget i (pl m) = (mget i m).map (·.2.1) := by
  unfold pl
  induction m with
  | nil => rfl
  | cons x m ih =>
    rw [List.map_cons]
    unfold mget
    split
    · rfl
    · exact ih
/-- A table whose blocks are of B. -/
def AgX (W : World) (B : Nat → Prop) (g : Nat) (cap most : Int) (q : AgQ) : Prop := ∃ r m, AgS W g r cap most q.1 q.2.1 m ∧ pl m = q.2.2 ∧ ∀ b, Bk g r m b → B b
variable {q : AgQ}
theorem AgX.call (h : AgX W B g cap most q) (hb : Bel W W') : AgX W' B g cap most q := by
  obtain ⟨r, m, h1, h2⟩ := h
  exact ⟨r, m, h1.call hb, h2⟩
theorem AgX.mono {B' : Nat → Prop} (h : AgX W B g cap most q) (hb : ∀ b, b < W.heap.size → B b → B' b) : AgX W B' g cap most q := by
  obtain ⟨r, m, h1, h2, h3⟩ := h
  exact ⟨r, m, h1, h2, fun b hbk => hb b (h1.lt b hbk) (h3 b hbk)⟩
def takeD (q : AgQ) (i : Int) (V : List PartT) : Int × AgQ := match mget i q.2.2 with
  | none => (43, q)
  | some d => if vecB V = true ∧ (vsub d.2 V).isSome = true then (0, (q.1, adE (sbE q.2.1 (ofA d.2)) (ofA (vout (vsub d.2 V))), setD q.2.2 i (d.1, vout (vsub d.2 V)))) else (30, q)
theorem find_cases {i : Int} {D : AgL} (_ : mget i m = mget i m) (hpl : pl m = D) : (findV m i = .tuple #[.pointer none, .int .i64 43] ∧ mget i D = none) ∨ ∃ x ∈ m, x.1 = i ∧ findV m i = .tuple #[ptr x.2.1, .int .i64 0] ∧ mget i D = some x.2.2.1 := by
  unfold findV
  rw [← hpl, mget_pl]
  cases hx : mget i m with
  | none => exact .inl ⟨rfl, rfl⟩
  | some x => exact .inr ⟨(i, x), mem_of_mget hx, rfl, rfl, rfl⟩
theorem vsub_no {a b : List PartT} (_ha : vecB a = true) (hc : ¬ (vecB b = true ∧ (vsub a b).isSome = true)) : (decide (vecB a = true ∧ vecB b = true) && (vsub a b).isSome) = false := by
  cases hs : (vsub a b).isSome with
  | false => simp
  | true =>
    rw [Bool.and_true]
    exact decide_eq_false fun hh => hc ⟨hh.2, hs⟩
theorem vadd_no {a b : List PartT} (_ha : vecB a = true) (hc : ¬ (vecB b = true ∧ (vadd a b).isSome = true)) : (decide (vecB a = true ∧ vecB b = true) && (vadd a b).isSome) = false := by
  cases hs : (vadd a b).isSome with
  | false => simp
  | true =>
    rw [Bool.and_true]
    exact decide_eq_false fun hh => hc ⟨hh.2, hs⟩
theorem c45 (h : AgX W B g cap most q) (i : Int) {V : List PartT} {a : Option Addr} {n c : Nat} (hV : SlE W 3 partE V a n c) : RetF Try.prog 45 #[ptr g, .int .i64 i, .slice a n c] W B fun v W' => v = .int .i64 (takeD q i V).1 ∧ AgX W' B g cap most (takeD q i V).2 := by
  intro R hR
  refine f45_calls _ _ _ _ _ W R ?_
  unfold f45_vc
  obtain ⟨r, m, h, hpl, hB⟩ := h
  have hA : AtF W (Bk g r m) [] W := AtF.refl W _
  refine at_callb hA (c97 i h) fun w2 hA hk hb2 => ?_
  have h2 := h.call hb2
  rcases find_cases (i := i) rfl hpl with ⟨e1, e2⟩ | ⟨x, hx, rfl, e1, e2⟩
  · rw [e1]
    have ht : takeD q i V = (43, q) := by unfold takeD; rw [e2]
    rw [ht] at hR
    exact ⟨_, _, rfl, brN (fun _ => hR _ _ (hA.chg.mono fun b _ => hB b) ⟨rfl, r, m, h2, hpl, hB⟩) (fun e => absurd e (by decide))⟩
  · rw [e1]
    refine ⟨_, _, rfl, brN (fun e => absurd rfl e) (fun _ => ⟨_, rfl, _, _, _, h2.rdV hx nod, ?_⟩)⟩
    obtain ⟨k1, k2⟩ := h.ok x hx
    have hc96 := c96 w2 (h2.vF x hx).1 (sle_keepC hV (KeepC.of_bel hb2))
    by_cases hc : vecB V = true ∧ (vsub x.2.2.1.2 V).isSome = true
    · obtain ⟨F', hF'⟩ := Option.isSome_iff_exists.1 hc.2
      have ht : takeD q x.1 V = (0, (q.1, adE (sbE q.2.1 (ofA x.2.2.1.2)) (ofA F'), setD q.2.2 x.1 (x.2.2.1.1, F'))) := by unfold takeD; rw [e2]; simp only; rw [if_pos hc, hF']; rfl
      rw [ht] at hR
      have hF2 : vecB F' = true := (vsub_amt k2 hc.1 hF').1
      rw [if_pos ⟨k2, hc.1⟩, decide_eq_true (⟨k2, hc.1⟩ : vecB x.2.2.1.2 = true ∧ vecB V = true), hF'] at hc96
      refine at_calllb hA hc96 (fun _ _ => rfl) fun a11 c13 w10 hA hk hb10 ho hs => ⟨_, _, _, _, rfl, brNB (fun e => by cases e) (fun _ => ?_)⟩
      have h10 := h2.call hb10
      have hvb := VB.of_own ho
      refine at_callF hA (c99 (F := F') (s := (a11, F'.length, c13)) h10 hx hvb hF2) (fun _ _ e => .inr e) (fun _ hb => by cases hb) fun v w16 hA hk hch ⟨e, h16⟩ => ⟨by rw [e], ?_⟩
      refine hR _ _ (hA.chg.mono fun b _ => hB b) ⟨rfl, r, _, h16, ?_, fun b hb => hB b ((Bk_setE _ _ b).1 hb)⟩
      rw [pl_setE, hpl]
    · have ht : takeD q x.1 V = (30, q) := by unfold takeD; rw [e2]; simp only; rw [if_neg hc]
      rw [ht] at hR
      rw [vsub_no k2 hc] at hc96
      refine at_calllb hA hc96 (fun x _ => rfl) fun a11 c13 w10 hA hk hb10 ho hs => ⟨_, _, _, _, rfl, brNB (fun _ => ?_) (fun e => by cases e)⟩
      exact hR _ _ (hA.chg.mono fun b _ => hB b) ⟨rfl, r, m, h2.call hb10, hpl, hB⟩
end Go.Vc.J

/- Agents: what is given back, turned, lost. -/
set_option maxRecDepth 20000
set_option maxHeartbeats 1000000
namespace Go.Vc.J
open Go Go.Vc Go.Vc.V Go.RowKit Go.Proofs Vct

variable {w W W' W2 : World} {M N : Nat → Prop} {gs ds : List Nat} {g r : Nat} {cap most : Int} {su fr : Ar4} {m : AgM} {B : Nat → Prop} {q : AgQ}

theorem vout_some (F : List PartT) : vout (some F) = F := rfl
def giveD (q : AgQ) (i : Int) (V : List PartT) : Int × AgQ := match mget i q.2.2 with
  | none => (43, q)
  | some d => if vecB V = true ∧ (vadd d.2 V).isSome = true then if (vsub d.1 (vout (vadd d.2 V))).isSome = true then (0, (q.1, adE (sbE q.2.1 (ofA d.2)) (ofA (vout (vadd d.2 V))), setD q.2.2 i (d.1, vout (vadd d.2 V)))) else (31, q) else (31, q)
theorem c43ok {l1 l2 : List PartT} {aa ba : Option Addr} {an ac bn bc : Nat} (w : World) (h1 : SlE w 3 partE l1 aa an ac) (h2 : SlE w 3 partE l2 ba bn bc) (k1 : vecB l1 = true) (k2 : vecB l2 = true) : Ret Try.prog 43 #[.slice aa an ac, .slice ba bn bc] w (.bool (vsub l1 l2).isSome) := by
  have := c43 w h1 h2
  rwa [decide_eq_true (⟨k1, k2⟩ : vecB l1 = true ∧ vecB l2 = true), Bool.true_and] at this
theorem c102e {l1 l2 : List PartT} {aa ba : Option Addr} {an ac bn bc : Nat} (w : World) (h1 : SlE w 3 partE l1 aa an ac) (h2 : SlE w 3 partE l2 ba bn bc) :
    RetLB Try.prog 102 #[.slice aa an ac, .slice ba bn bc] w 73 3 partE (if vecB l1 = true ∧ vecB l2 = true then vout (vadd l1 l2) else []) (decide (vecB l1 = true ∧ vecB l2 = true) && (vadd l1 l2).isSome) := by
  by_cases hv : vecB l1 = true ∧ vecB l2 = true
  · exact c102 w h1 h2 (by have := vec_len' hv.1; omega) (by have := vec_len' hv.2; omega)
  · intro R h
    refine f102_calls aa an ac ba bn bc w R ?_
    unfold f102_vc
    have hA := At.refl w
    refine at_call hA (c17 _ h1) fun _ hA hk => ⟨_, rfl, ?_⟩
    refine brNB (fun hn => leaflb h hA OwnL.nil (by rw [if_neg (by rw [hn]; simp)]) (by rw [hn]; rfl)) (fun hv1 => ?_)
    refine at_call hA (c17 _ (h2.call hA.below)) fun _ hA hk => ⟨_, rfl, ?_⟩
    exact brNB (fun hn => leaflb h hA OwnL.nil (by rw [if_neg (by rw [hn]; simp)]) (by rw [hn]; simp)) (fun hv2 => absurd ⟨hv1, hv2⟩ hv)
theorem c51 (h : AgX W B g cap most q) (i : Int) {V : List PartT} {a : Option Addr} {n c : Nat} (hV : SlE W 3 partE V a n c) : RetF Try.prog 51 #[ptr g, .int .i64 i, .slice a n c] W B fun v W' => v = .int .i64 (giveD q i V).1 ∧ AgX W' B g cap most (giveD q i V).2 := by
  intro R hR
  refine f51_calls _ _ _ _ _ W R ?_
  unfold f51_vc
  obtain ⟨r, m, h, hpl, hB⟩ := h
  have hA : AtF W (Bk g r m) [] W := AtF.refl W _
  refine at_callb hA (c97 i h) fun w2 hA hk hb2 => ?_
  have h2 := h.call hb2
  rcases find_cases (i := i) rfl hpl with ⟨e1, e2⟩ | ⟨x, hx, rfl, e1, e2⟩
  · rw [e1]
    have ht : giveD q i V = (43, q) := by unfold giveD; rw [e2]
    rw [ht] at hR
    exact ⟨_, _, rfl, brN (fun _ => hR _ _ (hA.chg.mono fun b _ => hB b) ⟨rfl, r, m, h2, hpl, hB⟩) (fun e => absurd e (by decide))⟩
  · rw [e1]
    refine ⟨_, _, rfl, brN (fun e => absurd rfl e) (fun _ => ⟨_, rfl, _, _, _, h2.rdV hx nod, ?_⟩)⟩
    obtain ⟨k1, k2⟩ := h.ok x hx
    have hlF := vec_len' k2
    have hc102 := c102e w2 (h2.vF x hx).1 (sle_keepC hV (KeepC.of_bel hb2))
    by_cases hc : vecB V = true ∧ (vadd x.2.2.1.2 V).isSome = true
    · obtain ⟨F', hF'⟩ := Option.isSome_iff_exists.1 hc.2
      have hF2 : vecB F' = true := (vadd_amt k2 hc.1 hF').1
      rw [if_pos ⟨k2, hc.1⟩, decide_eq_true (⟨k2, hc.1⟩ : vecB x.2.2.1.2 = true ∧ vecB V = true), hF', vout_some] at hc102
      refine at_calllb hA hc102 (fun _ _ => rfl) fun a11 c13 w10 hA hk hb10 ho hs => ⟨_, _, _, _, rfl, brNB (fun e => by cases e) (fun _ => ?_)⟩
      have h10 := h2.call hb10
      refine ⟨_, rfl, _, _, _, h10.rdT hx nod, ?_⟩
      refine at_callb hA (c43ok w10 (h10.vT x hx).1 hs k1 hF2) fun w20 hA hk hb20 => ⟨_, rfl, brNB (fun hn => ?_) (fun hy => ?_)⟩
      · have ht : giveD q x.1 V = (31, q) := by unfold giveD; rw [e2]; simp only; rw [if_pos hc, hF', vout_some, if_neg (by rw [hn]; decide)]
        rw [ht] at hR
        exact hR _ _ (hA.chg.mono fun b _ => hB b) ⟨rfl, r, m, h10.call hb20, hpl, hB⟩
      · have ht : giveD q x.1 V = (0, (q.1, adE (sbE q.2.1 (ofA x.2.2.1.2)) (ofA F'), setD q.2.2 x.1 (x.2.2.1.1, F'))) := by unfold giveD; rw [e2]; simp only; rw [if_pos hc, hF', vout_some, if_pos hy]
        rw [ht] at hR
        have hvb := (VB.of_own ho).call hb20
        refine at_callF hA (c99 (F := F') (s := (a11, F'.length, c13)) (h10.call hb20) hx hvb hF2) (fun _ _ e => .inr e) (fun _ hb => by cases hb) fun v w16 hA hk hch ⟨e, h16⟩ => ⟨by rw [e], ?_⟩
        refine hR _ _ (hA.chg.mono fun b _ => hB b) ⟨rfl, r, _, h16, ?_, fun b hb => hB b ((Bk_setE _ _ b).1 hb)⟩
        rw [pl_setE, hpl]
    · have ht : giveD q x.1 V = (31, q) := by unfold giveD; rw [e2]; simp only; rw [if_neg hc]
      rw [ht] at hR
      rw [vadd_no k2 hc] at hc102
      refine at_calllb hA hc102 (fun x _ => rfl) fun a11 c13 w10 hA hk hb10 ho hs => ⟨_, _, _, _, rfl, brNB (fun _ => ?_) (fun e => by cases e)⟩
      exact hR _ _ (hA.chg.mono fun b _ => hB b) ⟨rfl, r, m, h2.call hb10, hpl, hB⟩
def turnD (q : AgQ) (i : Int) (V Y : List PartT) : Int × AgQ := match mget i q.2.2 with
  | none => (43, q)
  | some d => if vecB Y = true ∧ (vadd d.2 Y).isSome = true then if vecB V = true ∧ (vsub V (vout (vadd d.2 Y))).isSome = true then if ofA V = ofA d.1 then (0, (q.1, adE (sbE q.2.1 (ofA d.2)) (ofA (vout (vadd d.2 Y))), setD q.2.2 i (V, vout (vadd d.2 Y)))) else (41, q) else (41, q) else (41, q)
theorem setE_setE (m : AgM) (i : Int) (d e : AgD × (Sl3 × Sl3)) : setE (setE m i d) i e = setE m i e := by
  unfold setE
  rw [List.map_map]
  refine List.map_congr_left fun x _ => ?_
  simp only [Function.comp]
  by_cases h : x.1 = i
  · rw [if_pos h]
    simp [h]
  · rw [if_neg h, if_neg h]
theorem mem_setE_self {x : Int × AgE} (hx : x ∈ m) (d : AgD × (Sl3 × Sl3)) : (x.1, (x.2.1, d)) ∈ setE m x.1 d := List.mem_map.2 ⟨x, hx, by rw [if_pos rfl]⟩
theorem ar4_ext {x y : Ar4} (h : (x.1 == y.1 && (x.2.1 == y.2.1 && (x.2.2.1 == y.2.2.1 && (x.2.2.2 == y.2.2.2 && true)))) = true) : x = y := by
  simp only [Bool.and_eq_true, beq_iff_eq, and_true] at h
  obtain ⟨h1, h2, h3, h4⟩ := h
  exact Prod.ext h1 (Prod.ext h2 (Prod.ext h3 h4))
theorem c95 (h : AgX W B g cap most q) (i : Int) {V Y : List PartT} {a a2 : Option Addr} {n c n2 c2 : Nat} (hV : SlE W 3 partE V a n c) (hY : SlE W 3 partE Y a2 n2 c2) : RetF Try.prog 95 #[ptr g, .int .i64 i, .slice a n c, .slice a2 n2 c2] W B fun v W' => v = .int .i64 (turnD q i V Y).1 ∧ AgX W' B g cap most (turnD q i V Y).2 := by
  intro R hR
  refine f95_calls _ _ _ _ _ _ _ _ W R ?_
  unfold f95_vc
  obtain ⟨r, m, h, hpl, hB⟩ := h
  have hA : AtF W (Bk g r m) [] W := AtF.refl W _
  refine at_callb hA (c97 i h) fun w2 hA hk hb2 => ?_
  have h2 := h.call hb2
  rcases find_cases (i := i) rfl hpl with ⟨e1, e2⟩ | ⟨x, hx, rfl, e1, e2⟩
  · rw [e1]
    have ht : turnD q i V Y = (43, q) := by unfold turnD; rw [e2]
    rw [ht] at hR
    exact ⟨_, _, rfl, brN (fun _ => hR _ _ (hA.chg.mono fun b _ => hB b) ⟨rfl, r, m, h2, hpl, hB⟩) (fun e => absurd e (by decide))⟩
  · rw [e1]
    refine ⟨_, _, rfl, brN (fun e => absurd rfl e) (fun _ => ⟨_, rfl, _, _, _, h2.rdV hx nod, ?_⟩)⟩
    obtain ⟨k1, k2⟩ := h.ok x hx
    have hlF := vec_len' k2
    have hc102 := c102e w2 (h2.vF x hx).1 (sle_keepC hY (KeepC.of_bel hb2))
    have out : ∀ {w'}, AtF W (Bk g r m) [] w' → AgS w' g r cap most q.1 q.2.1 m → turnD q x.1 V Y = (41, q) → R (.returned (.int .i64 41)) w' := fun hA h' ht => by
      rw [ht] at hR
      exact hR _ _ (hA.chg.mono fun b _ => hB b) ⟨rfl, r, m, h', hpl, hB⟩
    by_cases hc : vecB Y = true ∧ (vadd x.2.2.1.2 Y).isSome = true
    · obtain ⟨F', hF'⟩ := Option.isSome_iff_exists.1 hc.2
      have hF2 : vecB F' = true := (vadd_amt k2 hc.1 hF').1
      rw [if_pos ⟨k2, hc.1⟩, decide_eq_true (⟨k2, hc.1⟩ : vecB x.2.2.1.2 = true ∧ vecB Y = true), hF', vout_some] at hc102
      refine at_calllb hA hc102 (fun _ _ => rfl) fun a11 c13 w10 hA hk hb10 ho hs => ⟨_, _, _, _, rfl, brNB (fun e => by cases e) (fun _ w16 hb16 => ?_)⟩
      have h16 := (h2.call hb10).call hb16
      have hA := hA.call hb16
      have hbW : Bel W w16 := (hb2.trans hb10).trans hb16
      have hvb := (VB.of_own ho).call hb16
      refine at_callb hA (c43 w16 (sle_keepC hV (KeepC.of_bel hbW)) hvb.1) fun w18 hA hk hb18 => ⟨_, rfl, brNB (fun hn => ?_) (fun hy => ?_)⟩
      · refine out hA (h16.call hb18) ?_
        unfold turnD
        rw [e2]
        simp only
        rw [if_pos hc, hF', vout_some, if_neg]
        rintro ⟨hv, hs⟩
        rw [decide_eq_true (⟨hv, hF2⟩ : vecB V = true ∧ vecB F' = true), Bool.true_and] at hn
        rw [hn] at hs
        cases hs
      · rw [Bool.and_eq_true, decide_eq_true_iff] at hy
        obtain ⟨⟨hvV, _⟩, hsV⟩ := hy
        have h18 := h16.call hb18
        have hbW18 := hbW.trans hb18
        refine ⟨_, rfl, _, _, _, h18.rdT hx nod, ?_⟩
        refine at_callb hA (c50' w18 (sle_keepC hV (KeepC.of_bel hbW18))) fun w25 hA hk hb25 => ⟨_, _, _, _, rfl, ?_⟩
        have h25 := h18.call hb25
        refine ⟨h25.rdT hx nod, ?_⟩
        refine at_callb hA (c50' w25 (h25.vT x hx).1) fun w31 hA hk hb31 => ⟨_, _, _, _, rfl, brNB (fun hn => ?_) (fun hy => ?_)⟩
        · refine out hA (h25.call hb31) ?_
          unfold turnD
          rw [e2]
          simp only
          rw [if_pos hc, hF', vout_some, if_pos ⟨hvV, hsV⟩, if_neg]
          intro e
          rw [e] at hn
          simp at hn
        · have heq := ar4_ext hy
          have ht : turnD q x.1 V Y = (0, (q.1, adE (sbE q.2.1 (ofA x.2.2.1.2)) (ofA F'), setD q.2.2 x.1 (V, F'))) := by
            unfold turnD
            rw [e2]
            simp only
            rw [if_pos hc, hF', vout_some, if_pos ⟨hvV, hsV⟩, if_pos heq]
          rw [ht] at hR
          have h31 := h25.call hb31
          have hbW31 := (hbW18.trans hb25).trans hb31
          have hlV := vec_len' hvV
          refine at_calll hA (c79 w31 (sle_keepC hV (KeepC.of_bel hbW31)) (by omega)) (fun _ _ => rfl) fun a38 c40 w37 hA hk hb37 hoV hsV2 => ⟨_, _, _, rfl, _, rfl, ?_⟩
          have h37 := h31.call hb37
          have hvV37 : VB w37 V (a38, V.length, c40) := VB.of_own hoV
          have hvF37 := hvb.call (((hb18.trans hb25).trans hb31).trans hb37)
          refine opw_storeF (cells' := agC x.1 ((a38, V.length, c40), x.2.2.2.2)) hA (h37.ag x hx) (.inr (.inr (.inr ⟨x, hx, rfl⟩))) (by simp) (by kernel_rfl) fun w43 hA hk hc43 hb43 => ?_
          have h43 := h37.one (d := ((V, x.2.2.1.2), ((a38, V.length, c40), x.2.2.2.2))) hx hc43 hb43 hvV37 (h37.vF x hx) ⟨hvV, k2⟩
          have hvF43 := hvF37.chg hc43 fun b cur e => h37.no b cur (.inr (.inr ⟨x, hx, e⟩))
          have hx' := mem_setE_self hx ((V, x.2.2.1.2), ((a38, V.length, c40), x.2.2.2.2))
          refine at_callF hA (c99 (F := F') (s := (a11, F'.length, c13)) h43 hx' hvF43 hF2) (fun b _ e => .inr ((Bk_setE _ _ b).1 e)) (fun _ hb => by cases hb) fun v w45 hA hk hch ⟨e, h45⟩ => ⟨by rw [e], ?_⟩
          rw [setE_setE] at h45
          refine hR _ _ (hA.chg.mono fun b _ => hB b) ⟨rfl, r, _, h45, ?_, fun b hb => hB b ((Bk_setE _ _ b).1 hb)⟩
          rw [pl_setE, hpl]
    · rw [vadd_no k2 hc] at hc102
      refine at_calllb hA hc102 (fun x _ => rfl) fun a11 c13 w10 hA hk hb10 ho hs => ⟨_, _, _, _, rfl, brNB (fun _ w15 hb15 => ?_) (fun e => by cases e)⟩
      refine out (hA.call hb15) ((h2.call hb10).call hb15) ?_
      unfold turnD
      rw [e2]
      simp only
      rw [if_neg hc]
theorem AgS.del (h : AgS W g r cap most su fr m) (hc : Chg (fun b => b = r) W W') (i : Int) (ho : OwnM w M gs W' r (Value.int .i64) agP (mdel i m)) : AgS W' g r cap most su fr (mdel i m) := by
  have hno : ∀ b cur, b = r → W.heap[b]? ≠ some (.cells cur 73 (0, 0)) := fun b cur e => h.no b cur (.inr (.inl e))
  exact ⟨(hc.block g h.glt h.gr).trans h.tb, OwnM.re ho rfl (.inr rfl) (by simp), mdel_nodup h.nd, fun x hx => (hc.block _ (h.alt (mem_mdel hx)) fun e => h.ra (mem_mdel hx) e.symm).trans (h.ag x (mem_mdel hx)), fun x hx => (h.vT x (mem_mdel hx)).chg hc hno, fun x hx => (h.vF x (mem_mdel hx)).chg hc hno, fun x hx => h.ok x (mem_mdel hx)⟩
theorem pl_mdel (i : Int) : pl (mdel i m) = mdel i (pl m) := by
  unfold pl
  induction m with
  | nil => rfl
  | cons x m ih =>
    rw [List.map_cons]
    unfold mdel
    by_cases h : i = x.1
    · rw [if_pos h, if_pos h]
    · rw [if_neg h, if_neg h, List.map_cons, ih]
def loseD (q : AgQ) (i : Int) : Bool × AgQ := match mget i q.2.2 with
  | none => (false, q)
  | some d => (true, (sbE q.1 (ofA d.1), sbE q.2.1 (ofA d.2), mdel i q.2.2))
theorem c46 (h : AgX W B g cap most q) (i : Int) : RetF Try.prog 46 #[ptr g, .int .i64 i] W B fun v W' => v = .bool (loseD q i).1 ∧ AgX W' B g cap most (loseD q i).2 := by
  intro R hR
  refine f46_calls _ _ W R ?_
  unfold f46_vc
  obtain ⟨r, m, h, hpl, hB⟩ := h
  have hA : AtF W (Bk g r m) [] W := AtF.refl W _
  refine at_callb hA (c97 i h) fun w2 hA hk hb2 => ?_
  have h2 := h.call hb2
  rcases find_cases (i := i) rfl hpl with ⟨e1, e2⟩ | ⟨x, hx, rfl, e1, e2⟩
  · rw [e1]
    have ht : loseD q i = (false, q) := by unfold loseD; rw [e2]
    rw [ht] at hR
    exact ⟨_, _, rfl, brN (fun _ => hR _ _ (hA.chg.mono fun b _ => hB b) ⟨rfl, r, m, h2, hpl, hB⟩) (fun e => absurd e (by decide))⟩
  · rw [e1]
    have ht : loseD q x.1 = (true, (sbE q.1 (ofA x.2.2.1.1), sbE q.2.1 (ofA x.2.2.1.2), mdel x.1 q.2.2)) := by unfold loseD; rw [e2]
    rw [ht] at hR
    refine ⟨_, _, rfl, brN (fun e => absurd rfl e) (fun _ => ⟨_, rfl, _, _, _, _, h2.rdS nod, _, rfl, _, _, _, h2.rdT hx nod, fun w14 hb14 => ?_⟩)⟩
    have hA := hA.call hb14
    have h14 := h2.call hb14
    refine at_callb hA (c50' w14 (h14.vT x hx).1) fun w16 hA hk hb16 => ⟨_, _, _, _, rfl, ?_⟩
    have h16 := h14.call hb16
    refine ⟨h16.rdS nod, ?_⟩
    refine at_callb hA (c100e q.1 (ofA x.2.2.1.1) w16) fun w22 hA hk hb22 => ⟨_, _, _, _, _, rfl, _, rfl, ?_⟩
    have h22 := h16.call hb22
    refine at_stS (su' := sbE q.1 (ofA x.2.2.1.1)) hA h22 (.inr (.inl rfl)) (by simp) fun w30 hA hk hc30 h30 => ⟨_, rfl, _, _, _, _, h30.rdF nod, _, rfl, _, _, _, h30.rdV hx nod, fun w40 hb40 => ?_⟩
    have hA := hA.call hb40
    have h40 := h30.call hb40
    refine at_callb hA (c50' w40 (h40.vF x hx).1) fun w42 hA hk hb42 => ⟨_, _, _, _, rfl, ?_⟩
    have h42 := h40.call hb42
    refine ⟨h42.rdF nod, ?_⟩
    refine at_callb hA (c100e q.2.1 (ofA x.2.2.1.2) w42) fun w48 hA hk hb48 => ⟨_, _, _, _, _, rfl, _, rfl, ?_⟩
    have h48 := h42.call hb48
    refine at_stF (fr' := sbE q.2.1 (ofA x.2.2.1.2)) hA h48 (.inr (.inl rfl)) (by simp) fun w56 hA hk hc56 h56 => ⟨_, rfl, _, h56.rdR nod, ?_⟩
    refine opw_delete (k := x.1) (kt := 2) (et := 144) (keyOk_int (by kernel_rfl)) (by kernel_rfl) hA (OwnM.re h56.mp rfl (.inr (.inr (.inl rfl))) (by simp)) fun w60 hA hk hc ho => ⟨rfl, ?_⟩
    refine hR _ _ (hA.chg.mono fun b _ => hB b) ⟨rfl, r, mdel x.1 m, h56.del hc x.1 ho, by rw [pl_mdel, hpl], fun b hb => hB b ?_⟩
    rcases hb with rfl | rfl | ⟨y, hy, rfl⟩
    · exact .inl rfl
    · exact .inr (.inl rfl)
    · exact .inr (.inr ⟨y, mem_mdel hy, rfl⟩)
end Go.Vc.J

/- Agents: registered; copies. -/
set_option maxRecDepth 20000
set_option maxHeartbeats 1000000
namespace Go.Vc.J
open Go Go.Vc Go.Vc.V Go.RowKit Go.Proofs Vct

variable {w W W' W2 : World} {M N : Nat → Prop} {gs ds : List Nat} {g r : Nat} {cap most : Int} {su fr : Ar4} {m : AgM} {B : Nat → Prop} {q : AgQ}

theorem gives_slice_arr0 {t e : TypeId} {n m : Nat} {ad : Addr} (ht : Try.prog.underlying t = some (.array m e)) (hs : pureRun Try.prog (sizeOf e) = some n) : Gives Try.prog (Instr.sliceAt t (.pointer (some ad)) none none none) (.slice (some ad) m m) := by
  intro W
  have he : Try.prog.elem t = e := by simp [Program.elem, ht]
  have hl : Try.prog.arrayLen t = m := by simp [Program.arrayLen, ht]
  have hh := run_sliceAt_array_all (P := Try.prog) W t ad (by rw [he, hl]; exact ht)
  rw [hh, he, pureRun_run hs W, hl]
  have h0 : ad.add 0 = ad := by unfold Addr.add; simp
  simp only [Result.andThen, slicedAt, Nat.sub_zero, Nat.zero_mul, h0, ite_self]
abbrev intE (x : Int) : List Value := [.int .i64 x]
def maxG (a : Int) (l : List Int) : Int := l.foldl (fun a x => if x > a then x else a) a
theorem c98 {x0 : Int} {l : List Int} {a : Option Addr} {n c : Nat} (w : World) (hs : SlE w 1 intE (x0 :: l) a n c) : Ret Try.prog 98 #[.slice a n c] w (.int .i64 (maxG x0 l)) := by
  intro R hR
  refine f98_calls a n c w R ?_
  unfold f98_vc
  have hn := hs.len_le
  have e1 : n = l.length + 1 := hs.1
  refine brD (fun h => by omega) (fun _ => ?_)
  obtain ⟨ad, g1, el, _⟩ := elt_at (P := Try.prog) (k := .i64) (t := 154) hs (i := 0) (x := x0) rfl (e := 2) (by kernel_rfl) (by kernel_rfl)
  refine ⟨ad, g1, _, el.one (by kernel_rfl) (by simp), fun v W' => At w [] W' ∧ ∃ i : Nat, v.2.1 = ((i + 1 : Nat) : Int) ∧ i ≤ l.length ∧ v.1 = maxG x0 (l.take i), fun v _ => (n - v.2.1).toNat, ⟨At.refl w, 0, rfl, Nat.zero_le _, rfl⟩, ?_⟩
  rintro x16 x17 w18 ⟨hA, i, hi, hil, hx⟩
  simp only at hi hx
  subst hi
  refine brD (fun hlt => ?_) (fun hge => ?_)
  · obtain ⟨y, hy⟩ : ∃ y, l[i]? = some y := ⟨_, List.getElem?_eq_getElem (by omega)⟩
    obtain ⟨ad, g1, el, _⟩ := elt_at (P := Try.prog) (k := .i64) (t := 154) (hs.call hA.below) (i := i + 1) (x := y) (by simpa using hy) (e := 2) (by kernel_rfl) (by kernel_rfl)
    rw [succ_i (i + 1) (by omega)]
    refine ⟨ad, g1, _, el.one (by kernel_rfl) (by simp), ⟨hA, i + 1, rfl, by omega, ?_⟩, by simp only; omega⟩
    simp only
    unfold maxG at *
    rw [List.take_add_one, hy, List.foldl_append, ← hx]
    rfl
  · have : i = l.length := by omega
    rw [hx, this, List.take_length]
    exact leaf hR hA rfl
theorem sle4 {p : Nat} {s : Ar4} (h : W.heap[p]? = some (.cells ([.int .i64 s.1, .int .i64 s.2.1, .int .i64 s.2.2.1, .int .i64 s.2.2.2] : List Value).toArray 65 (0, 0))) : SlE W 1 intE [s.1, s.2.1, s.2.2.1, s.2.2.2] (some ⟨p, 0, none⟩) 4 4 := by
  refine ⟨rfl, Nat.le_refl _, by decide, fun e => (by cases e), fun i x hx => ?_⟩
  refine ⟨_, [.int .i64 x], rfl, rfl, fun j v hv => ?_, rfl⟩
  have he := elt_cells h
  have hj : j = 0 := by have := (List.getElem?_eq_some_iff.1 hv).1; simp at this; omega
  subst hj
  have := he i (.int .i64 x) (by
    have e : ([.int .i64 s.1, .int .i64 s.2.1, .int .i64 s.2.2.1, .int .i64 s.2.2.2] : List Value) = [s.1, s.2.1, s.2.2.1, s.2.2.2].map (Value.int .i64) := rfl
    rw [e, List.getElem?_map, hx]
    rfl)
  rw [Nat.mul_one, addr_add_add _ _ _ rfl, Nat.add_zero]
  have ev : v = .int .i64 x := by simpa using hv.symm
  rw [ev]
  exact this
theorem AgS.add {i : Int} {e : AgE} (h : AgS W g r cap most su fr m) (hc : Chg (fun b => b = r) W W') (ho : OwnM w M gs W' r (Value.int .i64) agP (mset i e m)) (hne : e.1 ≠ r) (hb : W.heap[e.1]? = some (.cells (agC i e.2.2).toArray 89 (0, 0))) (h1 : VB W e.2.1.1 e.2.2.1) (h2 : VB W e.2.1.2 e.2.2.2) (hok : okE (i, e)) : AgS W' g r cap most su fr (mset i e m) := by
  have hno : ∀ b cur, b = r → W.heap[b]? ≠ some (.cells cur 73 (0, 0)) := fun b cur e => h.no b cur (.inr (.inl e))
  refine ⟨(hc.block g h.glt h.gr).trans h.tb, OwnM.re ho rfl (.inr rfl) (by simp), mset_nodup h.nd, fun x hx => ?_, fun x hx => ?_, fun x hx => ?_, fun x hx => ?_⟩
  · rcases mem_mset hx with rfl | hx
    · exact (hc.block _ (Array.getElem?_eq_some_iff.1 hb).1 hne).trans hb
    · exact (hc.block _ (h.alt hx) fun e => h.ra hx e.symm).trans (h.ag x hx)
  · rcases mem_mset hx with rfl | hx
    · exact h1.chg hc hno
    · exact (h.vT x hx).chg hc hno
  · rcases mem_mset hx with rfl | hx
    · exact h2.chg hc hno
    · exact (h.vF x hx).chg hc hno
  · rcases mem_mset hx with rfl | hx
    · exact hok
    · exact h.ok x hx
theorem msetA_fresh {k : Int} {v : AgE} : ∀ {m : AgM}, mget k m = Option.none → mset k v m = m ++ [(k, v)]
  | [], _ => rfl
  | x :: m, h => by
    unfold mget at h
    split at h
    · cases h
    · rename_i hne
      rw [mset, if_neg hne, msetA_fresh h]
      rfl
def mx4 (s : Ar4) : Int := maxG s.1 [s.2.1, s.2.2.1, s.2.2.2]
def regD (cap most : Int) (q : AgQ) (i : Int) (V : List PartT) : (Bool × Int) × AgQ :=
  if i < 1 ∨ V = [] ∨ vecB V = false then ((false, 41), q) else match mget i q.2.2 with
  | some d => if d.1 = V then ((false, 0), q) else ((false, 20), q)
  | none => if ¬ addC q.1 (ofA V) ∨ mx4 (adE q.1 (ofA V)) > most then ((false, 31), q) else if cap ≤ q.2.2.length then ((false, 32), q) else ((true, 0), (adE q.1 (ofA V), adE q.2.1 (ofA V), q.2.2 ++ [(i, (V, V))]))
abbrev biV (x : Bool × Int) : Value := .tuple #[.bool x.1, .int .i64 x.2]
theorem c44 (h : AgX W B g cap most q) (i : Int) {V : List PartT} {a : Option Addr} {n c : Nat} (hV : SlE W 3 partE V a n c) (hVB : ∀ W', Chg B W W' → SlE W' 3 partE V a n c) : RetF Try.prog 44 #[ptr g, .int .i64 i, .slice a n c] W B fun v W' => v = biV (regD cap most q i V).1 ∧ AgX W' (fun b => B b ∨ W.heap.size ≤ b) g cap most (regD cap most q i V).2 := by
  intro R hR
  refine f44_calls _ _ _ _ _ W R ?_
  unfold f44_vc
  obtain ⟨r, m, h, hpl, hB⟩ := h
  have hn := hV.1
  have out : ∀ {e : Int} {w'}, At W [] w' → regD cap most q i V = ((false, e), q) → R (.returned (.tuple #[.bool false, .int .i64 e])) w' := fun hA ht => by
    rw [ht] at hR
    exact hR _ _ (Chg.of_below hA.below) ⟨rfl, r, m, h.call hA.below, hpl, fun b hb => .inl (hB b hb)⟩
  refine at_callb (At.refl W) (c97 i h) fun w2 hA hk hb2 => ?_
  have hfc := find_cases (i := i) rfl hpl
  obtain ⟨a3, x4, e1, e40⟩ : ∃ a3 x4, findV m i = .tuple #[.pointer a3, .int .i64 x4] ∧ x4 ≠ 40 := by
    rcases hfc with ⟨e1, _⟩ | ⟨x, hx, _, e1, _⟩
    · exact ⟨_, _, e1, by decide⟩
    · exact ⟨_, _, e1, by decide⟩
  rw [e1] at hfc ⊢
  refine ⟨_, _, rfl, fun _ W' => At W [] W' ∧ 1 ≤ i ∧ V ≠ [] ∧ vecB V = true ∧ mget i q.2.2 = none, brE (fun e => absurd e e40) (fun _ => brD (fun hlt => out hA (if_pos (.inl hlt))) (fun hge => brE (fun h0 => out hA (if_pos (.inr (.inl (List.eq_nil_of_length_eq_zero (by omega)))))) (fun h0 => ?_))), ?_⟩
  · have hV0 : V ≠ [] := fun e => h0 (by rw [hn, e]; rfl)
    refine at_callb hA (c17 w2 (sle_keepC hV (KeepC.of_bel hb2))) fun w7 hA hk hb7 => ⟨_, rfl, brNB (fun hv => out hA (if_pos (.inr (.inr hv)))) (fun hv => ?_)⟩
    have hreg : ¬ (i < 1 ∨ V = [] ∨ vecB V = false) := by rintro (h | h | h); exact hge h; exact hV0 h; rw [hv] at h; cases h
    rcases hfc with ⟨e1, e2⟩ | ⟨x, hx, rfl, e1, e2⟩
    · cases e1
      exact brE (fun e => absurd e (by decide)) (fun _ => brE (fun e => absurd e (by decide)) (fun _ => ⟨hA, by omega, hV0, hv, e2⟩))
    · cases e1
      have h7 := h.call (hb2.trans hb7)
      refine brE (fun _ => ⟨_, rfl, _, _, _, h7.rdT hx nod, ?_⟩) (fun e => absurd rfl e)
      refine at_callb hA (c58 w7 (h7.vT x hx).1 (sle_keepC hV (KeepC.of_bel (hb2.trans hb7)))) fun w14 hA hk hb14 => ⟨_, rfl, brNB (fun hn => out hA ?_) (fun hy => brE (fun _ => out hA ?_) (fun e => absurd rfl e))⟩
      · unfold regD
        rw [if_neg hreg, e2]
        exact if_neg (of_decide_eq_false hn)
      · unfold regD
        rw [if_neg hreg, e2]
        exact if_pos (of_decide_eq_true hy)
  · rintro w16 ⟨hA, hi1, hV0, hv, hno⟩
    have hreg : ¬ (i < 1 ∨ V = [] ∨ vecB V = false) := by rintro (h | h | h); omega; exact hV0 h; rw [hv] at h; cases h
    have h16 := h.call hA.below
    have hlV := vec_len' hv
    have hAW := hA
    refine ⟨fun v W' => At W [] W' ∧ ∃ p, v.1 = ⟨p, 0, none⟩ ∧ W.heap.size ≤ p ∧ v.2.1 = decide (addC q.1 (ofA V)) ∧ W'.heap[p]? = some (.cells ([.int .i64 (adE q.1 (ofA V)).1, .int .i64 (adE q.1 (ofA V)).2.1, .int .i64 (adE q.1 (ofA V)).2.2.1, .int .i64 (adE q.1 (ofA V)).2.2.2] : List Value).toArray 65 (0, 0)), ⟨_, rfl, _, _, _, _, h16.rdS nod, fun w23 hb23 => ?_, fun w54 hb54 => ?_⟩, ?_⟩
    · have hA := hA.call hb23
      refine at_callb hA (c50' w23 (sle_keepC hV (KeepC.of_bel hA.below))) fun w25 hA hk hb25 => ⟨_, _, _, _, rfl, (h.call hA.below).rdS nod, ?_, ?_⟩
      · refine at_callb hA (c49e q.1 (ofA V) w25) fun w31 hA hk hb31 => ⟨_, _, _, _, _, rfl, ?_⟩
        refine opw_allocS (zv := .agg #[.int .i64 0, .int .i64 0, .int .i64 0, .int .i64 0]) ([.int .i64 0, .int .i64 0, .int .i64 0, .int .i64 0] : List Value) (by kernel_rfl) (by kernel_rfl) hA fun p w38 hp hA hk hb38 hblk => ⟨_, rfl, ?_⟩
        have hsz := (hAW.call (hb23.trans (hb25.trans hb31))).size
        refine opw_storeF (off := 0) (cells' := [.int .i64 (adE q.1 (ofA V)).1, .int .i64 (adE q.1 (ofA V)).2.1, .int .i64 (adE q.1 (ofA V)).2.2.1, .int .i64 (adE q.1 (ofA V)).2.2.2]) hA hblk (.inl (by omega)) (by simp) (by kernel_rfl) fun w41 hA hk hc41 hb41 => ⟨hA, p, rfl, by omega, rfl, hb41⟩
      · have hsz := hA.size
        refine opw_allocS (zv := .agg #[.int .i64 0, .int .i64 0, .int .i64 0, .int .i64 0]) ([.int .i64 0, .int .i64 0, .int .i64 0, .int .i64 0] : List Value) (by kernel_rfl) (by kernel_rfl) hA fun p w43 hp hA hk hb43 hblk => ⟨_, rfl, (h.call hA.below).rdS nod, ?_⟩
        refine at_callb hA (c49e q.1 (ofA V) w43) fun w46 hA hk hb46 => ⟨_, _, _, _, _, rfl, ?_⟩
        have hblk := (hb46.block (Array.getElem?_eq_some_iff.1 hblk).1).trans hblk
        refine opw_storeF (off := 0) (cells' := [.int .i64 (adE q.1 (ofA V)).1, .int .i64 (adE q.1 (ofA V)).2.1, .int .i64 (adE q.1 (ofA V)).2.2.1, .int .i64 (adE q.1 (ofA V)).2.2.2]) hA hblk (.inl (by omega)) (by simp) (by kernel_rfl) fun w53 hA hk hc41 hb41 => ⟨hA, p, rfl, by omega, rfl, hb41⟩
    · have hA := hA.call hb54
      have hsz := hA.size
      refine opw_allocS (zv := .agg #[.int .i64 0, .int .i64 0, .int .i64 0, .int .i64 0]) ([.int .i64 0, .int .i64 0, .int .i64 0, .int .i64 0] : List Value) (by kernel_rfl) (by kernel_rfl) hA fun p w56 hp hA hk hb56 hblk => ⟨_, rfl, (h.call hA.below).rdS nod, ?_⟩
      refine at_callb hA (c50' w56 (sle_keepC hV (KeepC.of_bel hA.below))) fun w59 hA hk hb59 => ⟨_, _, _, _, rfl, (h.call hA.below).rdS nod, ?_⟩
      refine at_callb hA (c49e q.1 (ofA V) w59) fun w65 hA hk hb65 => ⟨_, _, _, _, _, rfl, ?_⟩
      have hblk := ((hb59.trans hb65).block (Array.getElem?_eq_some_iff.1 hblk).1).trans hblk
      refine opw_storeF (off := 0) (cells' := [.int .i64 (adE q.1 (ofA V)).1, .int .i64 (adE q.1 (ofA V)).2.1, .int .i64 (adE q.1 (ofA V)).2.2.1, .int .i64 (adE q.1 (ofA V)).2.2.2]) hA hblk (.inl (by omega)) (by simp) (by kernel_rfl) fun w72 hA hk hc41 hb41 => ⟨hA, p, rfl, by omega, rfl, hb41⟩
    · rintro ad73 b74 w75 ⟨hA, p, e73, hp, e74, hblk⟩
      simp only at e73 e74
      subst e73
      have hsle := sle4 hblk
      refine ⟨fun _ W' => At W [] W' ∧ Bel w75 W' ∧ addC q.1 (ofA V) ∧ mx4 (adE q.1 (ofA V)) ≤ most, ⟨fun hb w77 hb77 => out (hA.call hb77) ?_, fun hb => ⟨_, _, _, gives_slice_arr0 (n := 1) (m := 4) (e := 2) (by kernel_rfl) (by kernel_rfl), _, rfl, _, (h.call hA.below).rdM nod, fun w83 hb83 => ?_⟩⟩, ?_⟩
      · rw [e74] at hb
        unfold regD
        rw [if_neg hreg, hno]
        exact if_pos (.inl (by simpa using hb))
      · rw [e74] at hb
        have hadd : addC q.1 (ofA V) := by simpa using hb
        have hA := hA.call hb83
        refine at_callb hA (c98 w83 (sle_keepC hsle (KeepC.of_bel hb83))) fun w85 hA hk hb85 => ⟨_, rfl, (h.call hA.below).rdM nod, brD (fun hgt => out hA ?_) (fun hle => ⟨hA, hb83.trans hb85, hadd, by unfold mx4; omega⟩)⟩
        unfold regD
        rw [if_neg hreg, hno]
        exact if_pos (.inr hgt)
      · rintro w87 ⟨hA, hb87, hadd, hmx⟩
        have h87 := h.call hA.below
        have hsz87 := hA.size
        have hblk := (hb87.block (Array.getElem?_eq_some_iff.1 hblk).1).trans hblk
        have hml : q.2.2.length = m.length := by rw [← hpl]; unfold pl; rw [List.length_map]
        refine ⟨_, rfl, _, h87.rdR nod, _, reads_lenM (kt := 2) (et := 144) (by kernel_rfl) h87.mp nod, _, rfl, _, h87.rdC nod, brD (fun hge w93 hb93 => out (hA.call hb93) ?_) (fun hlt => ⟨_, rfl, _, h87.rdR nod, fun w96 hb96 => ?_⟩)⟩
        · unfold regD
          rw [if_neg hreg, hno]
          simp only
          rw [if_neg (by rintro (h | h); exact h hadd; omega), if_pos (by omega)]
        · have ht : regD cap most q i V = ((true, 0), (adE q.1 (ofA V), adE q.2.1 (ofA V), q.2.2 ++ [(i, (V, V))])) := by
            unfold regD
            rw [if_neg hreg, hno]
            simp only
            rw [if_neg (by rintro (h | h); exact h hadd; omega), if_neg (by omega)]
          rw [ht] at hR
          have hA := hA.call hb96
          refine at_calll hA (c79 w96 (sle_keepC hV (KeepC.of_bel hA.below)) (by omega)) (fun _ _ => rfl) fun a64 c66 w98 hA hk hb98 ho1 hs1 => ⟨_, _, _, rfl, (h.call hA.below).rdR nod, ?_⟩
          refine at_calll hA (c79 w98 (sle_keepC hV (KeepC.of_bel hA.below)) (by omega)) (fun _ _ => rfl) fun a69 c71 w103 hA hk hb103 ho2 hs2 => ⟨_, _, _, rfl, (h.call hA.below).rdR nod, ?_⟩
          have hv1 : VB w103 V (a64, V.length, c66) := (VB.of_own ho1).call hb103
          have hv2 : VB w103 V (a69, V.length, c71) := VB.of_own ho2
          refine opw_boxS hA fun nb w108 hnb hA hk hb108 hnblk => ⟨_, rfl, (h.call hA.below).rdR nod, ?_⟩
          have h108 := h.call hA.below
          have hsz103 : W.heap.size ≤ w103.heap.size := by have := hb96.size; have := hb98.size; have := hb103.size; omega
          have hnbW : W.heap.size ≤ nb := by omega
          have hAr : AtF W (Bk g r m) [] w108 := ⟨Chg.of_below hA.below, hA.under⟩
          have hrW := h.rlt
          have hgW := h.glt
          have hblk := (((hb96.trans hb98).trans (hb103.trans hb108)).block (Array.getElem?_eq_some_iff.1 hblk).1).trans hblk
          refine opw_mapUpdate (κ := Int) (α := AgE) (kf := Value.int .i64) (vf := agP) (kt := 2) (et := 144) (k := i) (v := (nb, ((V, V), ((a64, V.length, c66), (a69, V.length, c71))))) (keyOk_int (by kernel_rfl)) (by kernel_rfl) hAr (OwnM.re h108.mp rfl (.inr (.inr (.inl rfl))) (by simp)) fun w111 hA6 hk hc hm => ?_
          have h111 := h108.add hc hm (by simp only; omega) hnblk (hv1.call hb108) (hv2.call hb108) ⟨hv, hv⟩
          have hblk := (hc.block p (Array.getElem?_eq_some_iff.1 hblk).1 (by omega)).trans hblk
          refine ⟨_, _, _, _, (elt_cells hblk).agg 4 (by kernel_rfl) (by kernel_rfl) (by simp) (by simp), _, rfl, ?_⟩
          refine at_stS (su' := adE q.1 (ofA V)) hA6 h111 (.inr (.inl rfl)) (by simp) fun w118 hA hk hc118 h118 => ⟨_, rfl, _, _, _, _, h118.rdF nod, fun w124 hb124 => ?_⟩
          have hA := hA.call hb124
          have h124 := h118.call hb124
          have hVW : SlE w124 3 partE V a n c := hVB _ (hA.chg.mono fun b _ => hB b)
          refine at_callb hA (c50' w124 hVW) fun w126 hA hk hb126 => ⟨_, _, _, _, rfl, ?_⟩
          have h126 := h124.call hb126
          refine ⟨h126.rdF nod, ?_⟩
          refine at_callb hA (c49e q.2.1 (ofA V) w126) fun w132 hA hk hb132 => ⟨_, _, _, _, _, rfl, _, rfl, ?_⟩
          refine at_stF (fr' := adE q.2.1 (ofA V)) hA (h126.call hb132) (.inr (.inl rfl)) (by simp) fun w140 hA hk hc140 h140 => ?_
          have hno2 : mget i m = none := by
            have := mget_pl m i
            rw [hpl, hno] at this
            cases hx : mget i m with
            | none => rfl
            | some y => rw [hx] at this; cases this
          refine hR _ _ (hA.chg.mono fun b _ => hB b) ⟨rfl, r, _, h140, ?_, fun b hb => ?_⟩
          · rw [msetA_fresh hno2]
            unfold pl at hpl ⊢
            rw [List.map_append, hpl]
            rfl
          · rcases hb with rfl | rfl | ⟨y, hy, rfl⟩
            · exact .inl (hB _ (.inl rfl))
            · exact .inl (hB _ (.inr (.inl rfl)))
            · rcases mem_mset hy with rfl | hy
              · exact .inr hnbW
              · exact .inl (hB _ (.inr (.inr ⟨y, hy, rfl⟩)))
end Go.Vc.J

/- The formulas of functions, printed by a program (VcTool.lean): each is what the generator's formula comes to, by the kernel's reckoning; whoever proves one has the function's contract. -/
set_option maxRecDepth 100000
set_option maxHeartbeats 1000000
set_option linter.unusedVariables false
namespace Vct
open Go Go.Vc Go.RowKit
/-! manciple/manciplelaw22.works -/
def h47 : Hints := ⟨[], [], [35, 39, 43, 47, 51, 57, 63, 69], [], [], [], [], [], []⟩
def f47_vc  (w : World) (R : Ending → World → Prop) : Prop :=
 Calls Proofs.Try.prog 39 #[Value.int IntKind.i64 2, Value.int IntKind.i64 9] w fun (e1 : Ending) (w2 : World) =>
 ∃ (a3 : Option Addr),
 e1 = Ending.returned (Value.pointer a3) ∧
 OpW Proofs.Try.prog (valueS (Instr.buildSlice 23 1 #[(0, Value.agg #[Value.int IntKind.i64 0, Value.int IntKind.i64 0, Value.int IntKind.i64 4])])) w2 fun (v4 : Value) (w5 : World) =>
 ∃ (a6 : Option Addr),
 ∃ (n7 : Nat),
 ∃ (n8 : Nat),
 v4 = Value.slice a6 n7 n8 ∧
 OpW Proofs.Try.prog (valueS (Instr.buildSlice 23 1 #[(0, Value.agg #[Value.int IntKind.i64 0, Value.int IntKind.i64 0, Value.int IntKind.i64 3])])) w5 fun (v9 : Value) (w10 : World) =>
 ∃ (a11 : Option Addr),
 ∃ (n12 : Nat),
 ∃ (n13 : Nat),
 v9 = Value.slice a11 n12 n13 ∧
 Calls Proofs.Try.prog 44 #[Value.pointer a3, Value.int IntKind.i64 1, Value.slice a6 n7 n8] w10 fun (e14 : Ending) (w15 : World) =>
 ∃ (b16 : Bool),
 ∃ (x17 : Int),
 e14 = Ending.returned (Value.tuple #[Value.bool b16, Value.int IntKind.i64 x17]) ∧
 Calls Proofs.Try.prog 44 #[Value.pointer a3, Value.int IntKind.i64 1, Value.slice a6 n7 n8] w15 fun (e18 : Ending) (w19 : World) =>
 ∃ (b20 : Bool),
 ∃ (x21 : Int),
 e18 = Ending.returned (Value.tuple #[Value.bool b20, Value.int IntKind.i64 x21]) ∧
 OpW Proofs.Try.prog (valueS (Instr.buildSlice 23 1 #[(0, Value.agg #[Value.int IntKind.i64 0, Value.int IntKind.i64 0, Value.int IntKind.i64 6])])) w19 fun (v22 : Value) (w23 : World) =>
 ∃ (a24 : Option Addr),
 ∃ (n25 : Nat),
 ∃ (n26 : Nat),
 v22 = Value.slice a24 n25 n26 ∧
 Calls Proofs.Try.prog 44 #[Value.pointer a3, Value.int IntKind.i64 2, Value.slice a24 n25 n26] w23 fun (e27 : Ending) (w28 : World) =>
 ∃ (b29 : Bool),
 ∃ (x30 : Int),
 e27 = Ending.returned (Value.tuple #[Value.bool b29, Value.int IntKind.i64 x30]) ∧
 (b16 = true →
 ((x17 == 0) = true →
 ((!b20) = true →
 ((x21 == 0) = true →
 ((x30 == 31) = true →
 Calls Proofs.Try.prog 45 #[Value.pointer a3, Value.int IntKind.i64 1, Value.slice a11 n12 n13] w28 fun (e31 : Ending) (w32 : World) =>
 ∃ (x33 : Int),
 e31 = Ending.returned (Value.int IntKind.i64 x33) ∧
 ((x33 == 0) = true →
 Calls Proofs.Try.prog 51 #[Value.pointer a3, Value.int IntKind.i64 1, Value.slice a6 n7 n8] w32 fun (e34 : Ending) (w35 : World) =>
 ∃ (x36 : Int),
 e34 = Ending.returned (Value.int IntKind.i64 x36) ∧
 ((x36 == 31) = true →
 Calls Proofs.Try.prog 40 #[Value.pointer a3] w35 fun (e37 : Ending) (w38 : World) =>
 ∃ (x39 : Int),
 ∃ (x40 : Int),
 ∃ (x41 : Int),
 ∃ (x42 : Int),
 e37 =
 Ending.returned
 (Value.agg #[Value.int IntKind.i64 x39, Value.int IntKind.i64 x40, Value.int IntKind.i64 x41, Value.int IntKind.i64 x42]) ∧
 ((x39 == 4 && (x40 == 0 && (x41 == 0 && (x42 == 0 && true)))) = true →
 Calls Proofs.Try.prog 48 #[Value.pointer a3] w38 fun (e43 : Ending) (w44 : World) =>
 ∃ (x45 : Int),
 ∃ (x46 : Int),
 ∃ (x47 : Int),
 ∃ (x48 : Int),
 e43 =
 Ending.returned
 (Value.agg
 #[Value.int IntKind.i64 x45, Value.int IntKind.i64 x46, Value.int IntKind.i64 x47,
 Value.int IntKind.i64 x48]) ∧
 R (Ending.returned (Value.bool (x45 == 1 && (x46 == 0 && (x47 == 0 && (x48 == 0 && true)))))) w44) ∧
 ((x39 == 4 && (x40 == 0 && (x41 == 0 && (x42 == 0 && true)))) = false → R (Ending.returned (Value.bool false)) w38)) ∧
 ((x36 == 31) = false → R (Ending.returned (Value.bool false)) w35)) ∧
 ((x33 == 0) = false → R (Ending.returned (Value.bool false)) w32)) ∧
 ((x30 == 31) = false → R (Ending.returned (Value.bool false)) w28)) ∧
 ((x21 == 0) = false → R (Ending.returned (Value.bool false)) w28)) ∧
 ((!b20) = false → R (Ending.returned (Value.bool false)) w28)) ∧
 ((x17 == 0) = false → R (Ending.returned (Value.bool false)) w28)) ∧
 (b16 = false → R (Ending.returned (Value.bool false)) w28)
theorem f47_eq  (w : World) (R : Ending → World → Prop) : (fnF Go.Proofs.Try.prog h47 Go.Proofs.Try.f47 [] w R).den = f47_vc  w R := by kernel_rfl
theorem f47_calls  (w : World) (R : Ending → World → Prop) (h : f47_vc  w R) : Calls Go.Proofs.Try.prog 47 (List.toArray []) w R :=
 fn_sound (H := h47) (fn := Go.Proofs.Try.f47) (by kernel_rfl) (by kernel_rfl) (by kernel_rfl) ((f47_eq  w R).mpr h)


/-! (manciple/mancipleref22.M).Do -/
def h53 : Hints := ⟨[2, 3, 4, 8, 10], [53, 67], [19, 32, 42, 47, 62, 109, 120, 124, 142, 102, 136, 81, 87, 96], [(10, [0, 1, 2, 3, 4, 5, 6, 7, 8, 9, 10]), (17, [0, 1, 2, 3, 4, 5, 6, 7, 8, 9, 10, 12, 13, 11, 14, 15, 16, 17, 18, 19, 20, 21, 22, 23])], [], [(7, ⟨[(9, .int .i64)], [(8, .cons (.int .i64) (.cons (.int .i64) (.cons (.sl) (.nil))))]⟩)], [], [], []⟩
def f53_vc (m_0 : Int) (m_1 : Int) (m_2a : Option Addr) (m_2n : Nat) (m_2c : Nat) (a_0 : Int) (a_1 : Int) (a_2a : Option Addr) (a_2n : Nat) (a_2c : Nat) (a_3a : Option Addr) (a_3n : Nat) (a_3c : Nat) (w : World) (R : Ending → World → Prop) : Prop :=
 ∀ (n1 : Nat),
 w.heap.size ≤ n1 →
 ∀ (n2 : Nat),
 w.heap.size ≤ n2 →
 ∀ (n3 : Nat),
 w.heap.size ≤ n3 →
 ((a_0 == 0) = true →
 ∀ (w4 : World),
 Bel w w4 →
 Under [n1, n2, n3] w4 →
 Calls Proofs.Try.prog 103
 #[Value.agg #[Value.int IntKind.i64 m_0, Value.int IntKind.i64 m_1, Value.slice m_2a m_2n m_2c],
 Value.agg #[Value.int IntKind.i64 a_0, Value.int IntKind.i64 a_1, Value.slice a_2a a_2n a_2c, Value.slice a_3a a_3n a_3c]]
 w4 fun (e5 : Ending) (w6 : World) =>
 ∃ (x7 : Int),
 ∃ (x8 : Int),
 ∃ (a9 : Option Addr),
 ∃ (n10 : Nat),
 ∃ (n11 : Nat),
 ∃ (b12 : Bool),
 ∃ (x13 : Int),
 e5 = Ending.returned (Value.tuple #[Value.agg #[Value.int IntKind.i64 x7, Value.int IntKind.i64 x8, Value.slice a9 n10 n11], Value.bool b12, Value.int IntKind.i64 x13]) ∧
 Keeps [n1, n2, n3] w4 w6 ∧
 ∀ (w14 : World),
 Evo [n3] w6 w14 →
 Under [n1, n2, n3] w14 →
 R (Ending.returned (Value.tuple #[Value.agg #[Value.int IntKind.i64 x7, Value.int IntKind.i64 x8, Value.slice a9 n10 n11], Value.bool b12, Value.int IntKind.i64 x13])) w14) ∧
 ((a_0 == 0) = false →
 ∀ (w15 : World),
 Bel w w15 →
 Under [n1, n2, n3] w15 →
 Calls Proofs.Try.prog 55 #[Value.agg #[Value.int IntKind.i64 m_0, Value.int IntKind.i64 m_1, Value.slice m_2a m_2n m_2c], Value.int IntKind.i64 a_1] w15 fun (e16 : Ending) (w17 : World) =>
 ∃ (x18 : Int),
 e16 = Ending.returned (Value.int IntKind.i64 x18) ∧
 Keeps [n1, n2, n3] w15 w17 ∧
 ((a_0 == 1) = true →
 ∀ (n19 : Nat),
 w17.heap.size ≤ n19 →
 ∃ (J20 : Int × Int × Int × (Option Addr × Nat × Nat) × Unit → World → Prop),
 ∃ (J21 : Int × Int × Int × (Option Addr × Nat × Nat) × Unit → World → Nat),
 (∀ (w22 : World), Evo [n19] w17 w22 → Under [n1, n2, n3, n19] w22 → J20 (0, m_0, m_1, (none, 0, 0), ()) w22) ∧
 ∀ (x23 x24 x25 : Int) (a26 : Option Addr) (n27 n28 : Nat) (w29 : World),
 J20 (x23, x24, x25, (a26, n27, n28), ()) w29 →
 (decide (x23 < (↑m_2n : Int)) = true →
 ((x23 != x18) = true →
 ∃ (ad30 : Addr),
 Gives Proofs.Try.prog (Instr.indexAt 81 (Value.slice m_2a m_2n m_2c) (Value.int IntKind.i64 x23)) (Value.pointer (some ad30)) ∧
 ∃ (x31 : Int),
 ∃ (a32 : Option Addr),
 ∃ (n33 : Nat),
 ∃ (n34 : Nat),
 ∃ (a35 : Option Addr),
 ∃ (n36 : Nat),
 ∃ (n37 : Nat),
 Reads Proofs.Try.prog [] (Instr.loadAt 89 (Value.pointer (some ad30))) w29
 (Value.agg #[Value.int IntKind.i64 x31, Value.slice a32 n33 n34, Value.slice a35 n36 n37]) ∧
 ∀ (w38 : World),
 Bel w29 w38 →
 Under [n1, n2, n3, n19] w38 →
 OpW Proofs.Try.prog (valueS (Instr.buildSlice 81 1 #[(0, Value.agg #[Value.int IntKind.i64 x31, Value.slice a32 n33 n34, Value.slice a35 n36 n37])])) w38
 fun (v39 : Value) (w40 : World) =>
 ∃ (a41 : Option Addr),
 ∃ (n42 : Nat),
 ∃ (n43 : Nat),
 v39 = Value.slice a41 n42 n43 ∧
 Keeps [n1, n2, n3, n19] w38 w40 ∧
 OpW Proofs.Try.prog (builtin Builtin.append #[81, 81] 81 #[false, false] #[Value.slice a26 n27 n28, Value.slice a41 n42 n43]) w40
 fun (v44 : Value) (w45 : World) =>
 ∃ (a46 : Option Addr),
 ∃ (n47 : Nat),
 ∃ (n48 : Nat),
 v44 = Value.slice a46 n47 n48 ∧
 Keeps [n1, n2, n3, n19] w40 w45 ∧
 ∀ (w49 : World),
 Evo [n19] w45 w49 →
 Under [n1, n2, n3, n19] w49 →
 J20 (IntKind.i64.wrap (x23 + 1), x24, x25, (a46, n47, n48), ()) w49 ∧
 J21 (IntKind.i64.wrap (x23 + 1), x24, x25, (a46, n47, n48), ()) w49 < J21 (x23, x24, x25, (a26, n27, n28), ()) w29) ∧
 ((x23 != x18) = false →
 J20 (IntKind.i64.wrap (x23 + 1), x24, x25, (a26, n27, n28), ()) w29 ∧
 J21 (IntKind.i64.wrap (x23 + 1), x24, x25, (a26, n27, n28), ()) w29 < J21 (x23, x24, x25, (a26, n27, n28), ()) w29)) ∧
 (decide (x23 < (↑m_2n : Int)) = false →
 ∀ (w50 : World),
 Evo [n3] w29 w50 →
 Under [n1, n2, n3, n19] w50 →
 R
 (Ending.returned
 (Value.tuple #[Value.agg #[Value.int IntKind.i64 x24, Value.int IntKind.i64 x25, Value.slice a26 n27 n28], Value.bool (decide (x18 ≥ 0)), Value.int IntKind.i64 0]))
 w50)) ∧
 ((a_0 == 1) = false →
 (decide (x18 < 0) = true →
 ∀ (w51 : World),
 Evo [n3] w17 w51 →
 Under [n1, n2, n3] w51 →
 R (Ending.returned (Value.tuple #[Value.agg #[Value.int IntKind.i64 m_0, Value.int IntKind.i64 m_1, Value.slice m_2a m_2n m_2c], Value.bool false, Value.int IntKind.i64 43])) w51) ∧
 (decide (x18 < 0) = false →
 ∃ (ad52 : Addr),
 Gives Proofs.Try.prog (Instr.indexAt 81 (Value.slice m_2a m_2n m_2c) (Value.int IntKind.i64 x18)) (Value.pointer (some ad52)) ∧
 ∃ (x53 : Int),
 ∃ (a54 : Option Addr),
 ∃ (n55 : Nat),
 ∃ (n56 : Nat),
 ∃ (a57 : Option Addr),
 ∃ (n58 : Nat),
 ∃ (n59 : Nat),
 Reads Proofs.Try.prog [] (Instr.loadAt 89 (Value.pointer (some ad52))) w17 (Value.agg #[Value.int IntKind.i64 x53, Value.slice a54 n55 n56, Value.slice a57 n58 n59]) ∧
 ∀ (n60 : Nat),
 w17.heap.size ≤ n60 →
 ((a_0 == 2) = true →
 ∀ (w61 : World),
 Evo [n60] w17 w61 →
 Under [n1, n2, n3, n60] w61 →
 Calls Proofs.Try.prog 104 #[Value.slice a57 n58 n59, Value.slice a_2a a_2n a_2c] w61 fun (e62 : Ending) (w63 : World) =>
 ∃ (a64 : Option Addr),
 ∃ (n65 : Nat),
 ∃ (n66 : Nat),
 ∃ (b67 : Bool),
 e62 = Ending.returned (Value.tuple #[Value.slice a64 n65 n66, Value.bool b67]) ∧
 Keeps [n1, n2, n3, n60] w61 w63 ∧
 ((!b67) = true →
 ∀ (w68 : World),
 Evo [n3] w63 w68 →
 Under [n1, n2, n3, n60] w68 →
 R
 (Ending.returned
 (Value.tuple
 #[Value.agg #[Value.int IntKind.i64 m_0, Value.int IntKind.i64 m_1, Value.slice m_2a m_2n m_2c], Value.bool false,
 Value.int IntKind.i64 30]))
 w68) ∧
 ((!b67) = false →
 ∀ (w69 : World),
 Evo [n60] w63 w69 →
 Under [n1, n2, n3, n60] w69 →
 Calls Proofs.Try.prog 107
 #[Value.agg #[Value.int IntKind.i64 m_0, Value.int IntKind.i64 m_1, Value.slice m_2a m_2n m_2c],
 Value.agg #[Value.int IntKind.i64 x53, Value.slice a54 n55 n56, Value.slice a64 n65 n66]]
 w69 fun (e70 : Ending) (w71 : World) =>
 ∃ (x72 : Int),
 ∃ (x73 : Int),
 ∃ (a74 : Option Addr),
 ∃ (n75 : Nat),
 ∃ (n76 : Nat),
 e70 = Ending.returned (Value.agg #[Value.int IntKind.i64 x72, Value.int IntKind.i64 x73, Value.slice a74 n75 n76]) ∧
 Keeps [n1, n2, n3, n60] w69 w71 ∧
 ∀ (w77 : World),
 Evo [n3] w71 w77 →
 Under [n1, n2, n3, n60] w77 →
 R
 (Ending.returned
 (Value.tuple
 #[Value.agg #[Value.int IntKind.i64 x72, Value.int IntKind.i64 x73, Value.slice a74 n75 n76], Value.bool false,
 Value.int IntKind.i64 0]))
 w77)) ∧
 ((a_0 == 2) = false →
 ((a_0 == 3) = true →
 ∀ (w78 : World),
 Evo [n60] w17 w78 →
 Under [n1, n2, n3, n60] w78 →
 Calls Proofs.Try.prog 105 #[Value.slice a57 n58 n59, Value.slice a_2a a_2n a_2c] w78 fun (e79 : Ending) (w80 : World) =>
 ∃ (a81 : Option Addr),
 ∃ (n82 : Nat),
 ∃ (n83 : Nat),
 ∃ (b84 : Bool),
 e79 = Ending.returned (Value.tuple #[Value.slice a81 n82 n83, Value.bool b84]) ∧
 Keeps [n1, n2, n3, n60] w78 w80 ∧
 ((!b84) = true →
 ∀ (w85 : World),
 Evo [n3] w80 w85 →
 Under [n1, n2, n3, n60] w85 →
 R
 (Ending.returned
 (Value.tuple
 #[Value.agg #[Value.int IntKind.i64 m_0, Value.int IntKind.i64 m_1, Value.slice m_2a m_2n m_2c], Value.bool false,
 Value.int IntKind.i64 31]))
 w85) ∧
 ((!b84) = false →
 Calls Proofs.Try.prog 106 #[Value.slice a54 n55 n56, Value.slice a81 n82 n83] w80 fun (e86 : Ending) (w87 : World) =>
 ∃ (b88 : Bool),
 e86 = Ending.returned (Value.bool b88) ∧
 Keeps [n1, n2, n3, n60] w80 w87 ∧
 ((!b88) = true →
 ∀ (w89 : World),
 Evo [n3] w87 w89 →
 Under [n1, n2, n3, n60] w89 →
 R
 (Ending.returned
 (Value.tuple
 #[Value.agg #[Value.int IntKind.i64 m_0, Value.int IntKind.i64 m_1, Value.slice m_2a m_2n m_2c], Value.bool false,
 Value.int IntKind.i64 31]))
 w89) ∧
 ((!b88) = false →
 ∀ (w90 : World),
 Evo [n60] w87 w90 →
 Under [n1, n2, n3, n60] w90 →
 Calls Proofs.Try.prog 107
 #[Value.agg #[Value.int IntKind.i64 m_0, Value.int IntKind.i64 m_1, Value.slice m_2a m_2n m_2c],
 Value.agg #[Value.int IntKind.i64 x53, Value.slice a54 n55 n56, Value.slice a81 n82 n83]]
 w90 fun (e91 : Ending) (w92 : World) =>
 ∃ (x93 : Int),
 ∃ (x94 : Int),
 ∃ (a95 : Option Addr),
 ∃ (n96 : Nat),
 ∃ (n97 : Nat),
 e91 = Ending.returned (Value.agg #[Value.int IntKind.i64 x93, Value.int IntKind.i64 x94, Value.slice a95 n96 n97]) ∧
 Keeps [n1, n2, n3, n60] w90 w92 ∧
 ∀ (w98 : World),
 Evo [n3] w92 w98 →
 Under [n1, n2, n3, n60] w98 →
 R
 (Ending.returned
 (Value.tuple
 #[Value.agg #[Value.int IntKind.i64 x93, Value.int IntKind.i64 x94, Value.slice a95 n96 n97],
 Value.bool false, Value.int IntKind.i64 0]))
 w98))) ∧
 ((a_0 == 3) = false →
 ∀ (w99 : World),
 Evo [n60] w17 w99 →
 Under [n1, n2, n3, n60] w99 →
 Calls Proofs.Try.prog 105 #[Value.slice a57 n58 n59, Value.slice a_3a a_3n a_3c] w99 fun (e100 : Ending) (w101 : World) =>
 ∃ (a102 : Option Addr),
 ∃ (n103 : Nat),
 ∃ (n104 : Nat),
 ∃ (b105 : Bool),
 e100 = Ending.returned (Value.tuple #[Value.slice a102 n103 n104, Value.bool b105]) ∧
 Keeps [n1, n2, n3, n60] w99 w101 ∧
 ((!b105) = true →
 ∀ (w106 : World),
 Evo [n3] w101 w106 →
 Under [n1, n2, n3, n60] w106 →
 R
 (Ending.returned
 (Value.tuple
 #[Value.agg #[Value.int IntKind.i64 m_0, Value.int IntKind.i64 m_1, Value.slice m_2a m_2n m_2c], Value.bool false,
 Value.int IntKind.i64 41]))
 w106) ∧
 ((!b105) = false →
 ∀ (w107 : World),
 Bel w101 w107 →
 Under [n1, n2, n3, n60] w107 →
 Calls Proofs.Try.prog 83 #[Value.slice a_2a a_2n a_2c] w107 fun (e108 : Ending) (w109 : World) =>
 ∃ (b110 : Bool),
 e108 = Ending.returned (Value.bool b110) ∧
 Keeps [n1, n2, n3, n60] w107 w109 ∧
 ((!b110) = true →
 ∀ (w111 : World),
 Evo [n3] w109 w111 →
 Under [n1, n2, n3, n60] w111 →
 R
 (Ending.returned
 (Value.tuple
 #[Value.agg #[Value.int IntKind.i64 m_0, Value.int IntKind.i64 m_1, Value.slice m_2a m_2n m_2c], Value.bool false,
 Value.int IntKind.i64 41]))
 w111) ∧
 ((!b110) = false →
 Calls Proofs.Try.prog 89 #[Value.slice a_2a a_2n a_2c] w109 fun (e112 : Ending) (w113 : World) =>
 ∃ (x114 : Int),
 ∃ (x115 : Int),
 ∃ (x116 : Int),
 ∃ (x117 : Int),
 e112 =
 Ending.returned
 (Value.agg
 #[Value.int IntKind.i64 x114, Value.int IntKind.i64 x115, Value.int IntKind.i64 x116,
 Value.int IntKind.i64 x117]) ∧
 Keeps [n1, n2, n3, n60] w109 w113 ∧
 Calls Proofs.Try.prog 89 #[Value.slice a54 n55 n56] w113 fun (e118 : Ending) (w119 : World) =>
 ∃ (x120 : Int),
 ∃ (x121 : Int),
 ∃ (x122 : Int),
 ∃ (x123 : Int),
 e118 =
 Ending.returned
 (Value.agg
 #[Value.int IntKind.i64 x120, Value.int IntKind.i64 x121, Value.int IntKind.i64 x122,
 Value.int IntKind.i64 x123]) ∧
 Keeps [n1, n2, n3, n60] w113 w119 ∧
 ((!(x114 == x120 && (x115 == x121 && (x116 == x122 && (x117 == x123 && true))))) = true →
 ∀ (w124 : World),
 Evo [n3] w119 w124 →
 Under [n1, n2, n3, n60] w124 →
 R
 (Ending.returned
 (Value.tuple
 #[Value.agg
 #[Value.int IntKind.i64 m_0, Value.int IntKind.i64 m_1,
 Value.slice m_2a m_2n m_2c],
 Value.bool false, Value.int IntKind.i64 41]))
 w124) ∧
 ((!(x114 == x120 && (x115 == x121 && (x116 == x122 && (x117 == x123 && true))))) = false →
 Calls Proofs.Try.prog 106 #[Value.slice a_2a a_2n a_2c, Value.slice a102 n103 n104] w119
 fun (e125 : Ending) (w126 : World) =>
 ∃ (b127 : Bool),
 e125 = Ending.returned (Value.bool b127) ∧
 Keeps [n1, n2, n3, n60] w119 w126 ∧
 ((!b127) = true →
 ∀ (w128 : World),
 Evo [n3] w126 w128 →
 Under [n1, n2, n3, n60] w128 →
 R
 (Ending.returned
 (Value.tuple
 #[Value.agg
 #[Value.int IntKind.i64 m_0, Value.int IntKind.i64 m_1,
 Value.slice m_2a m_2n m_2c],
 Value.bool false, Value.int IntKind.i64 41]))
 w128) ∧
 ((!b127) = false →
 ∀ (w129 : World),
 Evo [n60, n60] w126 w129 →
 Under [n1, n2, n3, n60] w129 →
 Calls Proofs.Try.prog 107
 #[Value.agg
 #[Value.int IntKind.i64 m_0, Value.int IntKind.i64 m_1,
 Value.slice m_2a m_2n m_2c],
 Value.agg
 #[Value.int IntKind.i64 x53, Value.slice a_2a a_2n a_2c,
 Value.slice a102 n103 n104]]
 w129 fun (e130 : Ending) (w131 : World) =>
 ∃ (x132 : Int),
 ∃ (x133 : Int),
 ∃ (a134 : Option Addr),
 ∃ (n135 : Nat),
 ∃ (n136 : Nat),
 e130 =
 Ending.returned
 (Value.agg
 #[Value.int IntKind.i64 x132, Value.int IntKind.i64 x133,
 Value.slice a134 n135 n136]) ∧
 Keeps [n1, n2, n3, n60] w129 w131 ∧
 ∀ (w137 : World),
 Evo [n3] w131 w137 →
 Under [n1, n2, n3, n60] w137 →
 R
 (Ending.returned
 (Value.tuple
 #[Value.agg
 #[Value.int IntKind.i64 x132,
 Value.int IntKind.i64 x133,
 Value.slice a134 n135 n136],
 Value.bool false, Value.int IntKind.i64 0]))
 w137)))))))))
theorem f53_eq (m_0 : Int) (m_1 : Int) (m_2a : Option Addr) (m_2n : Nat) (m_2c : Nat) (a_0 : Int) (a_1 : Int) (a_2a : Option Addr) (a_2n : Nat) (a_2c : Nat) (a_3a : Option Addr) (a_3n : Nat) (a_3c : Nat) (w : World) (R : Ending → World → Prop) : (fnF Go.Proofs.Try.prog h53 Go.Proofs.Try.f53 [Value.agg #[Value.int IntKind.i64 m_0, Value.int IntKind.i64 m_1, Value.slice m_2a m_2n m_2c], Value.agg #[Value.int IntKind.i64 a_0, Value.int IntKind.i64 a_1, Value.slice a_2a a_2n a_2c, Value.slice a_3a a_3n a_3c]] w R).den = f53_vc m_0 m_1 m_2a m_2n m_2c a_0 a_1 a_2a a_2n a_2c a_3a a_3n a_3c w R := by kernel_rfl
theorem f53_calls (m_0 : Int) (m_1 : Int) (m_2a : Option Addr) (m_2n : Nat) (m_2c : Nat) (a_0 : Int) (a_1 : Int) (a_2a : Option Addr) (a_2n : Nat) (a_2c : Nat) (a_3a : Option Addr) (a_3n : Nat) (a_3c : Nat) (w : World) (R : Ending → World → Prop) (h : f53_vc m_0 m_1 m_2a m_2n m_2c a_0 a_1 a_2a a_2n a_2c a_3a a_3n a_3c w R) : Calls Go.Proofs.Try.prog 53 (List.toArray [Value.agg #[Value.int IntKind.i64 m_0, Value.int IntKind.i64 m_1, Value.slice m_2a m_2n m_2c], Value.agg #[Value.int IntKind.i64 a_0, Value.int IntKind.i64 a_1, Value.slice a_2a a_2n a_2c, Value.slice a_3a a_3n a_3c]]) w R :=
 fn_sound (H := h53) (fn := Go.Proofs.Try.f53) (by kernel_rfl) (by kernel_rfl) (by kernel_rfl) ((f53_eq m_0 m_1 m_2a m_2n m_2c a_0 a_1 a_2a a_2n a_2c a_3a a_3n a_3c w R).mpr h)


/-! (manciple/mancipleref22.M).Sum -/
def h56 : Hints := ⟨[2, 4, 5], [20, 32], [11, 14], [(6, [0, 1, 2, 3, 4, 5, 6, 7, 8, 9, 10, 11, 12]), (7, [0, 1, 2, 3, 4, 5, 6, 7, 8, 9, 10, 11, 12])], [], [(3, ⟨[(6, .int .i64)], [(5, .cons (.int .i64) (.cons (.int .i64) (.cons (.int .i64) (.cons (.int .i64) (.nil)))))]⟩)], [], [], []⟩
def f56_vc (m_0 : Int) (m_1 : Int) (m_2a : Option Addr) (m_2n : Nat) (m_2c : Nat) (free : Bool) (w : World) (R : Ending → World → Prop) : Prop :=
 ∀ (n1 : Nat),
 w.heap.size ≤ n1 →
 ∀ (n2 : Nat),
 w.heap.size ≤ n2 →
 ∀ (n3 : Nat),
 w.heap.size ≤ n3 →
 ∃ (J4 : Int × Int × Int × Int × Int × Unit → World → Prop),
 ∃ (J5 : Int × Int × Int × Int × Int × Unit → World → Nat),
 (∀ (w6 : World), Bel w w6 → Under [n1, n2, n3] w6 → J4 (0, 0, 0, 0, 0, ()) w6) ∧
 ∀ (x7 x8 x9 x10 x11 : Int) (w12 : World),
 J4 (x7, x8, x9, x10, x11, ()) w12 →
 (decide (x7 < (↑m_2n : Int)) = true →
 (free = true →
 ∃ (ad13 : Addr),
 Gives Proofs.Try.prog (Instr.indexAt 81 (Value.slice m_2a m_2n m_2c) (Value.int IntKind.i64 x7)) (Value.pointer (some ad13)) ∧
 ∃ (a14 : Option Addr),
 ∃ (n15 : Nat),
 ∃ (n16 : Nat),
 Reads Proofs.Try.prog [] (Instr.loadAt 23 (Value.pointer (some (Addr.mk ad13.block (ad13.off + 2) none)))) w12 (Value.slice a14 n15 n16) ∧
 ∀ (w17 : World),
 Bel w12 w17 →
 Under [n1, n2, n3] w17 →
 Calls Proofs.Try.prog 89 #[Value.slice a14 n15 n16] w17 fun (e18 : Ending) (w19 : World) =>
 ∃ (x20 : Int),
 ∃ (x21 : Int),
 ∃ (x22 : Int),
 ∃ (x23 : Int),
 e18 = Ending.returned (Value.agg #[Value.int IntKind.i64 x20, Value.int IntKind.i64 x21, Value.int IntKind.i64 x22, Value.int IntKind.i64 x23]) ∧
 Keeps [n1, n2, n3] w17 w19 ∧
 Calls Proofs.Try.prog 88
 #[Value.agg #[Value.int IntKind.i64 x8, Value.int IntKind.i64 x9, Value.int IntKind.i64 x10, Value.int IntKind.i64 x11],
 Value.agg #[Value.int IntKind.i64 x20, Value.int IntKind.i64 x21, Value.int IntKind.i64 x22, Value.int IntKind.i64 x23]]
 w19 fun (e24 : Ending) (w25 : World) =>
 ∃ (x26 : Int),
 ∃ (x27 : Int),
 ∃ (x28 : Int),
 ∃ (x29 : Int),
 ∃ (b30 : Bool),
 e24 =
 Ending.returned
 (Value.tuple #[Value.agg #[Value.int IntKind.i64 x26, Value.int IntKind.i64 x27, Value.int IntKind.i64 x28, Value.int IntKind.i64 x29], Value.bool b30]) ∧
 Keeps [n1, n2, n3] w19 w25 ∧
 ∀ (w31 : World),
 Evo [n3] w25 w31 →
 Under [n1, n2, n3] w31 →
 J4 (IntKind.i64.wrap (x7 + 1), x26, x27, x28, x29, ()) w31 ∧
 J5 (IntKind.i64.wrap (x7 + 1), x26, x27, x28, x29, ()) w31 < J5 (x7, x8, x9, x10, x11, ()) w12) ∧
 (free = false →
 ∃ (ad32 : Addr),
 Gives Proofs.Try.prog (Instr.indexAt 81 (Value.slice m_2a m_2n m_2c) (Value.int IntKind.i64 x7)) (Value.pointer (some ad32)) ∧
 ∃ (a33 : Option Addr),
 ∃ (n34 : Nat),
 ∃ (n35 : Nat),
 Reads Proofs.Try.prog [] (Instr.loadAt 23 (Value.pointer (some (Addr.mk ad32.block (ad32.off + 1) none)))) w12 (Value.slice a33 n34 n35) ∧
 ∀ (w36 : World),
 Bel w12 w36 →
 Under [n1, n2, n3] w36 →
 Calls Proofs.Try.prog 89 #[Value.slice a33 n34 n35] w36 fun (e37 : Ending) (w38 : World) =>
 ∃ (x39 : Int),
 ∃ (x40 : Int),
 ∃ (x41 : Int),
 ∃ (x42 : Int),
 e37 = Ending.returned (Value.agg #[Value.int IntKind.i64 x39, Value.int IntKind.i64 x40, Value.int IntKind.i64 x41, Value.int IntKind.i64 x42]) ∧
 Keeps [n1, n2, n3] w36 w38 ∧
 Calls Proofs.Try.prog 88
 #[Value.agg #[Value.int IntKind.i64 x8, Value.int IntKind.i64 x9, Value.int IntKind.i64 x10, Value.int IntKind.i64 x11],
 Value.agg #[Value.int IntKind.i64 x39, Value.int IntKind.i64 x40, Value.int IntKind.i64 x41, Value.int IntKind.i64 x42]]
 w38 fun (e43 : Ending) (w44 : World) =>
 ∃ (x45 : Int),
 ∃ (x46 : Int),
 ∃ (x47 : Int),
 ∃ (x48 : Int),
 ∃ (b49 : Bool),
 e43 =
 Ending.returned
 (Value.tuple #[Value.agg #[Value.int IntKind.i64 x45, Value.int IntKind.i64 x46, Value.int IntKind.i64 x47, Value.int IntKind.i64 x48], Value.bool b49]) ∧
 Keeps [n1, n2, n3] w38 w44 ∧
 ∀ (w50 : World),
 Evo [n3] w44 w50 →
 Under [n1, n2, n3] w50 →
 J4 (IntKind.i64.wrap (x7 + 1), x45, x46, x47, x48, ()) w50 ∧
 J5 (IntKind.i64.wrap (x7 + 1), x45, x46, x47, x48, ()) w50 < J5 (x7, x8, x9, x10, x11, ()) w12)) ∧
 (decide (x7 < (↑m_2n : Int)) = false →
 ∀ (w51 : World), Evo [n2] w12 w51 → Under [n1, n2, n3] w51 → R (Ending.returned (Value.agg #[Value.int IntKind.i64 x8, Value.int IntKind.i64 x9, Value.int IntKind.i64 x10, Value.int IntKind.i64 x11])) w51)
theorem f56_eq (m_0 : Int) (m_1 : Int) (m_2a : Option Addr) (m_2n : Nat) (m_2c : Nat) (free : Bool) (w : World) (R : Ending → World → Prop) : (fnF Go.Proofs.Try.prog h56 Go.Proofs.Try.f56 [Value.agg #[Value.int IntKind.i64 m_0, Value.int IntKind.i64 m_1, Value.slice m_2a m_2n m_2c], Value.bool free] w R).den = f56_vc m_0 m_1 m_2a m_2n m_2c free w R := by kernel_rfl
theorem f56_calls (m_0 : Int) (m_1 : Int) (m_2a : Option Addr) (m_2n : Nat) (m_2c : Nat) (free : Bool) (w : World) (R : Ending → World → Prop) (h : f56_vc m_0 m_1 m_2a m_2n m_2c free w R) : Calls Go.Proofs.Try.prog 56 (List.toArray [Value.agg #[Value.int IntKind.i64 m_0, Value.int IntKind.i64 m_1, Value.slice m_2a m_2n m_2c], Value.bool free]) w R :=
 fn_sound (H := h56) (fn := Go.Proofs.Try.f56) (by kernel_rfl) (by kernel_rfl) (by kernel_rfl) ((f56_eq m_0 m_1 m_2a m_2n m_2c free w R).mpr h)


/-! (manciple/mancipleref22.M).with -/
def h107 : Hints := ⟨[2, 3, 4, 5], [26, 42, 53], [17, 32, 47, 59, 22], [(6, [0, 1, 2, 3, 4, 5, 6, 7, 8, 9, 10, 11, 12]), (9, [0, 1, 2, 3, 4, 5, 6, 7, 8]), (10, [0, 1, 2, 3, 4, 5, 6, 7, 8, 9, 10])], [], [(4, ⟨[(6, .bool), (7, .int .i64)], [(5, .cons (.int .i64) (.cons (.int .i64) (.cons (.sl) (.nil))))]⟩)], [], [], []⟩
def f107_vc (m_0 : Int) (m_1 : Int) (m_2a : Option Addr) (m_2n : Nat) (m_2c : Nat) (a_0 : Int) (a_1a : Option Addr) (a_1n : Nat) (a_1c : Nat) (a_2a : Option Addr) (a_2n : Nat) (a_2c : Nat) (w : World) (R : Ending → World → Prop) : Prop :=
 ∀ (n1 : Nat),
 w.heap.size ≤ n1 →
 ∀ (n2 : Nat),
 w.heap.size ≤ n2 →
 ∀ (n3 : Nat),
 w.heap.size ≤ n3 →
 ∀ (n4 : Nat),
 w.heap.size ≤ n4 →
 ∃ (J5 : Bool × Int × Int × Int × (Option Addr × Nat × Nat) × Unit → World → Prop),
 ∃ (J6 : Bool × Int × Int × Int × (Option Addr × Nat × Nat) × Unit → World → Nat),
 (∀ (w7 : World), Evo [n4] w w7 → Under [n1, n2, n3, n4] w7 → J5 (false, 0, m_0, m_1, (none, 0, 0), ()) w7) ∧
 ∀ (b8 : Bool) (x9 x10 x11 : Int) (a12 : Option Addr) (n13 n14 : Nat) (w15 : World),
 J5 (b8, x9, x10, x11, (a12, n13, n14), ()) w15 →
 (decide (x9 < (↑m_2n : Int)) = true →
 ((!b8) = true →
 ∃ (ad16 : Addr),
 Gives Proofs.Try.prog (Instr.indexAt 81 (Value.slice m_2a m_2n m_2c) (Value.int IntKind.i64 x9)) (Value.pointer (some ad16)) ∧
 ∃ (x17 : Int),
 Reads Proofs.Try.prog [] (Instr.loadAt 2 (Value.pointer (some ad16))) w15 (Value.int IntKind.i64 x17) ∧
 (decide (x17 ≥ a_0) = true →
 ∀ (w18 : World),
 Bel w15 w18 →
 Under [n1, n2, n3, n4] w18 →
 OpW Proofs.Try.prog (valueS (Instr.buildSlice 81 1 #[(0, Value.agg #[Value.int IntKind.i64 a_0, Value.slice a_1a a_1n a_1c, Value.slice a_2a a_2n a_2c])])) w18
 fun (v19 : Value) (w20 : World) =>
 ∃ (a21 : Option Addr),
 ∃ (n22 : Nat),
 ∃ (n23 : Nat),
 v19 = Value.slice a21 n22 n23 ∧
 Keeps [n1, n2, n3, n4] w18 w20 ∧
 OpW Proofs.Try.prog (builtin Builtin.append #[81, 81] 81 #[false, false] #[Value.slice a12 n13 n14, Value.slice a21 n22 n23]) w20 fun (v24 : Value) (w25 : World) =>
 ∃ (a26 : Option Addr),
 ∃ (n27 : Nat),
 ∃ (n28 : Nat),
 v24 = Value.slice a26 n27 n28 ∧
 Keeps [n1, n2, n3, n4] w20 w25 ∧
 ∃ (ad29 : Addr),
 Gives Proofs.Try.prog (Instr.indexAt 81 (Value.slice m_2a m_2n m_2c) (Value.int IntKind.i64 x9)) (Value.pointer (some ad29)) ∧
 ∃ (x30 : Int),
 Reads Proofs.Try.prog [n4] (Instr.loadAt 2 (Value.pointer (some ad29))) w25 (Value.int IntKind.i64 x30) ∧
 ((x30 != a_0) = true →
 ∃ (ad31 : Addr),
 Gives Proofs.Try.prog (Instr.indexAt 81 (Value.slice m_2a m_2n m_2c) (Value.int IntKind.i64 x9)) (Value.pointer (some ad31)) ∧
 ∃ (x32 : Int),
 ∃ (a33 : Option Addr),
 ∃ (n34 : Nat),
 ∃ (n35 : Nat),
 ∃ (a36 : Option Addr),
 ∃ (n37 : Nat),
 ∃ (n38 : Nat),
 Reads Proofs.Try.prog [n4] (Instr.loadAt 89 (Value.pointer (some ad31))) w25
 (Value.agg #[Value.int IntKind.i64 x32, Value.slice a33 n34 n35, Value.slice a36 n37 n38]) ∧
 ∀ (w39 : World),
 Evo [n4] w25 w39 →
 Under [n1, n2, n3, n4] w39 →
 OpW Proofs.Try.prog
 (valueS
 (Instr.buildSlice 81 1 #[(0, Value.agg #[Value.int IntKind.i64 x32, Value.slice a33 n34 n35, Value.slice a36 n37 n38])]))
 w39 fun (v40 : Value) (w41 : World) =>
 ∃ (a42 : Option Addr),
 ∃ (n43 : Nat),
 ∃ (n44 : Nat),
 v40 = Value.slice a42 n43 n44 ∧
 Keeps [n1, n2, n3, n4] w39 w41 ∧
 OpW Proofs.Try.prog
 (builtin Builtin.append #[81, 81] 81 #[false, false] #[Value.slice a26 n27 n28, Value.slice a42 n43 n44]) w41
 fun (v45 : Value) (w46 : World) =>
 ∃ (a47 : Option Addr),
 ∃ (n48 : Nat),
 ∃ (n49 : Nat),
 v45 = Value.slice a47 n48 n49 ∧
 Keeps [n1, n2, n3, n4] w41 w46 ∧
 ∀ (w50 : World),
 Evo [n4] w46 w50 →
 Under [n1, n2, n3, n4] w50 →
 J5 (true, IntKind.i64.wrap (x9 + 1), x10, x11, (a47, n48, n49), ()) w50 ∧
 J6 (true, IntKind.i64.wrap (x9 + 1), x10, x11, (a47, n48, n49), ()) w50 <
 J6 (b8, x9, x10, x11, (a12, n13, n14), ()) w15) ∧
 ((x30 != a_0) = false →
 ∀ (w51 : World),
 Evo [n4] w25 w51 →
 Under [n1, n2, n3, n4] w51 →
 J5 (true, IntKind.i64.wrap (x9 + 1), x10, x11, (a26, n27, n28), ()) w51 ∧
 J6 (true, IntKind.i64.wrap (x9 + 1), x10, x11, (a26, n27, n28), ()) w51 < J6 (b8, x9, x10, x11, (a12, n13, n14), ()) w15)) ∧
 (decide (x17 ≥ a_0) = false →
 ∃ (ad52 : Addr),
 Gives Proofs.Try.prog (Instr.indexAt 81 (Value.slice m_2a m_2n m_2c) (Value.int IntKind.i64 x9)) (Value.pointer (some ad52)) ∧
 ∃ (x53 : Int),
 Reads Proofs.Try.prog [] (Instr.loadAt 2 (Value.pointer (some ad52))) w15 (Value.int IntKind.i64 x53) ∧
 ((x53 != a_0) = true →
 ∃ (ad54 : Addr),
 Gives Proofs.Try.prog (Instr.indexAt 81 (Value.slice m_2a m_2n m_2c) (Value.int IntKind.i64 x9)) (Value.pointer (some ad54)) ∧
 ∃ (x55 : Int),
 ∃ (a56 : Option Addr),
 ∃ (n57 : Nat),
 ∃ (n58 : Nat),
 ∃ (a59 : Option Addr),
 ∃ (n60 : Nat),
 ∃ (n61 : Nat),
 Reads Proofs.Try.prog [] (Instr.loadAt 89 (Value.pointer (some ad54))) w15
 (Value.agg #[Value.int IntKind.i64 x55, Value.slice a56 n57 n58, Value.slice a59 n60 n61]) ∧
 ∀ (w62 : World),
 Bel w15 w62 →
 Under [n1, n2, n3, n4] w62 →
 OpW Proofs.Try.prog (valueS (Instr.buildSlice 81 1 #[(0, Value.agg #[Value.int IntKind.i64 x55, Value.slice a56 n57 n58, Value.slice a59 n60 n61])])) w62
 fun (v63 : Value) (w64 : World) =>
 ∃ (a65 : Option Addr),
 ∃ (n66 : Nat),
 ∃ (n67 : Nat),
 v63 = Value.slice a65 n66 n67 ∧
 Keeps [n1, n2, n3, n4] w62 w64 ∧
 OpW Proofs.Try.prog (builtin Builtin.append #[81, 81] 81 #[false, false] #[Value.slice a12 n13 n14, Value.slice a65 n66 n67]) w64
 fun (v68 : Value) (w69 : World) =>
 ∃ (a70 : Option Addr),
 ∃ (n71 : Nat),
 ∃ (n72 : Nat),
 v68 = Value.slice a70 n71 n72 ∧
 Keeps [n1, n2, n3, n4] w64 w69 ∧
 ∀ (w73 : World),
 Evo [n4] w69 w73 →
 Under [n1, n2, n3, n4] w73 →
 J5 (b8, IntKind.i64.wrap (x9 + 1), x10, x11, (a70, n71, n72), ()) w73 ∧
 J6 (b8, IntKind.i64.wrap (x9 + 1), x10, x11, (a70, n71, n72), ()) w73 < J6 (b8, x9, x10, x11, (a12, n13, n14), ()) w15) ∧
 ((x53 != a_0) = false →
 ∀ (w74 : World),
 Bel w15 w74 →
 Under [n1, n2, n3, n4] w74 →
 J5 (b8, IntKind.i64.wrap (x9 + 1), x10, x11, (a12, n13, n14), ()) w74 ∧
 J6 (b8, IntKind.i64.wrap (x9 + 1), x10, x11, (a12, n13, n14), ()) w74 < J6 (b8, x9, x10, x11, (a12, n13, n14), ()) w15))) ∧
 ((!b8) = false →
 ∃ (ad75 : Addr),
 Gives Proofs.Try.prog (Instr.indexAt 81 (Value.slice m_2a m_2n m_2c) (Value.int IntKind.i64 x9)) (Value.pointer (some ad75)) ∧
 ∃ (x76 : Int),
 Reads Proofs.Try.prog [] (Instr.loadAt 2 (Value.pointer (some ad75))) w15 (Value.int IntKind.i64 x76) ∧
 ((x76 != a_0) = true →
 ∃ (ad77 : Addr),
 Gives Proofs.Try.prog (Instr.indexAt 81 (Value.slice m_2a m_2n m_2c) (Value.int IntKind.i64 x9)) (Value.pointer (some ad77)) ∧
 ∃ (x78 : Int),
 ∃ (a79 : Option Addr),
 ∃ (n80 : Nat),
 ∃ (n81 : Nat),
 ∃ (a82 : Option Addr),
 ∃ (n83 : Nat),
 ∃ (n84 : Nat),
 Reads Proofs.Try.prog [] (Instr.loadAt 89 (Value.pointer (some ad77))) w15 (Value.agg #[Value.int IntKind.i64 x78, Value.slice a79 n80 n81, Value.slice a82 n83 n84]) ∧
 ∀ (w85 : World),
 Bel w15 w85 →
 Under [n1, n2, n3, n4] w85 →
 OpW Proofs.Try.prog (valueS (Instr.buildSlice 81 1 #[(0, Value.agg #[Value.int IntKind.i64 x78, Value.slice a79 n80 n81, Value.slice a82 n83 n84])])) w85
 fun (v86 : Value) (w87 : World) =>
 ∃ (a88 : Option Addr),
 ∃ (n89 : Nat),
 ∃ (n90 : Nat),
 v86 = Value.slice a88 n89 n90 ∧
 Keeps [n1, n2, n3, n4] w85 w87 ∧
 OpW Proofs.Try.prog (builtin Builtin.append #[81, 81] 81 #[false, false] #[Value.slice a12 n13 n14, Value.slice a88 n89 n90]) w87
 fun (v91 : Value) (w92 : World) =>
 ∃ (a93 : Option Addr),
 ∃ (n94 : Nat),
 ∃ (n95 : Nat),
 v91 = Value.slice a93 n94 n95 ∧
 Keeps [n1, n2, n3, n4] w87 w92 ∧
 ∀ (w96 : World),
 Evo [n4] w92 w96 →
 Under [n1, n2, n3, n4] w96 →
 J5 (b8, IntKind.i64.wrap (x9 + 1), x10, x11, (a93, n94, n95), ()) w96 ∧
 J6 (b8, IntKind.i64.wrap (x9 + 1), x10, x11, (a93, n94, n95), ()) w96 < J6 (b8, x9, x10, x11, (a12, n13, n14), ()) w15) ∧
 ((x76 != a_0) = false →
 ∀ (w97 : World),
 Bel w15 w97 →
 Under [n1, n2, n3, n4] w97 →
 J5 (b8, IntKind.i64.wrap (x9 + 1), x10, x11, (a12, n13, n14), ()) w97 ∧
 J6 (b8, IntKind.i64.wrap (x9 + 1), x10, x11, (a12, n13, n14), ()) w97 < J6 (b8, x9, x10, x11, (a12, n13, n14), ()) w15))) ∧
 (decide (x9 < (↑m_2n : Int)) = false →
 ((!b8) = true →
 OpW Proofs.Try.prog (valueS (Instr.buildSlice 81 1 #[(0, Value.agg #[Value.int IntKind.i64 a_0, Value.slice a_1a a_1n a_1c, Value.slice a_2a a_2n a_2c])])) w15 fun (v98 : Value) (w99 : World) =>
 ∃ (a100 : Option Addr),
 ∃ (n101 : Nat),
 ∃ (n102 : Nat),
 v98 = Value.slice a100 n101 n102 ∧
 Keeps [n1, n2, n3, n4] w15 w99 ∧
 OpW Proofs.Try.prog (builtin Builtin.append #[81, 81] 81 #[false, false] #[Value.slice a12 n13 n14, Value.slice a100 n101 n102]) w99 fun (v103 : Value) (w104 : World) =>
 ∃ (a105 : Option Addr),
 ∃ (n106 : Nat),
 ∃ (n107 : Nat),
 v103 = Value.slice a105 n106 n107 ∧
 Keeps [n1, n2, n3, n4] w99 w104 ∧
 ∀ (w108 : World),
 Evo [n3, n4] w104 w108 → Under [n1, n2, n3, n4] w108 → R (Ending.returned (Value.agg #[Value.int IntKind.i64 x10, Value.int IntKind.i64 x11, Value.slice a105 n106 n107])) w108) ∧
 ((!b8) = false → ∀ (w109 : World), Evo [n3] w15 w109 → Under [n1, n2, n3, n4] w109 → R (Ending.returned (Value.agg #[Value.int IntKind.i64 x10, Value.int IntKind.i64 x11, Value.slice a12 n13 n14])) w109))
theorem f107_eq (m_0 : Int) (m_1 : Int) (m_2a : Option Addr) (m_2n : Nat) (m_2c : Nat) (a_0 : Int) (a_1a : Option Addr) (a_1n : Nat) (a_1c : Nat) (a_2a : Option Addr) (a_2n : Nat) (a_2c : Nat) (w : World) (R : Ending → World → Prop) : (fnF Go.Proofs.Try.prog h107 Go.Proofs.Try.f107 [Value.agg #[Value.int IntKind.i64 m_0, Value.int IntKind.i64 m_1, Value.slice m_2a m_2n m_2c], Value.agg #[Value.int IntKind.i64 a_0, Value.slice a_1a a_1n a_1c, Value.slice a_2a a_2n a_2c]] w R).den = f107_vc m_0 m_1 m_2a m_2n m_2c a_0 a_1a a_1n a_1c a_2a a_2n a_2c w R := by kernel_rfl
theorem f107_calls (m_0 : Int) (m_1 : Int) (m_2a : Option Addr) (m_2n : Nat) (m_2c : Nat) (a_0 : Int) (a_1a : Option Addr) (a_1n : Nat) (a_1c : Nat) (a_2a : Option Addr) (a_2n : Nat) (a_2c : Nat) (w : World) (R : Ending → World → Prop) (h : f107_vc m_0 m_1 m_2a m_2n m_2c a_0 a_1a a_1n a_1c a_2a a_2n a_2c w R) : Calls Go.Proofs.Try.prog 107 (List.toArray [Value.agg #[Value.int IntKind.i64 m_0, Value.int IntKind.i64 m_1, Value.slice m_2a m_2n m_2c], Value.agg #[Value.int IntKind.i64 a_0, Value.slice a_1a a_1n a_1c, Value.slice a_2a a_2n a_2c]]) w R :=
 fn_sound (H := h107) (fn := Go.Proofs.Try.f107) (by kernel_rfl) (by kernel_rfl) (by kernel_rfl) ((f107_eq m_0 m_1 m_2a m_2n m_2c a_0 a_1a a_1n a_1c a_2a a_2n a_2c w R).mpr h)

end Vct

/- Agents: copies, Get, All, what is done. -/
set_option maxRecDepth 20000
set_option maxHeartbeats 1000000
namespace Go.Vc.J
open Go Go.Vc Go.Vc.V Go.RowKit Go.Proofs Vct

variable {w W W' W2 : World} {M N : Nat → Prop} {gs ds : List Nat} {g r : Nat} {cap most : Int} {su fr : Ar4} {m : AgM} {B : Nat → Prop} {q : AgQ}

/-- A vector in new memory. -/
def VN (W0 W : World) (l : List PartT) (s : Sl3) : Prop := VB W l s ∧ ∀ ad, s.1 = some ad → W0.heap.size ≤ ad.block
theorem VN.of_own {W0 : World} {l : List PartT} {a : Option Addr} {c : Nat} (ho : OwnL W0 gs W 73 3 partE (.slice a l.length c) l) : VN W0 W l (a, l.length, c) :=
  ⟨VB.of_own ho, fun ad hb => by
    rcases ho.row0.2 with ⟨hv, _⟩ | ⟨g', cap', cur, hv, _, hgg, _⟩
    · obtain ⟨rfl, _⟩ := Value.slice.inj hv
      cases hb
    · have hm := ho.mine g' (by rw [hv]; rfl)
      obtain ⟨rfl, _⟩ := Value.slice.inj hv
      cases hb
      simpa using hm⟩
theorem VN.call {W0 : World} {l : List PartT} {s : Sl3} (h : VN W0 W l s) (hb : Bel W W') : VN W0 W' l s := ⟨h.1.call hb, h.2⟩
theorem VN.chg {W0 : World} {l : List PartT} {s : Sl3} (h : VN W0 W l s) (hc : Chg N W W') (hN : ∀ b cur, N b → W.heap[b]? ≠ some (.cells cur 73 (0, 0))) : VN W0 W' l s := ⟨h.1.chg hc hN, h.2⟩
theorem VN.base {W0 W1 : World} {l : List PartT} {s : Sl3} (h : VN W1 W l s) (hs : W0.heap.size ≤ W1.heap.size) : VN W0 W l s := ⟨h.1, fun ad hb => Nat.le_trans hs (h.2 ad hb)⟩
abbrev AgR := Int × AgD × (Sl3 × Sl3)
abbrev agRE (x : AgR) : List Value := agC x.1 x.2.2
abbrev agRV (x : AgR) : Value := .agg #[.int .i64 x.1, slV x.2.2.1, slV x.2.2.2]
def AN (W0 W : World) (x : AgR) : Prop := VN W0 W x.2.1.1 x.2.2.1 ∧ VN W0 W x.2.1.2 x.2.2.2
theorem AN.call {W0 : World} {x : AgR} (h : AN W0 W x) (hb : Bel W W') : AN W0 W' x := ⟨h.1.call hb, h.2.call hb⟩
theorem AN.chg {W0 : World} {x : AgR} (h : AN W0 W x) (hc : Chg N W W') (hN : ∀ b cur, N b → W.heap[b]? ≠ some (.cells cur 73 (0, 0))) : AN W0 W' x := ⟨h.1.chg hc hN, h.2.chg hc hN⟩
theorem c91 {x : Int × AgE} (h : AgS W g r cap most su fr m) (hx : x ∈ m) : RetQ Try.prog 91 #[ptr x.2.1] W fun v w' => ∃ s : Sl3 × Sl3, v = agRV (x.1, x.2.2.1, s) ∧ AN W w' (x.1, x.2.2.1, s) := by
  intro R hR
  refine f91_calls _ W R ?_
  unfold f91_vc
  obtain ⟨k1, k2⟩ := h.ok x hx
  have l1 := vec_len' k1
  have l2 := vec_len' k2
  intro n1 hn1
  refine ⟨_, rfl, _, h.rdI hx nod, _, rfl, _, _, _, h.rdT hx nod, _, rfl, _, _, _, h.rdV hx nod, fun w12 hb12 hu => ?_⟩
  have hA : At W [n1] w12 := ⟨((At.refl W).call hb12).chg, hu⟩
  have h12 := h.call hb12
  refine at_calll hA (c79 w12 (h12.vT x hx).1 (by omega)) (fun _ _ => rfl) fun a15 c17 w14 hA hk hb14 ho1 hs1 => ⟨_, _, _, rfl, hk, ?_⟩
  have h14 := h12.call hb14
  refine ⟨h14.rdV hx nod, h14.rdI hx nod, ?_⟩
  refine at_calll hA (c79 w14 (h14.vF x hx).1 (by omega)) (fun _ _ => rfl) fun a20 c22 w19 hA hk hb19 ho2 hs2 => ⟨_, _, _, rfl, hk, (h14.call hb19).rdI hx nod, fun w23 hev hu => ?_⟩
  have ho1 := (ho1.call hb19).evo (by intro d hd hd2; simp at hd hd2; omega) hev
  have ho2 := ho2.evo (by intro d hd hd2; simp at hd hd2; omega) hev
  exact hR _ _ (hA.evo (by simp; omega) hev hu).below ⟨((a15, x.2.2.1.1.length, c17), (a20, x.2.2.1.2.length, c22)), rfl, VN.of_own ho1, VN.of_own ho2⟩
abbrev zAgR : AgR := (0, ([], []), ((none, 0, 0), (none, 0, 0)))
/-- What Get tells. -/
def getA (W : World) (D : AgL) (i : Int) (v : Value) (w' : World) : Prop := match mget i D with
  | none => v = .tuple #[agRV zAgR, .bool false]
  | some d => ∃ s, v = .tuple #[agRV (i, d, s), .bool true] ∧ AN W w' (i, d, s)
theorem c54 (h : AgX W B g cap most q) (i : Int) : RetQ Try.prog 54 #[ptr g, .int .i64 i] W (getA W q.2.2 i) := by
  intro R hR
  refine f54_calls _ _ W R ?_
  unfold f54_vc
  obtain ⟨r, m, h, hpl, hB⟩ := h
  intro n1 hn1 w2 hb2 hu2
  have hA : At W [n1] w2 := ⟨((At.refl W).call hb2).chg, hu2⟩
  have h2 := h.call hb2
  refine at_callb hA (c97 i h2) fun w4 hA hk hb4 => ?_
  unfold getA at hR
  rcases find_cases (i := i) rfl hpl with ⟨e1, e2⟩ | ⟨x, hx, rfl, e1, e2⟩
  · rw [e1]
    rw [e2] at hR
    exact ⟨_, _, rfl, hk, brN (fun _ w7 hev hu => hR _ _ (hA.evo (by simp; omega) hev hu).below rfl) (fun e => absurd e (by decide))⟩
  · rw [e1]
    rw [e2] at hR
    have hsz := hA.size
    refine ⟨_, _, rfl, hk, brN (fun e => absurd rfl e) (fun _ => ?_)⟩
    refine at_callq hA (c91 (h2.call hb4) hx) fun v w9 hA hk hb9 ⟨s, e, han⟩ => ?_
    subst e
    refine ⟨_, _, _, _, _, _, _, rfl, hk, fun w17 hev hu => ?_⟩
    refine hR _ _ (hA.evo (by simp; omega) hev hu).below ⟨s, rfl, ?_⟩
    have hn1 : n1 < w4.heap.size := Nat.lt_of_lt_of_le (hu2 n1 (by simp)) hb4.size
    have vn : ∀ {l : List PartT} {s : Sl3}, VN w4 w9 l s → VN W w17 l s := fun {l s} hv => by
      refine ⟨⟨sle_chg hv.1.1 (Chg.of_evo hev) fun b hb hm => ?_, fun ad hb => ?_⟩, fun ad hb => by have := hv.2 ad hb; omega⟩
      · have := hv.2 b hb
        simp at hm
        omega
      · obtain ⟨cur, hc⟩ := hv.1.2 ad hb
        refine ⟨cur, ((Chg.of_evo hev).block _ (Array.getElem?_eq_some_iff.1 hc).1 fun hm => ?_).trans hc⟩
        have := hv.2 ad hb
        simp at hm
        omega
    exact ⟨vn han.1, vn han.2⟩
/-! ### All -/
def cfA (x y : AgR) : Int := sg x.1 y.1
theorem cfA_lt (x y : AgR) : cfA x y < 0 ↔ x.1 < y.1 := by
  unfold cfA sg
  repeat' split
  all_goals omega
theorem swoA : Go.Sort.SWO (ltOf cfA) where
  irrefl x := by
    unfold ltOf
    rw [decide_eq_false_iff_not, cfA_lt]
    omega
  trans x y z h k := by
    unfold ltOf at *
    rw [decide_eq_true_iff, cfA_lt] at *
    omega
  ntrans x y z h k := by
    unfold ltOf at *
    rw [decide_eq_false_iff_not, cfA_lt] at *
    omega
theorem c93 (x y : AgR) (W : World) : Ret Try.prog 93 #[agRV x, agRV y] W (.int .i64 (cfA x y)) := by
  intro R h
  refine f93_calls _ _ _ _ _ _ _ _ _ _ _ _ _ _ W R ?_
  unfold f93_vc
  intro n1 hn1 n2 hn2 w3 hb3 hu3
  have hA : At W [n1, n2] w3 := ⟨((At.refl W).call hb3).chg, hu3⟩
  exact at_callb hA (c94 _ _ w3) fun w5 hA hk _ => ⟨_, rfl, hk, leaf h hA rfl⟩
theorem ag_one (x : AgR) : ∀ u ∈ agRE x, u.oneCell' = true := fun u hu => by
  simp at hu
  rcases hu with rfl | rfl | rfl <;> rfl
theorem at_sortA {a : Option Addr} {n c : Nat} {l : List AgR} {K : Ending → World → Prop} (hA : AtF w M gs W) (ho : OwnF w M gs W 89 3 agRE (.slice a n c) l) (hl : l.length < 4611686018427387904)
    (hK : ∀ l' w', AtF w M gs w' → Keeps gs W w' → Chg (fun b => (Value.slice a n c).ownBlock = some b) W w' → OwnF w M gs w' 89 3 agRE (.slice a n c) l' → l'.Perm l → l'.Pairwise (fun x y => ¬ cfA y x < 0) → K (.returned (.tuple #[])) w') :
    Calls Try.prog 92 #[.slice a n c, .func (.func 93) #[] #[]] W K :=
  at_sortFunc (P := Try.prog) (ρ := Try.sortAg_ren) Try.sortAg (k := 3) (f := agRE) (e := 89) (by kernel_rfl) (by kernel_rfl) (fun _ => rfl) ag_one cfA swoA (g := 93) (cb := #[])
    (enters_of Try.func93 (by kernel_rfl) rfl) hA ho (fun W' _ x y => c93 x y W') hl hK
abbrev plR (x : AgR) : Int × AgD := (x.1, x.2.1)
def allQ (W : World) (D : AgL) (v : Value) (w' : World) : Prop := ∃ (l : List AgR) (a : Option Addr) (c : Nat), v = .slice a l.length c ∧ OwnL W [] w' 89 3 agRE (.slice a l.length c) l ∧ (∀ x ∈ l, AN W w' x) ∧ (l.map plR).Perm D ∧ l.Pairwise fun x y => ¬ y.1 < x.1
theorem c41 (h : AgX W B g cap most q) (hl : q.2.2.length ≤ 1000) : RetQ Try.prog 41 #[ptr g] W (allQ W q.2.2) := by
  intro R hR
  refine f41_calls _ W R ?_
  unfold f41_vc
  obtain ⟨r, m, h, hpl, hB⟩ := h
  rw [← hpl] at hR hl
  have hpll : (pl m).length = m.length := by unfold pl; rw [List.length_map]
  have h0 := h
  refine at_callb (At.refl W) (c90 h) fun w2 hA _ hb2 => ⟨_, rfl, brB (fun _ => ?_) (fun e => by cases e)⟩
  have h := h.call hb2
  refine ⟨_, rfl, _, h.rdR nod, ?_⟩
  refine opw_range (w0 := W) (M0 := fun b => b = r) (gs0 := []) (kt := 2) (et := 144) (by kernel_rfl) hA (OwnM.re h.mp rfl (.inr rfl) (by simp)) fun it w7 hq hA _ hb7 hi => ⟨_, rfl, ?_⟩
  refine ⟨fun v W' => At W [] W' ∧ ∃ out rest cur, OwnL W [] W' 89 3 agRE (.slice v.1.1 v.1.2.1 v.1.2.2) out ∧ Itr W noB [] W' it r (Value.int .i64) agP m rest cur ∧ (∀ x ∈ out, AN W W' x) ∧ (out.map plR ++ pl rest).Perm (pl m) ∧ (∀ x ∈ rest, x ∈ m),
    fun _ W' => itLeft W' it r, ⟨hA, [], m, none, OwnL.nil, hi, by simp, by simp, fun x hx => hx⟩, ?_⟩
  rintro a11 n12 n13 w14 ⟨hA, out, rest, cur, hout, hi, hvo, hperm, hsub⟩
  simp only at hout
  have hn12 := hout.len
  have hlen : out.length ≤ m.length := by
    have h1 := hperm.length_eq
    rw [List.length_append, List.length_map, hpll] at h1
    omega
  have hleft := hi.left
  have hi14 := hi
  have hob : ∀ k, (Value.slice a11 n12 n13).ownBlock = some k → k ≠ it := fun k hk e => by
    obtain ⟨cur', hcur⟩ := hout.blk hk
    obtain ⟨es, clock, since, c0, seen, _, _, _, _, h5, _⟩ := hi.obj
    subst e
    rw [hcur] at h5
    cases h5
  refine opw_next hA hi (fun hr => ⟨.inl rfl, fun _ => ?_, fun _ _ e => by simp at e⟩) fun x ra rb w16 hr hA hk hch hi => ⟨.inr ⟨(x.1, some ⟨x.2.1, 0, none⟩, ()), rfl⟩, fun e => by simp at e, fun _ _ _ => ?_⟩
  · subst hr
    simp only [pl, List.map_nil, List.append_nil] at hperm
    refine at_sortA hA hout (by omega) fun l' w18 hA _ hch ho' hp hw => ⟨rfl, ?_⟩
    have hll : l'.length = out.length := hp.length_eq
    have e : n12 = l'.length := by omega
    subst e
    refine hR _ _ hA.below ⟨l', a11, n13, rfl, ho', fun x hx => (hvo x (hp.mem_iff.1 hx)).chg hch fun b cur hown hc => ?_, (hp.map _).trans hperm, hw.imp fun h hh => h ((cfA_lt _ _).2 hh)⟩
    obtain ⟨cur', hc'⟩ := hout.blk hown
    exact cells_ne hc' hc (by decide) rfl
  · have hout := hout.chg hch fun k hk e => hob k hk e
    have hvo : ∀ x ∈ out, AN W w16 x := fun x hx => (hvo x hx).chg hch fun b cur' e hc => by
      obtain ⟨es, clock, since, c0, seen, _, _, _, _, h5, _⟩ := hi14.obj
      rw [e, h5] at hc
      cases hc
    have hxm : x ∈ m := hsub x (by rw [hr]; simp)
    refine opw_entry hi ⟨_, _, rfl, ?_⟩
    have B0 : At w16 [] w16 := At.refl w16
    have hsz0 := hi.left
    rw [hr] at hleft
    simp only [List.length_append, List.length_cons] at hleft hsz0
    have hrs : ∀ y ∈ ra ++ rb, y ∈ m := fun y hy => hsub y (by
      rw [hr]
      rcases List.mem_append.1 hy with hy | hy
      · exact List.mem_append_left _ hy
      · exact List.mem_append_right _ (List.mem_cons_of_mem _ hy))
    have hw16 : W.heap.size ≤ w16.heap.size := hA.size
    refine at_callq hA (c91 (h0.call hA.below) hxm) fun v w26 hA hk hb26 ⟨s, e, han⟩ => ?_
    subst e
    refine ⟨_, _, _, _, _, _, _, rfl, ?_⟩
    have hout := hout.call hb26
    refine opw_push0 (f := agRE) (e' := 89) (bytes := 56) hA hout (x.1, x.2.2.1, s) (by kernel_rfl) (by kernel_rfl) rfl (fun _ _ => rfl) (ag_one _) (by omega) (by decide) fun a2 c2 w40 hA hout' hgr _ => ?_
    have keep73 : ∀ {y : AgR}, AN W w26 y → AN W w40 y := fun {y} hy => by
      have one : ∀ {l : List PartT} {s : Sl3}, VN W w26 l s → VN W w40 l s := fun {l s} hv => by
        have kb : ∀ (b : Nat) (cur : Array Value), w26.heap[b]? = some (Obj.cells cur 73 (0, 0)) → w40.heap[b]? = w26.heap[b]? := fun b cur hc => hgr.block b (Array.getElem?_eq_some_iff.1 hc).1 fun e => by
          obtain ⟨cur', hc'⟩ := hout.blk e.symm
          exact cells_ne hc' hc (by decide) rfl
        refine ⟨⟨?_, fun ad hb => ?_⟩, hv.2⟩
        · obtain ⟨h1, h2, h3, h4, h6⟩ := hv.1.1
          refine ⟨h1, h2, h3, h4, fun i y hy => ?_⟩
          obtain ⟨ad, cs, ha, hl, hcs, hr⟩ := h6 i y hy
          obtain ⟨cur, hc⟩ := hv.1.2 ad ha
          refine ⟨ad, cs, ha, hl, fun j v hv => ?_, hr⟩
          rw [World.cell?_of_block (w := w26) (w' := w40) (by rw [add_block, add_block]; exact kb _ cur hc)]
          exact hcs j v hv
        · obtain ⟨cur, hc⟩ := hv.1.2 ad hb
          exact ⟨cur, (kb _ cur hc).trans hc⟩
      exact ⟨one hy.1, one hy.2⟩
    have hi26 := hi.call hb26
    have hq40 : w40.heap[it]? = w26.heap[it]? := hgr.block it hi26.lts.1 fun e => hob it e.symm rfl
    have hr40 : w40.heap[r]? = w26.heap[r]? := hgr.block r hi26.lts.2.1 fun e => by
      obtain ⟨cur', hc'⟩ := hout.blk e.symm
      obtain ⟨es, clock, since, c0, seen, h5, _⟩ := hi26.obj
      rw [hc'] at h5
      cases h5
    have hi40 := hi26.keep hq40 hr40
    refine ⟨⟨hA, out ++ [(x.1, x.2.2.1, s)], ra ++ rb, some x, hout', hi40, fun y hy => ?_, ?_, hrs⟩, ?_⟩
    · rcases List.mem_append.1 hy with hy | hy
      · exact keep73 ((hvo y hy).call hb26)
      · rw [List.mem_singleton] at hy
        subst hy
        exact keep73 ⟨han.1.base hw16, han.2.base hw16⟩
    · rw [hr] at hperm
      unfold pl at hperm ⊢
      rw [List.map_append, List.map_cons] at hperm
      rw [List.map_append, List.map_append, List.append_assoc]
      refine List.Perm.trans ?_ hperm
      refine List.Perm.append_left _ ?_
      show ([(x.1, x.2.2.1)] ++ (_ ++ _)).Perm _
      rw [List.singleton_append]
      exact List.perm_middle.symm
    · have := hi40.left
      rw [List.length_append] at this
      simp only
      omega
end Go.Vc.J

/- Agents, plainly: what holds whatever is done. -/
set_option maxRecDepth 20000
set_option maxHeartbeats 1000000
namespace Go.Vc.J
open Go Go.Vc Go.Vc.V Go.RowKit Go.Proofs

variable {cap most : Int} {q : AgQ} {D : AgL}

def sumD (f : Int × AgD → Int) (D : AgL) : Int := (D.map f).sum
theorem sumD_cons (f : Int × AgD → Int) (x : Int × AgD) (D : AgL) : sumD f (x :: D) = f x + sumD f D := by simp [sumD]
theorem sumD_append (f : Int × AgD → Int) (D E : AgL) : sumD f (D ++ E) = sumD f D + sumD f E := by simp [sumD]
theorem sumD_nonneg {f : Int × AgD → Int} (h : ∀ x ∈ D, 0 ≤ f x) : 0 ≤ sumD f D := by
  induction D with
  | nil => simp [sumD]
  | cons x D ih =>
    rw [sumD_cons]
    have := h x (by simp)
    have := ih fun y hy => h y (by simp [hy])
    omega
theorem sumD_le {f g : Int × AgD → Int} (h : ∀ x ∈ D, f x ≤ g x) : sumD f D ≤ sumD g D := by
  induction D with
  | nil => simp [sumD]
  | cons x D ih =>
    rw [sumD_cons, sumD_cons]
    have := h x (by simp)
    have := ih fun y hy => h y (by simp [hy])
    omega
theorem mem_mdelA {k : Int} : ∀ {D : AgL} {x : Int × AgD}, x ∈ mdel k D → x ∈ D := mem_mdel
theorem sumD_mdel {f : Int × AgD → Int} {i : Int} {d : AgD} (hx : mget i D = some d) : sumD f D = f (i, d) + sumD f (mdel i D) := by
  induction D with
  | nil => cases hx
  | cons x D ih =>
    unfold mget at hx
    unfold mdel
    by_cases h : i = x.1
    · rw [if_pos h] at hx ⊢
      cases hx
      rw [sumD_cons, h]
    · rw [if_neg h] at hx ⊢
      rw [sumD_cons, sumD_cons, ih hx]
      omega
theorem setD_none {i : Int} {d : AgD} (h : i ∉ D.map (·.1)) : setD D i d = D := by
  unfold setD
  conv => rhs; rw [← List.map_id D]
  refine List.map_congr_left fun x hx => ?_
  rw [if_neg fun e => h (List.mem_map.2 ⟨x, hx, e⟩)]
  rfl
theorem sumD_setD {f : Int × AgD → Int} {i : Int} {d d0 : AgD} (hn : (D.map (·.1)).Nodup) (hx : mget i D = some d0) : sumD f (setD D i d) = f (i, d) + sumD f (mdel i D) := by
  induction D with
  | nil => cases hx
  | cons x D ih =>
    rw [List.map_cons, List.nodup_cons] at hn
    unfold mget at hx
    unfold mdel
    have e : setD (x :: D) i d = (if x.1 = i then (x.1, d) else x) :: setD D i d := rfl
    rw [e, sumD_cons]
    by_cases h : i = x.1
    · rw [if_pos h, if_pos h.symm, h, setD_none hn.1]
    · rw [if_neg h] at hx ⊢
      rw [if_neg fun e => h e.symm, sumD_cons, ih hn.2 hx]
      omega
theorem setD_keys (i : Int) (d : AgD) : (setD D i d).map (·.1) = D.map (·.1) := by
  unfold setD
  rw [List.map_map]
  refine List.map_congr_left fun x _ => ?_
  simp only [Function.comp]
  split <;> rfl
theorem mem_setD {i : Int} {d : AgD} {y : Int × AgD} (h : y ∈ setD D i d) : y = (i, d) ∨ y ∈ D := by
  obtain ⟨x, hx, rfl⟩ := List.mem_map.1 h
  by_cases he : x.1 = i
  · rw [if_pos he, he]; exact .inl rfl
  · rw [if_neg he]; exact .inr hx
theorem setD_same {i : Int} {d : AgD} (hn : (D.map (·.1)).Nodup) (hx : mget i D = some d) : setD D i d = D := by
  unfold setD
  conv => rhs; rw [← List.map_id D]
  refine List.map_congr_left fun x hx2 => ?_
  by_cases he : x.1 = i
  · rw [if_pos he]
    have := Go.Vc.mget_of_mem (k := x.1) (v := x.2) hn hx2
    rw [he, hx] at this
    rw [Option.some.inj this]
    rfl
  · rw [if_neg he]; rfl
theorem setD_setD (i : Int) (d e : AgD) : setD (setD D i d) i e = setD D i e := by
  unfold setD
  rw [List.map_map]
  refine List.map_congr_left fun x _ => ?_
  simp only [Function.comp]
  by_cases h : x.1 = i
  · rw [if_pos h]
    simp [h]
  · rw [if_neg h, if_neg h]
theorem mget_setD {i : Int} {d d0 : AgD} (hx : mget i D = some d0) : mget i (setD D i d) = some d := by
  induction D with
  | nil => cases hx
  | cons x D ih =>
    have e : setD (x :: D) i d = (if x.1 = i then (x.1, d) else x) :: setD D i d := rfl
    rw [e]
    unfold mget at hx ⊢
    by_cases h : i = x.1
    · rw [if_pos h.symm, if_pos h]
    · rw [if_neg h] at hx
      have e2 : (if x.1 = i then (x.1, d) else x) = x := if_neg fun e => h e.symm
      rw [e2, if_neg h]
      exact ih hx
abbrev tS (k : Int) (x : Int × AgD) : Int := sumK k x.2.1
abbrev fS (k : Int) (x : Int × AgD) : Int := sumK k x.2.2
def all4 (f : Int → Int) : Ar4 := (f 0, f 1, f 2, f 3)
structure Good (cap most : Int) (q : AgQ) : Prop where
  nd : (q.2.2.map (·.1)).Nodup
  lc : (q.2.2.length : Int) ≤ cap
  ok : ∀ x ∈ q.2.2, vecB x.2.1 = true ∧ vecB x.2.2 = true ∧ (vsub x.2.1 x.2.2).isSome = true
  su : q.1 = all4 fun k => sumD (tS k) q.2.2
  fr : q.2.1 = all4 fun k => sumD (fS k) q.2.2
  mo : sumD (tS 0) q.2.2 ≤ most ∧ sumD (tS 1) q.2.2 ≤ most ∧ sumD (tS 2) q.2.2 ≤ most ∧ sumD (tS 3) q.2.2 ≤ most
  mm : most ≤ 9007199254740992
theorem holds_sum {T F : List PartT} (h1 : vecB T = true) (h2 : vecB F = true) (h : (vsub T F).isSome = true) (k : Int) : sumK k F ≤ sumK k T := by
  obtain ⟨c, hc⟩ := Option.isSome_iff_exists.1 h
  obtain ⟨h3, _, h4⟩ := vsub_amt h1 h2 hc
  have := (vec_bound (k := k) h3).1
  have := h4 k
  omega
theorem ofA_all {l : List PartT} (h : vecB l = true) : ofA l = all4 fun k => sumK k l := if_pos h
theorem Good.bd (h : Good cap most q) (k : Int) : 0 ≤ sumD (fS k) q.2.2 ∧ sumD (fS k) q.2.2 ≤ sumD (tS k) q.2.2 :=
  ⟨sumD_nonneg fun x hx => (vec_bound (h.ok x hx).2.1).1, sumD_le fun x hx => holds_sum (h.ok x hx).1 (h.ok x hx).2.1 (h.ok x hx).2.2 k⟩
theorem sb_all {f g : Int → Int} (h : ∀ k, 0 ≤ g k ∧ g k ≤ f k) (hm : f 0 ≤ 9007199254740992 ∧ f 1 ≤ 9007199254740992 ∧ f 2 ≤ 9007199254740992 ∧ f 3 ≤ 9007199254740992) : sbE (all4 f) (all4 g) = all4 fun k => f k - g k := by
  unfold sbE
  rw [if_pos]
  · rfl
  · have h0 := h 0; have h1 := h 1; have h2 := h 2; have h3 := h 3
    unfold sbC sumH sumR all4
    simp only
    omega
theorem ad_all {f g : Int → Int} (h : ∀ k, 0 ≤ f k ∧ 0 ≤ g k) (hm : f 0 + g 0 ≤ 9007199254740992 ∧ f 1 + g 1 ≤ 9007199254740992 ∧ f 2 + g 2 ≤ 9007199254740992 ∧ f 3 + g 3 ≤ 9007199254740992) : adE (all4 f) (all4 g) = (all4 fun k => f k + g k) ∧ addC (all4 f) (all4 g) := by
  have hc : addC (all4 f) (all4 g) := by
    have h0 := h 0; have h1 := h 1; have h2 := h 2; have h3 := h 3
    unfold addC sumR all4
    simp only
    omega
  unfold adE
  rw [if_pos hc]
  exact ⟨rfl, hc⟩
theorem all4_congr {f g : Int → Int} (h : ∀ k, f k = g k) : all4 f = all4 g := by rw [show f = g from funext h]
/-- The sums, as one agent changes. -/
theorem Good.frE (h : Good cap most q) {i : Int} {T F T' F' : List PartT} (hx : mget i q.2.2 = some (T, F)) (h1 : vecB T' = true) (h2 : vecB F' = true) (h3 : (vsub T' F').isSome = true) (he : ofA T' = ofA T) :
    adE (sbE q.2.1 (ofA F)) (ofA F') = all4 (fun k => sumD (fS k) q.2.2 - sumK k F + sumK k F') ∧ sbE q.2.1 (ofA F) = all4 (fun k => sumD (fS k) q.2.2 - sumK k F) ∧ addC (sbE q.2.1 (ofA F)) (ofA F') := by
  obtain ⟨k1, k2, k3⟩ := h.ok _ (mem_of_mget hx)
  simp only at k1 k2 k3
  have hsT := fun k => sumD_mdel (f := tS k) hx
  have hsF := fun k => sumD_mdel (f := fS k) hx
  have nT : ∀ k, 0 ≤ sumD (tS k) (mdel i q.2.2) := fun k => sumD_nonneg fun x hx => (vec_bound (h.ok x (mem_mdelA hx)).1).1
  have nF : ∀ k, 0 ≤ sumD (fS k) (mdel i q.2.2) ∧ sumD (fS k) (mdel i q.2.2) ≤ sumD (tS k) (mdel i q.2.2) := fun k => ⟨sumD_nonneg fun x hx => (vec_bound (h.ok x (mem_mdelA hx)).2.1).1, sumD_le fun x hx => holds_sum (h.ok x (mem_mdelA hx)).1 (h.ok x (mem_mdelA hx)).2.1 (h.ok x (mem_mdelA hx)).2.2 k⟩
  have bF := fun k => vec_bound (k := k) k2
  have bF' := fun k => vec_bound (k := k) h2
  have hF'T := fun k => holds_sum h1 h2 h3 k
  have hm := h.mo
  have hmm := h.mm
  rw [ofA_all h1, ofA_all k1] at he
  unfold all4 at he
  simp only [Prod.mk.injEq] at he
  obtain ⟨e0, e1, e2, e3⟩ := he
  simp only [tS, fS] at hsT hsF
  have a0 := hsT 0; have a1 := hsT 1; have a2 := hsT 2; have a3 := hsT 3
  have b0 := hsF 0; have b1 := hsF 1; have b2 := hsF 2; have b3 := hsF 3
  have c0 := nF 0; have c1 := nF 1; have c2 := nF 2; have c3 := nF 3
  have d0 := hF'T 0; have d1 := hF'T 1; have d2 := hF'T 2; have d3 := hF'T 3
  have f0 := bF 0; have f1 := bF 1; have f2 := bF 2; have f3 := bF 3
  have g0 := h.bd 0; have g1 := h.bd 1; have g2 := h.bd 2; have g3 := h.bd 3
  have hsb : sbE q.2.1 (ofA F) = all4 fun k => sumD (fS k) q.2.2 - sumK k F := by
    rw [h.fr, ofA_all k2]
    refine sb_all (fun k => ⟨(bF k).1, ?_⟩) (by omega)
    have := hsF k
    have := nF k
    omega
  have had := ad_all (f := fun k => sumD (fS k) q.2.2 - sumK k F) (g := fun k => sumK k F') (fun k => ⟨by have := hsF k; have := nF k; omega, (bF' k).1⟩) (by first | omega | (simp only; omega))
  rw [hsb, ofA_all h2]
  exact ⟨had.1, rfl, had.2⟩
theorem Good.repl (h : Good cap most q) {i : Int} {T F T' F' : List PartT} (hx : mget i q.2.2 = some (T, F)) (h1 : vecB T' = true) (h2 : vecB F' = true) (h3 : (vsub T' F').isSome = true) (he : ofA T' = ofA T) : Good cap most (q.1, adE (sbE q.2.1 (ofA F)) (ofA F'), setD q.2.2 i (T', F')) := by
  have hfr := (h.frE hx h1 h2 h3 he).1
  obtain ⟨k1, k2, k3⟩ := h.ok _ (mem_of_mget hx)
  simp only at k1 k2 k3
  have hsT := fun k => sumD_mdel (f := tS k) hx
  have hsF := fun k => sumD_mdel (f := fS k) hx
  have tT := fun k => sumD_setD (f := tS k) (d := (T', F')) h.nd hx
  have tF := fun k => sumD_setD (f := fS k) (d := (T', F')) h.nd hx
  rw [ofA_all h1, ofA_all k1] at he
  unfold all4 at he
  simp only [Prod.mk.injEq] at he
  obtain ⟨e0, e1, e2, e3⟩ := he
  simp only [tS, fS] at hsT hsF tT tF
  have a0 := hsT 0; have a1 := hsT 1; have a2 := hsT 2; have a3 := hsT 3
  have b0 := tT 0; have b1 := tT 1; have b2 := tT 2; have b3 := tT 3
  have m0 : sumD (tS 0) (setD q.2.2 i (T', F')) = sumD (tS 0) q.2.2 := by omega
  have m1 : sumD (tS 1) (setD q.2.2 i (T', F')) = sumD (tS 1) q.2.2 := by omega
  have m2 : sumD (tS 2) (setD q.2.2 i (T', F')) = sumD (tS 2) q.2.2 := by omega
  have m3 : sumD (tS 3) (setD q.2.2 i (T', F')) = sumD (tS 3) q.2.2 := by omega
  refine ⟨?_, ?_, fun x hx2 => ?_, ?_, ?_, ?_, h.mm⟩
  · rw [setD_keys]; exact h.nd
  · simp only
    unfold setD
    rw [List.length_map]
    exact h.lc
  · rcases mem_setD hx2 with rfl | hx2
    · exact ⟨h1, h2, h3⟩
    · exact h.ok x hx2
  · rw [h.su]
    unfold all4
    simp only
    rw [m0, m1, m2, m3]
  · rw [hfr]
    simp only
    refine all4_congr fun k => ?_
    have := hsF k
    have := tF k
    first | omega | (simp only [fS]; omega)
  · simp only
    rw [m0, m1, m2, m3]
    exact h.mo
theorem Good.lose (h : Good cap most q) {i : Int} {T F : List PartT} (hx : mget i q.2.2 = some (T, F)) : Good cap most (sbE q.1 (ofA T), sbE q.2.1 (ofA F), mdel i q.2.2) := by
  obtain ⟨k1, k2, k3⟩ := h.ok _ (mem_of_mget hx)
  simp only at k1 k2 k3
  have hsT := fun k => sumD_mdel (f := tS k) hx
  have hsF := fun k => sumD_mdel (f := fS k) hx
  have nT : ∀ k, 0 ≤ sumD (tS k) (mdel i q.2.2) := fun k => sumD_nonneg fun x hx => (vec_bound (h.ok x (mem_mdelA hx)).1).1
  have nF : ∀ k, 0 ≤ sumD (fS k) (mdel i q.2.2) := fun k => sumD_nonneg fun x hx => (vec_bound (h.ok x (mem_mdelA hx)).2.1).1
  have bT := fun k => vec_bound (k := k) k1
  have bF := fun k => vec_bound (k := k) k2
  have hm := h.mo
  have hmm := h.mm
  simp only [tS, fS] at hsT hsF
  have a0 := hsT 0; have a1 := hsT 1; have a2 := hsT 2; have a3 := hsT 3
  have g0 := h.bd 0; have g1 := h.bd 1; have g2 := h.bd 2; have g3 := h.bd 3
  have f0 := bT 0; have f1 := bT 1; have f2 := bT 2; have f3 := bT 3
  refine ⟨mdel_nodup h.nd, ?_, fun x hx => h.ok x (mem_mdelA hx), ?_, ?_, ?_, hmm⟩
  · have := h.lc
    simp only
    rw [mdel_length]
    split <;> omega
  · rw [h.su, ofA_all k1, sb_all (fun k => ⟨(bT k).1, by have := hsT k; have := nT k; first | omega | (simp only [tS]; omega)⟩) (by first | omega | (simp only; omega))]
    simp only
    refine all4_congr fun k => ?_
    have := hsT k
    first | omega | (simp only [tS]; omega)
  · rw [h.fr, ofA_all k2, sb_all (fun k => ⟨(bF k).1, by have := hsF k; have := nF k; first | omega | (simp only [fS]; omega)⟩) (by first | omega | (simp only; omega))]
    simp only
    refine all4_congr fun k => ?_
    have := hsF k
    first | omega | (simp only [fS]; omega)
  · simp only
    omega
theorem mx4_le {s : Ar4} (h : mx4 s ≤ most) : s.1 ≤ most ∧ s.2.1 ≤ most ∧ s.2.2.1 ≤ most ∧ s.2.2.2 ≤ most := by
  unfold mx4 maxG at h
  simp only [List.foldl_cons, List.foldl_nil] at h
  repeat' split at h
  all_goals omega
theorem vsub_self {V : List PartT} (h : vecB V = true) : (vsub V V).isSome = true := (vsub_iff h h).2 fun _ => Int.le_refl _
theorem Good.reg (h : Good cap most q) {i : Int} {V : List PartT} (hv : vecB V = true) (hno : mget i q.2.2 = none) (ha : addC q.1 (ofA V)) (hmx : mx4 (adE q.1 (ofA V)) ≤ most) (hl : (q.2.2.length : Int) < cap) : Good cap most (adE q.1 (ofA V), adE q.2.1 (ofA V), q.2.2 ++ [(i, (V, V))]) := by
  have h4 := mx4_le hmx
  unfold adE at h4
  rw [if_pos ha, h.su, ofA_all hv] at h4
  unfold addA all4 at h4
  simp only at h4
  have bV := fun k => vec_bound (k := k) hv
  have v0 := bV 0; have v1 := bV 1; have v2 := bV 2; have v3 := bV 3
  have g0 := h.bd 0; have g1 := h.bd 1; have g2 := h.bd 2; have g3 := h.bd 3
  have hmm := h.mm
  have one : ∀ f : Int × AgD → Int, sumD f [(i, (V, V))] = f (i, (V, V)) := fun f => by simp [sumD]
  refine ⟨?_, ?_, fun x hx => ?_, ?_, ?_, ?_, hmm⟩
  · simp only
    rw [List.map_append]
    refine List.nodup_append.2 ⟨h.nd, by simp, fun a ha b hb e => ?_⟩
    simp at hb
    subst hb
    exact mget_none.1 hno (e ▸ ha)
  · simp only [List.length_append, List.length_singleton]
    omega
  · rcases List.mem_append.1 hx with hx | hx
    · exact h.ok x hx
    · rw [List.mem_singleton] at hx
      subst hx
      exact ⟨hv, hv, vsub_self hv⟩
  · rw [h.su, ofA_all hv, (ad_all (fun k => ⟨by have := h.bd k; omega, (bV k).1⟩) (by first | omega | (simp only; omega))).1]
    simp only
    refine all4_congr fun k => ?_
    rw [sumD_append, one]
  · rw [h.fr, ofA_all hv, (ad_all (fun k => ⟨(h.bd k).1, (bV k).1⟩) (by first | omega | (simp only; omega))).1]
    simp only
    refine all4_congr fun k => ?_
    rw [sumD_append, one]
  · simp only [sumD_append, one, tS]
    exact h4
theorem holds_take {T F V F' : List PartT} (h1 : vecB T = true) (h2 : vecB F = true) (h3 : vecB V = true) (h : (vsub T F).isSome = true) (hs : vsub F V = some F') : vecB F' = true ∧ (vsub T F').isSome = true := by
  obtain ⟨h4, h5, _⟩ := vsub_amt h2 h3 hs
  refine ⟨h4, (vsub_iff h1 h4).2 fun s => ?_⟩
  have := (vsub_iff h1 h2).1 h s
  have := h5 s
  have := (amt_nonneg (s := s) (vecB_iff.1 h3).1).1
  omega
/-! ### What is done -/
def doD (cap most : Int) (q : AgQ) (k i : Int) (V Y : List PartT) : (Bool × Int) × AgQ :=
  if k = 0 then regD cap most q i V else if k = 1 then (((loseD q i).1, 0), (loseD q i).2) else if k = 2 then ((false, (takeD q i V).1), (takeD q i V).2) else if k = 3 then ((false, (giveD q i V).1), (giveD q i V).2) else ((false, (turnD q i V Y).1), (turnD q i V Y).2)
theorem Good.do (h : Good cap most q) (k i : Int) (V Y : List PartT) : Good cap most (doD cap most q k i V Y).2 ∧ ((doD cap most q k i V Y).2.2.2.length = q.2.2.length → (doD cap most q k i V Y).2.1 = q.1) := by
  have same : ∀ (i : Int) (d : AgD) (x y : Ar4), ((x, y, setD q.2.2 i d) : AgQ).2.2.length = q.2.2.length := fun i d x y => by simp [setD]
  unfold doD
  split
  · unfold regD
    split
    · exact ⟨h, fun _ => rfl⟩
    · rename_i hr
      split
      · split <;> exact ⟨h, fun _ => rfl⟩
      · rename_i hno
        split
        · exact ⟨h, fun _ => rfl⟩
        · rename_i hx
          split
          · exact ⟨h, fun _ => rfl⟩
          · rename_i hc
            have hv : vecB V = true := by
              cases hv : vecB V with
              | true => rfl
              | false => exact absurd (.inr (.inr hv)) hr
            refine ⟨h.reg hv hno (Classical.byContradiction fun hh => hx (.inl hh)) (Int.not_lt.1 fun hh => hx (.inr hh)) (by omega), fun e => ?_⟩
            simp at e
  split
  · unfold loseD
    split
    · exact ⟨h, fun _ => rfl⟩
    · rename_i d hx
      refine ⟨h.lose (T := d.1) (F := d.2) hx, fun e => ?_⟩
      simp only at e
      rw [mdel_length, hx, Option.isSome_some, if_pos rfl] at e
      have : 0 < q.2.2.length := List.length_pos_of_mem (mem_of_mget hx)
      omega
  split
  · unfold takeD
    split
    · exact ⟨h, fun _ => rfl⟩
    · rename_i d hx
      split
      · rename_i hc
        obtain ⟨F', hF'⟩ := Option.isSome_iff_exists.1 hc.2
        obtain ⟨k1, k2, k3⟩ := h.ok _ (mem_of_mget hx)
        obtain ⟨k4, k5⟩ := holds_take k1 k2 hc.1 k3 hF'
        rw [hF', vout_some]
        exact ⟨h.repl (T := d.1) (F := d.2) hx k1 k4 k5 rfl, fun _ => rfl⟩
      · exact ⟨h, fun _ => rfl⟩
  split
  · unfold giveD
    split
    · exact ⟨h, fun _ => rfl⟩
    · rename_i d hx
      split
      · rename_i hc
        split
        · rename_i hs
          obtain ⟨F', hF'⟩ := Option.isSome_iff_exists.1 hc.2
          obtain ⟨k1, k2, k3⟩ := h.ok _ (mem_of_mget hx)
          rw [hF', vout_some] at hs ⊢
          exact ⟨h.repl (T := d.1) (F := d.2) hx k1 (vadd_amt k2 hc.1 hF').1 hs rfl, fun _ => rfl⟩
        · exact ⟨h, fun _ => rfl⟩
      · exact ⟨h, fun _ => rfl⟩
  · unfold turnD
    split
    · exact ⟨h, fun _ => rfl⟩
    · rename_i d hx
      split
      · rename_i hc
        split
        · rename_i hs
          split
          · rename_i he
            obtain ⟨F', hF'⟩ := Option.isSome_iff_exists.1 hc.2
            obtain ⟨k1, k2, k3⟩ := h.ok _ (mem_of_mget hx)
            rw [hF', vout_some] at hs ⊢
            exact ⟨h.repl (T := d.1) (F := d.2) hx hs.1 (vadd_amt k2 hc.1 hF').1 hs.2 he, fun _ => rfl⟩
          · exact ⟨h, fun _ => rfl⟩
        · exact ⟨h, fun _ => rfl⟩
      · exact ⟨h, fun _ => rfl⟩
theorem Good.new (h1 : 1 ≤ cap) (h2 : 1 ≤ most) (h3 : most ≤ 9007199254740992) : Good cap most (zA, zA, []) :=
  ⟨by simp, by simp; omega, (fun _ h => by cases h), rfl, rfl, (by simp [sumD]; omega), h3⟩
end Go.Vc.J

/- Agents: acts; without a table. -/
set_option maxRecDepth 20000
set_option maxHeartbeats 1000000
namespace Go.Vc.J
open Go Go.Vc Go.Vc.V Go.RowKit Go.Proofs Vct

variable {w W W' W2 : World} {M N : Nat → Prop} {gs ds : List Nat} {g r : Nat} {cap most : Int} {B : Nat → Prop} {q : AgQ}

abbrev AcR := (Int × Int × List PartT × List PartT) × (Sl3 × Sl3)
abbrev acE (x : AcR) : List Value := [.int .i64 x.1.1, .int .i64 x.1.2.1, slV x.2.1, slV x.2.2]
structure CR (W : World) (L : List AcR) (a : Option Addr) (n c : Nat) : Prop where
  sl : SlE W 4 acE L a n c
  v1 : ∀ x ∈ L, SlE W 3 partE x.1.2.2.1 x.2.1.1 x.2.1.2.1 x.2.1.2.2
  v2 : ∀ x ∈ L, SlE W 3 partE x.1.2.2.2 x.2.2.1 x.2.2.2.1 x.2.2.2.2
theorem CR.keep {L : List AcR} {a : Option Addr} {n c : Nat} (h : CR W L a n c) (hk : KeepC W W') : CR W' L a n c := ⟨sle_keepC h.sl hk, fun x hx => sle_keepC (h.v1 x hx) hk, fun x hx => sle_keepC (h.v2 x hx) hk⟩
theorem c38 {L : List AcR} {a : Option Addr} {n c : Nat} (w : World) (h : CR w L a n c) : RetQ Try.prog 38 #[.slice a n c] w fun v _ => ∃ b : Bool, v = .bool b ∧ (b = true → L.length ≤ 80) := by
  intro R hR
  refine f38_calls a n c w R ?_
  unfold f38_vc
  have hn := h.sl.len_le
  have hl0 := h.sl.1
  refine ⟨fun v W' => At w [] W' ∧ ∃ i : Nat, v.2.1 = (i : Int) ∧ i ≤ L.length, fun v _ => (n - v.2.1).toNat, ⟨At.refl w, 0, rfl, Nat.zero_le _⟩, ?_⟩
  rintro x3 x4 w5 ⟨hA, i, hi, hil⟩
  simp only at hi
  subst hi
  refine brD (fun hlt => ?_) (fun hge => brD (fun hle => hR _ _ hA.below ⟨_, rfl, fun _ => by omega⟩) (fun hgt => hR _ _ hA.below ⟨_, rfl, fun e => by cases e⟩))
  obtain ⟨x, hx⟩ : ∃ x, L[i]? = some x := ⟨_, List.getElem?_eq_getElem (by omega)⟩
  obtain ⟨ad, g1, el, _⟩ := elt_at (P := Try.prog) (k := .i64) (t := 76) (h.sl.call hA.below) hx (e := 86) (by kernel_rfl) (by kernel_rfl)
  refine ⟨ad, g1, _, _, _, (el.sub (o := 2) (by decide)).one (by kernel_rfl) (by simp), ad, g1, _, _, _, (el.sub (o := 3) (by decide)).one (by kernel_rfl) (by simp), fun w14 hb14 => ?_⟩
  rw [succ_i i (by omega)]
  exact ⟨⟨hA.call hb14, i + 1, rfl, by omega⟩, by simp only; omega⟩
theorem c42 (h : AgX W B g cap most q) (k i : Int) {V Y : List PartT} {s1 s2 : Sl3} (hV : SlE W 3 partE V s1.1 s1.2.1 s1.2.2) (hY : SlE W 3 partE Y s2.1 s2.2.1 s2.2.2) (hVB : ∀ W', Chg B W W' → SlE W' 3 partE V s1.1 s1.2.1 s1.2.2) : RetF Try.prog 42 #[ptr g, .agg #[.int .i64 k, .int .i64 i, slV s1, slV s2]] W B fun v W' => v = biV (doD cap most q k i V Y).1 ∧ AgX W' (fun b => B b ∨ W.heap.size ≤ b) g cap most (doD cap most q k i V Y).2 := by
  intro R hR
  refine f42_calls _ _ _ _ _ _ _ _ _ W R ?_
  unfold f42_vc
  have h' := h.mono (B' := fun b => B b ∧ b < W.heap.size) fun b hb hB => ⟨hB, hb⟩
  have st : ∀ {n1 : Nat} {w2 : World}, Bel W w2 → Under [n1] w2 → AtF W (fun b => B b ∧ b < W.heap.size) [n1] w2 := fun hb hu => ⟨((AtF.refl W _).call hb).chg, hu⟩
  intro n1 hn1
  have hno : ∀ b ∈ [n1], ¬ (B b ∧ b < W.heap.size) := fun b hb hh => by simp at hb; omega
  have fin : ∀ {d : (Bool × Int) × AgQ} {w' : World}, doD cap most q k i V Y = d → AtF W (fun b => B b ∧ b < W.heap.size) [n1] w' → AgX w' (fun b => B b ∨ W.heap.size ≤ b) g cap most d.2 → R (.returned (biV d.1)) w' := fun e hA hX => hR _ _ (hA.chg.mono fun b _ hb => hb.1) (by rw [e]; exact ⟨rfl, hX⟩)
  have kv : ∀ {w2 w' : World}, Bel W w2 → Chg (fun b => B b ∧ b < W.heap.size) w2 w' → Chg B W w' := fun hb hc => (Chg.of_below (N := B) hb).trans hc fun b _ hh => hh.1
  refine brE (fun e0 w2 hb2 hu => ?_) (fun n0 => brE (fun e1 w7 hb hu => ?_) (fun n1' => brE (fun e2 w11 hb hu => ?_) (fun n2 => brE (fun e3 w15 hb hu => ?_) (fun n3 w19 hb hu => ?_))))
  · refine at_callF (st hb2 hu) (c44 (h'.call hb2) i (sle_keepC hV (KeepC.of_bel hb2)) fun W' hc => hVB W' (kv hb2 hc)) (fun b _ e => .inr e) hno fun v w4 hA hk hch ⟨e, hX⟩ => ?_
    subst e
    refine ⟨_, _, rfl, hk, fin (if_pos e0) hA (hX.mono fun b _ hh => ?_)⟩
    have := hb2.size
    rcases hh with hh | hh
    · exact .inl hh.1
    · exact .inr (by omega)
  · refine at_callF (st hb hu) (c46 (h'.call hb) i) (fun b _ e => .inr e) hno fun v w4 hA hk hch ⟨e, hX⟩ => ?_
    subst e
    exact ⟨_, rfl, hk, fin (d := (((loseD q i).1, 0), (loseD q i).2)) (by unfold doD; rw [if_neg n0, if_pos e1]) hA (hX.mono fun b _ hh => .inl hh.1)⟩
  · refine at_callF (st hb hu) (c45 (h'.call hb) i (sle_keepC hV (KeepC.of_bel hb))) (fun b _ e => .inr e) hno fun v w4 hA hk hch ⟨e, hX⟩ => ?_
    subst e
    exact ⟨_, rfl, hk, fin (d := ((false, (takeD q i V).1), (takeD q i V).2)) (by unfold doD; rw [if_neg n0, if_neg n1', if_pos e2]) hA (hX.mono fun b _ hh => .inl hh.1)⟩
  · refine at_callF (st hb hu) (c51 (h'.call hb) i (sle_keepC hV (KeepC.of_bel hb))) (fun b _ e => .inr e) hno fun v w4 hA hk hch ⟨e, hX⟩ => ?_
    subst e
    exact ⟨_, rfl, hk, fin (d := ((false, (giveD q i V).1), (giveD q i V).2)) (by unfold doD; rw [if_neg n0, if_neg n1', if_neg n2, if_pos e3]) hA (hX.mono fun b _ hh => .inl hh.1)⟩
  · refine at_callF (st hb hu) (c95 (h'.call hb) i (sle_keepC hV (KeepC.of_bel hb)) (sle_keepC hY (KeepC.of_bel hb))) (fun b _ e => .inr e) hno fun v w4 hA hk hch ⟨e, hX⟩ => ?_
    subst e
    exact ⟨_, rfl, hk, fin (d := ((false, (turnD q i V Y).1), (turnD q i V Y).2)) (by unfold doD; rw [if_neg n0, if_neg n1', if_neg n2, if_neg n3]) hA (hX.mono fun b _ hh => .inl hh.1)⟩
/-! ### Without a table -/
theorem c41n {t : Option Addr} (h : NoA W t) : Ret Try.prog 41 #[.pointer t] W (.slice none 0 0) := by
  intro R hR
  refine f41_calls _ W R ?_
  unfold f41_vc
  refine at_callb (At.refl W) (c90n h) fun w2 hA _ hb2 => ⟨_, rfl, brB (fun e => by cases e) (fun _ => ?_)⟩
  exact at_sortA (l := []) hA OwnL.nil (by decide) fun l' w' hA _ _ _ _ _ => ⟨rfl, leaf hR hA rfl⟩
theorem c44n {t : Option Addr} (i : Int) {a : Option Addr} {n c : Nat} (h : NoA W t) : Ret Try.prog 44 #[.pointer t, .int .i64 i, .slice a n c] W (biV (false, 40)) := by
  intro R hR
  refine f44_calls _ _ _ _ _ W R ?_
  unfold f44_vc
  refine at_callb (At.refl W) (c97n i h) fun w2 hA _ hb2 => ⟨_, _, rfl, fun _ _ => False, brE (fun _ => leaf hR hA rfl) (fun e => absurd rfl e), fun _ h => h.elim⟩
theorem c45n {t : Option Addr} (i : Int) {a : Option Addr} {n c : Nat} (h : NoA W t) : Ret Try.prog 45 #[.pointer t, .int .i64 i, .slice a n c] W (.int .i64 40) := by
  intro R hR
  refine f45_calls _ _ _ _ _ W R ?_
  unfold f45_vc
  exact at_callb (At.refl W) (c97n i h) fun w2 hA _ hb2 => ⟨_, _, rfl, brN (fun _ => leaf hR hA rfl) (fun e => absurd e (by decide))⟩
theorem c46n {t : Option Addr} (i : Int) (h : NoA W t) : Ret Try.prog 46 #[.pointer t, .int .i64 i] W (.bool false) := by
  intro R hR
  refine f46_calls _ _ W R ?_
  unfold f46_vc
  exact at_callb (At.refl W) (c97n i h) fun w2 hA _ hb2 => ⟨_, _, rfl, brN (fun _ => leaf hR hA rfl) (fun e => absurd e (by decide))⟩
/-! ### works -/
abbrev v4 : List PartT := [(0, 0, 4)]
abbrev v3 : List PartT := [(0, 0, 3)]
abbrev v6 : List PartT := [(0, 0, 6)]
abbrev q1 : AgQ := ((4, 0, 0, 0), (4, 0, 0, 0), [(1, (v4, v4))])
abbrev q2 : AgQ := ((4, 0, 0, 0), (1, 0, 0, 0), [(1, (v4, [(0, 0, 1)]))])
theorem w_va : vadd [(0, 0, 1)] v4 = some [(0, 0, 5)] := by
  rw [vadd_eq (by decide) (by decide), if_pos (by decide), vadd_nil]
  rfl
theorem c47 (w : World) : Ret Try.prog 47 #[] w (.bool true) := by
  intro R hR
  refine f47_calls w R ?_
  unfold f47_vc
  refine at_callq (At.refl w) (c39 2 9 w) fun v w2 hA _ hb2 hq => ?_
  rcases hq with ⟨hlt, _⟩ | ⟨_, g, r, e, ht, hg, hr⟩
  · exact absurd hlt (by decide)
  subst e
  refine ⟨_, rfl, ?_⟩
  have hX : AgX w2 (fun b => w.heap.size ≤ b ∧ b < w2.heap.size) g 2 9 (zA, zA, []) := ⟨r, [], ht, rfl, by
    rintro b (rfl | rfl | ⟨x, hx, _⟩)
    · exact ⟨hg, ht.glt⟩
    · exact ⟨hr, ht.rlt⟩
    · cases hx⟩
  refine opw_litL (e' := 73) (f := partE) (size := 3) (l := v4) hA rfl (fun _ _ => rfl) (by decide) (by kernel_rfl) fun g4 w5 hg4 hA _ hb5 ho4 => ⟨_, _, _, rfl, ?_⟩
  refine opw_litL (e' := 73) (f := partE) (size := 3) (l := v3) hA rfl (fun _ _ => rfl) (by decide) (by kernel_rfl) fun g3 w10 hg3 hA _ hb10 ho3 => ⟨_, _, _, rfl, ?_⟩
  have hs4 := (ho4.call hb10).sl fun _ _ => rfl
  have hs3 := ho3.sl fun _ _ => rfl
  have e5 := hb5.size
  have kp : ∀ {V : List PartT} {a : Nat} {W1 W2 : World}, w2.heap.size ≤ a → SlE W1 3 partE V (some ⟨a, 0, none⟩) 1 1 → Chg (fun b => w.heap.size ≤ b ∧ b < w2.heap.size) W1 W2 → SlE W2 3 partE V (some ⟨a, 0, none⟩) 1 1 := fun ha hs hc => sle_chg hs hc fun b hb hn => by
    cases hb
    simp only at hn
    omega
  have mo : ∀ {W1 W0 : World} {q : AgQ}, w10.heap.size ≤ W0.heap.size → AgX W1 (fun b => (w.heap.size ≤ b ∧ b < w2.heap.size) ∨ W0.heap.size ≤ b) g 2 9 q → AgX W1 (fun b => w.heap.size ≤ b ∧ (b < w2.heap.size ∨ w10.heap.size ≤ b)) g 2 9 q := fun hs hx => hx.mono fun b _ hb => by
    have := hb2.size
    have := hb10.size
    rcases hb with ⟨h1, h2⟩ | h1
    · exact ⟨h1, .inl h2⟩
    · exact ⟨by omega, .inr (by omega)⟩
  have f1 : regD 2 9 (zA, zA, []) 1 v4 = ((true, 0), q1) := by kernel_rfl
  have f2 : regD 2 9 q1 1 v4 = ((false, 0), q1) := by kernel_rfl
  have f3 : regD 2 9 q1 2 v6 = ((false, 31), q1) := by kernel_rfl
  have f4 : takeD q1 1 v3 = (0, q2) := by kernel_rfl
  have f5 : giveD q2 1 v4 = (31, q2) := by
    unfold giveD
    rw [show mget (1 : Int) q2.2.2 = some (v4, [(0, 0, 1)]) from by kernel_rfl]
    simp only
    rw [w_va]
    kernel_rfl
  have hc1 := c44 ((hX.call hb5).call hb10) 1 hs4 fun W' hc => kp hg4 hs4 hc
  rw [f1] at hc1
  refine at_callF hA hc1 (fun b _ e => .inl e.1) (fun _ hb => by cases hb) fun v w15 hA hk hch ⟨e, hX⟩ => ?_
  subst e
  refine ⟨_, _, rfl, ?_⟩
  have hX := mo (Nat.le_refl _) hX
  have kp2 : ∀ {V : List PartT} {a : Nat} {W1 W2 : World}, w2.heap.size ≤ a → a < w10.heap.size → SlE W1 3 partE V (some ⟨a, 0, none⟩) 1 1 → Chg (fun b => w.heap.size ≤ b ∧ (b < w2.heap.size ∨ w10.heap.size ≤ b)) W1 W2 → SlE W2 3 partE V (some ⟨a, 0, none⟩) 1 1 := fun ha hb hs hc => sle_chg hs hc fun b hb hn => by
    cases hb
    simp only at hn
    omega
  have l4 : g4 < w10.heap.size := (ho4.call hb10).lt g4 rfl
  have l3 : g3 < w10.heap.size := ho3.lt g3 rfl
  have hs4 := kp hg4 hs4 hch
  have hs3 := kp (by omega) hs3 hch
  have hc2 := c44 hX 1 hs4 fun W' hc => kp2 hg4 l4 hs4 hc
  rw [f2] at hc2
  have s15 := hch.size
  refine at_callF hA hc2 (fun b _ e => .inl e.1) (fun _ hb => by cases hb) fun v w19 hA hk hch2 ⟨e, hX⟩ => ?_
  subst e
  refine ⟨_, _, rfl, ?_⟩
  have hs4 := kp2 hg4 l4 hs4 hch2
  have hs3 := kp2 (by omega) l3 hs3 hch2
  have hX : AgX w19 (fun b => w.heap.size ≤ b ∧ (b < w2.heap.size ∨ w10.heap.size ≤ b)) g 2 9 q1 := hX.mono fun b _ hb => by
    rcases hb with h | h
    · exact h
    · have := hb2.size; have := hb10.size; exact ⟨by omega, .inr (by omega)⟩
  refine opw_litL (e' := 73) (f := partE) (size := 3) (l := v6) hA rfl (fun _ _ => rfl) (by decide) (by kernel_rfl) fun g6 w23 hg6 hA _ hb23 ho6 => ⟨_, _, _, rfl, ?_⟩
  have hs6 := ho6.sl fun _ _ => rfl
  have hs4 := hs4.call hb23
  have hs3 := hs3.call hb23
  have hX : AgX w23 (fun b => (w.heap.size ≤ b ∧ (b < w2.heap.size ∨ w10.heap.size ≤ b)) ∧ b < w19.heap.size) g 2 9 q1 := (hX.mono fun b hb hh => ⟨hh, hb⟩).call hb23
  have hc3 := c44 hX 2 hs6 fun W' hc => sle_chg hs6 hc fun b hb hn => by
    cases hb
    simp only at hn
    omega
  rw [f3] at hc3
  refine at_callF hA hc3 (fun b _ e => .inl e.1.1) (fun _ hb => by cases hb) fun v w28 hA hk hch3 ⟨e, hX⟩ => ?_
  subst e
  have hs4 := kp2 hg4 l4 hs4 (hch3.mono fun b _ h => h.1)
  have hs3 := kp2 (by omega) l3 hs3 (hch3.mono fun b _ h => h.1)
  have s19 := hch2.size
  have s23 := hb23.size
  have hX : AgX w28 (fun b => w.heap.size ≤ b ∧ (b < w2.heap.size ∨ w10.heap.size ≤ b)) g 2 9 q1 := hX.mono fun b _ hb => by
    rcases hb with h | h
    · exact h.1
    · have := hb2.size; have := hb10.size; exact ⟨by omega, .inr (by omega)⟩
  refine ⟨_, _, rfl, brB (fun _ => brE (fun _ => brNB (fun _ => brE (fun _ => brE (fun _ => ?_) (fun e => absurd rfl e)) (fun e => absurd rfl e)) (fun e => by cases e)) (fun e => absurd rfl e)) (fun e => by cases e)⟩
  have hc4 := c45 hX 1 hs3
  rw [f4] at hc4
  refine at_callF hA hc4 (fun b _ e => .inl e.1) (fun _ hb => by cases hb) fun v w32 hA hk hch4 ⟨e, hX⟩ => ?_
  subst e
  have hs4 := kp2 hg4 l4 hs4 hch4
  refine ⟨_, rfl, brE (fun _ => ?_) (fun e => absurd rfl e)⟩
  have hc5 := c51 hX 1 hs4
  rw [f5] at hc5
  refine at_callF hA hc5 (fun b _ e => .inl e.1) (fun _ hb => by cases hb) fun v w35 hA hk hch5 ⟨e, hX⟩ => ?_
  subst e
  refine ⟨_, rfl, brE (fun _ => ?_) (fun e => absurd rfl e)⟩
  obtain ⟨r, m, hS, _⟩ := hX
  refine at_callb hA (c40 hS) fun w38 hA hk hb38 => ⟨_, _, _, _, rfl, brB (fun _ => ?_) (fun e => by cases e)⟩
  exact at_callb hA (c48 (hS.call hb38)) fun w44 hA hk _ => ⟨_, _, _, _, rfl, leaf hR hA rfl⟩
end Go.Vc.J

/- The arguments of agents' laws, read: acts. -/
set_option maxRecDepth 20000
namespace Go.Vc.J
open Go Go.Vc Go.Vc.V Go.RowKit
abbrev aqG : GT := .st (.pair iG (.pair iG (.pair (.sl ptG) (.pair (.sl ptG) .unit))))
theorem aq_R {w : World} {x : aqG.T} {cs : List Value} (h : aqG.R w x cs) : ∃ y : AcR, cs = acE y ∧ SlE w 3 partE y.1.2.2.1 y.2.1.1 y.2.1.2.1 y.2.1.2.2 ∧ SlE w 3 partE y.1.2.2.2 y.2.2.1 y.2.2.2.1 y.2.2.2.2 := by
  obtain ⟨c1, c2, rfl, ⟨rfl, _, _⟩, c3, c4, rfl, ⟨rfl, _, _⟩, c5, c6, rfl, ⟨a, n, c, rfl, hs⟩, c7, c8, rfl, ⟨a2, n2, c2, rfl, hs2⟩, rfl⟩ := h
  exact ⟨((x.1, x.2.1, x.2.2.1.map ptOf, x.2.2.2.1.map ptOf), ((a, n, c), (a2, n2, c2))), rfl, row_M hs fun _ _ => pt_R, row_M hs2 fun _ _ => pt_R⟩
theorem aqs_V {w : World} {l : (GT.sl aqG).T} {v : Value} (h : GT.V w (.sl aqG) l v) : ∃ L a n c, v = .slice a n c ∧ CR w L a n c := by
  obtain ⟨a, n, c, hv, hs⟩ := h
  simp at hv
  obtain ⟨L, h1, h2⟩ := row_C hs (R' := fun y cs => cs = acE y) (Q := fun y => SlE w 3 partE y.1.2.2.1 y.2.1.1 y.2.1.2.1 y.2.1.2.2 ∧ SlE w 3 partE y.1.2.2.2 y.2.2.1 y.2.2.2.1 y.2.2.2.2) fun _ _ => aq_R
  exact ⟨L, a, n, c, hv, h1, fun x hx => (h2 x hx).1, fun x hx => (h2 x hx).2⟩
end Go.Vc.J

/- The formulas of functions, printed by a program (VcTool.lean): each is what the generator's formula comes to, by the kernel's reckoning; whoever proves one has the function's contract. -/
set_option maxRecDepth 100000
set_option maxHeartbeats 1000000
set_option linter.unusedVariables false
namespace Vct
open Go Go.Vc Go.RowKit
/-! manciple/manciplelaw22.AgentsBack -/
def h8 : Hints := ⟨[10, 12], [32], [21, 26, 44, 66, 17, 55, 60, 71, 77], [(15, [0, 2, 1, 3, 4, 5, 7, 6, 8, 9, 10, 11, 12, 13])], [], [(5, ⟨[(8, .int .i64)], []⟩)], [], [], []⟩
def f8_vc (la : Option Addr) (ln : Nat) (lc : Nat) (id : Int) (va : Option Addr) (vn : Nat) (vc : Nat) (w : World) (R : Ending → World → Prop) : Prop :=
 Calls Proofs.Try.prog 38 #[Value.slice la ln lc] w fun (e1 : Ending) (w2 : World) =>
 ∃ (b3 : Bool),
 e1 = Ending.returned (Value.bool b3) ∧
 ((!b3) = true → R (Ending.returned (Value.bool true)) w2) ∧
 ((!b3) = false →
 (decide ((↑vn : Int) > 150) = true → R (Ending.returned (Value.bool true)) w2) ∧
 (decide ((↑vn : Int) > 150) = false →
 Calls Proofs.Try.prog 39 #[Value.int IntKind.i64 4, Value.int IntKind.i64 9007199254740992] w2 fun (e4 : Ending) (w5 : World) =>
 ∃ (a6 : Option Addr),
 e4 = Ending.returned (Value.pointer a6) ∧
 ∃ (J7 : Int × Unit → World → Prop),
 ∃ (J8 : Int × Unit → World → Nat),
 J7 (0, ()) w5 ∧
 ∀ (x9 : Int) (w10 : World),
 J7 (x9, ()) w10 →
 (decide (x9 < (↑ln : Int)) = true →
 ∃ (ad11 : Addr),
 Gives Proofs.Try.prog (Instr.indexAt 76 (Value.slice la ln lc) (Value.int IntKind.i64 x9)) (Value.pointer (some ad11)) ∧
 ∃ (x12 : Int),
 ∃ (x13 : Int),
 ∃ (a14 : Option Addr),
 ∃ (n15 : Nat),
 ∃ (n16 : Nat),
 ∃ (a17 : Option Addr),
 ∃ (n18 : Nat),
 ∃ (n19 : Nat),
 Reads Proofs.Try.prog [] (Instr.loadAt 86 (Value.pointer (some ad11))) w10
 (Value.agg #[Value.int IntKind.i64 x12, Value.int IntKind.i64 x13, Value.slice a14 n15 n16, Value.slice a17 n18 n19]) ∧
 Calls Proofs.Try.prog 42 #[Value.pointer a6, Value.agg #[Value.int IntKind.i64 x12, Value.int IntKind.i64 x13, Value.slice a14 n15 n16, Value.slice a17 n18 n19]] w10
 fun (e20 : Ending) (w21 : World) =>
 ∃ (b22 : Bool),
 ∃ (x23 : Int),
 e20 = Ending.returned (Value.tuple #[Value.bool b22, Value.int IntKind.i64 x23]) ∧
 J7 (IntKind.i64.wrap (x9 + 1), ()) w21 ∧ J8 (IntKind.i64.wrap (x9 + 1), ()) w21 < J8 (x9, ()) w10) ∧
 (decide (x9 < (↑ln : Int)) = false →
 Calls Proofs.Try.prog 41 #[Value.pointer a6] w10 fun (e24 : Ending) (w25 : World) =>
 ∃ (a26 : Option Addr),
 ∃ (n27 : Nat),
 ∃ (n28 : Nat),
 e24 = Ending.returned (Value.slice a26 n27 n28) ∧
 Calls Proofs.Try.prog 48 #[Value.pointer a6] w25 fun (e29 : Ending) (w30 : World) =>
 ∃ (x31 : Int),
 ∃ (x32 : Int),
 ∃ (x33 : Int),
 ∃ (x34 : Int),
 e29 = Ending.returned (Value.agg #[Value.int IntKind.i64 x31, Value.int IntKind.i64 x32, Value.int IntKind.i64 x33, Value.int IntKind.i64 x34]) ∧
 ∀ (n35 : Nat),
 w30.heap.size ≤ n35 →
 ∀ (w36 : World),
 Evo [n35] w30 w36 →
 Under [n35] w36 →
 Calls Proofs.Try.prog 45 #[Value.pointer a6, Value.int IntKind.i64 id, Value.slice va vn vc] w36 fun (e37 : Ending) (w38 : World) =>
 ∃ (x39 : Int),
 e37 = Ending.returned (Value.int IntKind.i64 x39) ∧
 Keeps [n35] w36 w38 ∧
 ((x39 == 0) = true →
 Calls Proofs.Try.prog 48 #[Value.pointer a6] w38 fun (e40 : Ending) (w41 : World) =>
 ∃ (x42 : Int),
 ∃ (x43 : Int),
 ∃ (x44 : Int),
 ∃ (x45 : Int),
 e40 = Ending.returned (Value.agg #[Value.int IntKind.i64 x42, Value.int IntKind.i64 x43, Value.int IntKind.i64 x44, Value.int IntKind.i64 x45]) ∧
 Keeps [n35] w38 w41 ∧
 Calls Proofs.Try.prog 50 #[Value.slice va vn vc] w41 fun (e46 : Ending) (w47 : World) =>
 ∃ (x48 : Int),
 ∃ (x49 : Int),
 ∃ (x50 : Int),
 ∃ (x51 : Int),
 e46 =
 Ending.returned
 (Value.agg #[Value.int IntKind.i64 x48, Value.int IntKind.i64 x49, Value.int IntKind.i64 x50, Value.int IntKind.i64 x51]) ∧
 Keeps [n35] w41 w47 ∧
 Calls Proofs.Try.prog 49
 #[Value.agg #[Value.int IntKind.i64 x42, Value.int IntKind.i64 x43, Value.int IntKind.i64 x44, Value.int IntKind.i64 x45],
 Value.agg #[Value.int IntKind.i64 x48, Value.int IntKind.i64 x49, Value.int IntKind.i64 x50, Value.int IntKind.i64 x51]]
 w47 fun (e52 : Ending) (w53 : World) =>
 ∃ (x54 : Int),
 ∃ (x55 : Int),
 ∃ (x56 : Int),
 ∃ (x57 : Int),
 ∃ (b58 : Bool),
 e52 =
 Ending.returned
 (Value.tuple
 #[Value.agg
 #[Value.int IntKind.i64 x54, Value.int IntKind.i64 x55, Value.int IntKind.i64 x56, Value.int IntKind.i64 x57],
 Value.bool b58]) ∧
 Keeps [n35] w47 w53 ∧
 ∀ (n59 : Nat),
 w53.heap.size ≤ n59 →
 ((!b58) = true →
 ∀ (w60 : World), Evo [n59] w53 w60 → Under [n35, n59] w60 → R (Ending.returned (Value.bool false)) w60) ∧
 ((!b58) = false →
 ((!(x54 == x31 && (x55 == x32 && (x56 == x33 && (x57 == x34 && true))))) = true →
 ∀ (w61 : World), Evo [n59] w53 w61 → Under [n35, n59] w61 → R (Ending.returned (Value.bool false)) w61) ∧
 ((!(x54 == x31 && (x55 == x32 && (x56 == x33 && (x57 == x34 && true))))) = false →
 ∀ (w62 : World),
 Evo [n59] w53 w62 →
 Under [n35, n59] w62 →
 Calls Proofs.Try.prog 51 #[Value.pointer a6, Value.int IntKind.i64 id, Value.slice va vn vc] w62
 fun (e63 : Ending) (w64 : World) =>
 ∃ (x65 : Int),
 e63 = Ending.returned (Value.int IntKind.i64 x65) ∧
 Keeps [n35, n59] w62 w64 ∧
 ((x65 != 0) = true → R (Ending.returned (Value.bool false)) w64) ∧
 ((x65 != 0) = false →
 ∀ (w66 : World),
 Bel w64 w66 →
 Under [n35, n59] w66 →
 Calls Proofs.Try.prog 41 #[Value.pointer a6] w66
 fun (e67 : Ending) (w68 : World) =>
 ∃ (a69 : Option Addr),
 ∃ (n70 : Nat),
 ∃ (n71 : Nat),
 e67 = Ending.returned (Value.slice a69 n70 n71) ∧
 Keeps [n35, n59] w66 w68 ∧
 Calls Proofs.Try.prog 52
 #[Value.slice a69 n70 n71, Value.slice a26 n27 n28] w68
 fun (e72 : Ending) (w73 : World) =>
 ∃ (b74 : Bool),
 e72 = Ending.returned (Value.bool b74) ∧
 Keeps [n35, n59] w68 w73 ∧
 (b74 = true →
 Calls Proofs.Try.prog 48 #[Value.pointer a6] w73
 fun (e75 : Ending) (w76 : World) =>
 ∃ (x77 : Int),
 ∃ (x78 : Int),
 ∃ (x79 : Int),
 ∃ (x80 : Int),
 e75 =
 Ending.returned
 (Value.agg
 #[Value.int IntKind.i64 x77,
 Value.int IntKind.i64 x78,
 Value.int IntKind.i64 x79,
 Value.int IntKind.i64 x80]) ∧
 Keeps [n35, n59] w73 w76 ∧
 ((x77 == x31 &&
 (x78 == x32 &&
 (x79 == x33 &&
 (x80 == x34 && true)))) =
 true →
 Calls Proofs.Try.prog 47 #[] w76
 fun (e81 : Ending) (w82 : World) =>
 ∃ (b83 : Bool),
 e81 =
 Ending.returned
 (Value.bool b83) ∧
 Keeps [n35, n59] w76 w82 ∧
 R
 (Ending.returned
 (Value.bool b83))
 w82) ∧
 ((x77 == x31 &&
 (x78 == x32 &&
 (x79 == x33 &&
 (x80 == x34 && true)))) =
 false →
 R (Ending.returned (Value.bool false))
 w76)) ∧
 (b74 = false →
 R (Ending.returned (Value.bool false)) w73))))) ∧
 ((x39 == 0) = false →
 ∀ (w84 : World),
 Bel w38 w84 →
 Under [n35] w84 →
 Calls Proofs.Try.prog 41 #[Value.pointer a6] w84 fun (e85 : Ending) (w86 : World) =>
 ∃ (a87 : Option Addr),
 ∃ (n88 : Nat),
 ∃ (n89 : Nat),
 e85 = Ending.returned (Value.slice a87 n88 n89) ∧
 Keeps [n35] w84 w86 ∧
 Calls Proofs.Try.prog 52 #[Value.slice a87 n88 n89, Value.slice a26 n27 n28] w86 fun (e90 : Ending) (w91 : World) =>
 ∃ (b92 : Bool),
 e90 = Ending.returned (Value.bool b92) ∧
 Keeps [n35] w86 w91 ∧
 (b92 = true →
 Calls Proofs.Try.prog 48 #[Value.pointer a6] w91 fun (e93 : Ending) (w94 : World) =>
 ∃ (x95 : Int),
 ∃ (x96 : Int),
 ∃ (x97 : Int),
 ∃ (x98 : Int),
 e93 =
 Ending.returned
 (Value.agg
 #[Value.int IntKind.i64 x95, Value.int IntKind.i64 x96, Value.int IntKind.i64 x97, Value.int IntKind.i64 x98]) ∧
 Keeps [n35] w91 w94 ∧
 ((x95 == x31 && (x96 == x32 && (x97 == x33 && (x98 == x34 && true)))) = true →
 Calls Proofs.Try.prog 47 #[] w94 fun (e99 : Ending) (w100 : World) =>
 ∃ (b101 : Bool),
 e99 = Ending.returned (Value.bool b101) ∧ Keeps [n35] w94 w100 ∧ R (Ending.returned (Value.bool b101)) w100) ∧
 ((x95 == x31 && (x96 == x32 && (x97 == x33 && (x98 == x34 && true)))) = false →
 R (Ending.returned (Value.bool false)) w94)) ∧
 (b92 = false → R (Ending.returned (Value.bool false)) w91)))))
theorem f8_eq (la : Option Addr) (ln : Nat) (lc : Nat) (id : Int) (va : Option Addr) (vn : Nat) (vc : Nat) (w : World) (R : Ending → World → Prop) : (fnF Go.Proofs.Try.prog h8 Go.Proofs.Try.f8 [Value.slice la ln lc, Value.int IntKind.i64 id, Value.slice va vn vc] w R).den = f8_vc la ln lc id va vn vc w R := by kernel_rfl
theorem f8_calls (la : Option Addr) (ln : Nat) (lc : Nat) (id : Int) (va : Option Addr) (vn : Nat) (vc : Nat) (w : World) (R : Ending → World → Prop) (h : f8_vc la ln lc id va vn vc w R) : Calls Go.Proofs.Try.prog 8 (List.toArray [Value.slice la ln lc, Value.int IntKind.i64 id, Value.slice va vn vc]) w R :=
 fn_sound (H := h8) (fn := Go.Proofs.Try.f8) (by kernel_rfl) (by kernel_rfl) (by kernel_rfl) ((f8_eq la ln lc id va vn vc w R).mpr h)

end Vct

