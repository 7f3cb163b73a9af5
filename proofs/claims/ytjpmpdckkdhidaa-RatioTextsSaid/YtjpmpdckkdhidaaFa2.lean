/- The formulas of functions, printed by a program (VcTool.lean): each is what the generator's formula comes to, by the kernel's reckoning; whoever proves one has the function's contract. -/
import Derived.Test.YtjpmpdckkdhidaaVcFn
import Derived.Test.YtjpmpdckkdhidaaProg
set_option maxRecDepth 100000
set_option maxHeartbeats 1000000
set_option linter.unusedVariables false
namespace Vca
open Go Go.Vc Go.RowKit
/-! manciple/manciplelaw03.QuantSums -/
def h6 : Hints := ⟨[], [52, 63, 73, 83], [22, 42, 46, 107, 38, 93, 98, 103], [], [], [(8, ⟨[(11, .int .i64)], []⟩)], [], []⟩
def f6_vc (most : Int) (la : Option Addr) (ln : Nat) (lc : Nat) (n : Int) (w : World) (R : Ending → World → Prop) : Prop :=
 (decide ((↑ln : Int) > 100) = true → R (Ending.returned (Value.bool true)) w) ∧
 (decide ((↑ln : Int) > 100) = false →
 Calls Proofs.Try.prog 19 #[Value.int IntKind.i64 most, Value.slice la ln lc] w fun (e1 : Ending) (w2 : World) =>
 ∃ (x3 : Int),
 ∃ (b4 : Bool),
 e1 = Ending.returned (Value.tuple #[Value.int IntKind.i64 x3, Value.bool b4]) ∧
 Calls Proofs.Try.prog 20 #[Value.int IntKind.i64 most, Value.slice la ln lc] w2 fun (e5 : Ending) (w6 : World) =>
 ∃ (x7 : Int),
 ∃ (b8 : Bool),
 e5 = Ending.returned (Value.tuple #[Value.int IntKind.i64 x7, Value.bool b8]) ∧
 ((x3 != x7) = true → R (Ending.returned (Value.bool false)) w6) ∧
 ((x3 != x7) = false →
 ((!b4 == b8) = true → R (Ending.returned (Value.bool false)) w6) ∧
 ((!b4 == b8) = false →
 ∃ (J9 : Int × Unit → World → Prop),
 ∃ (J10 : Int × Unit → World → Nat),
 J9 (0, ()) w6 ∧
 ∀ (x11 : Int) (w12 : World),
 J9 (x11, ()) w12 →
 (decide (x11 < (↑ln : Int)) = true →
 ∃ (a13 : Option Addr),
 Gives Proofs.Try.prog (Instr.indexAt 36 (Value.slice la ln lc) (Value.int IntKind.i64 x11)) (Value.pointer a13) ∧
 ∃ (x14 : Int),
 Reads Proofs.Try.prog [] (Instr.loadAt 2 (Value.pointer a13)) w12 (Value.int IntKind.i64 x14) ∧
 Calls Proofs.Try.prog 21 #[Value.int IntKind.i64 x14, Value.int IntKind.i64 n, Value.int IntKind.i64 most] w12 fun (e15 : Ending) (w16 : World) =>
 ∃ (x17 : Int),
 ∃ (b18 : Bool),
 e15 = Ending.returned (Value.tuple #[Value.int IntKind.i64 x17, Value.bool b18]) ∧
 ∃ (a19 : Option Addr),
 Gives Proofs.Try.prog (Instr.indexAt 36 (Value.slice la ln lc) (Value.int IntKind.i64 x11)) (Value.pointer a19) ∧
 ∃ (x20 : Int),
 Reads Proofs.Try.prog [] (Instr.loadAt 2 (Value.pointer a19)) w16 (Value.int IntKind.i64 x20) ∧
 OpW Proofs.Try.prog (valueS (Instr.buildSlice 36 2 #[(0, Value.int IntKind.i64 x20), (1, Value.int IntKind.i64 n)])) w16 fun (v21 : Value) (w22 : World) =>
 ∃ (a23 : Option Addr),
 ∃ (n24 : Nat),
 ∃ (n25 : Nat),
 v21 = Value.slice a23 n24 n25 ∧
 Calls Proofs.Try.prog 20 #[Value.int IntKind.i64 most, Value.slice a23 n24 n25] w22 fun (e26 : Ending) (w27 : World) =>
 ∃ (x28 : Int),
 ∃ (b29 : Bool),
 e26 = Ending.returned (Value.tuple #[Value.int IntKind.i64 x28, Value.bool b29]) ∧
 ∃ (a30 : Option Addr),
 Gives Proofs.Try.prog (Instr.indexAt 36 (Value.slice la ln lc) (Value.int IntKind.i64 x11)) (Value.pointer a30) ∧
 ∃ (x31 : Int),
 Reads Proofs.Try.prog [] (Instr.loadAt 2 (Value.pointer a30)) w27 (Value.int IntKind.i64 x31) ∧
 Calls Proofs.Try.prog 22 #[Value.int IntKind.i64 x31, Value.int IntKind.i64 n, Value.int IntKind.i64 most] w27 fun (e32 : Ending) (w33 : World) =>
 ∃ (x34 : Int),
 ∃ (b35 : Bool),
 e32 = Ending.returned (Value.tuple #[Value.int IntKind.i64 x34, Value.bool b35]) ∧
 ∃ (a36 : Option Addr),
 Gives Proofs.Try.prog (Instr.indexAt 36 (Value.slice la ln lc) (Value.int IntKind.i64 x11)) (Value.pointer a36) ∧
 ∃ (x37 : Int),
 Reads Proofs.Try.prog [] (Instr.loadAt 2 (Value.pointer a36)) w33 (Value.int IntKind.i64 x37) ∧
 Calls Proofs.Try.prog 23 #[Value.int IntKind.i64 x37, Value.int IntKind.i64 n, Value.int IntKind.i64 most] w33
 fun (e38 : Ending) (w39 : World) =>
 ∃ (x40 : Int),
 ∃ (b41 : Bool),
 e38 = Ending.returned (Value.tuple #[Value.int IntKind.i64 x40, Value.bool b41]) ∧
 ((x17 != x28) = true → R (Ending.returned (Value.bool false)) w39) ∧
 ((x17 != x28) = false →
 ((!b18 == b29) = true → R (Ending.returned (Value.bool false)) w39) ∧
 ((!b18 == b29) = false →
 ((x34 != x40) = true → R (Ending.returned (Value.bool false)) w39) ∧
 ((x34 != x40) = false →
 ((!b35 == b41) = true → R (Ending.returned (Value.bool false)) w39) ∧
 ((!b35 == b41) = false →
 J9 (IntKind.i64.wrap (x11 + 1), ()) w39 ∧
 J10 (IntKind.i64.wrap (x11 + 1), ()) w39 < J10 (x11, ()) w12))))) ∧
 (decide (x11 < (↑ln : Int)) = false →
 Calls Proofs.Try.prog 24 #[] w12 fun (e42 : Ending) (w43 : World) => ∃ (b44 : Bool), e42 = Ending.returned (Value.bool b44) ∧ R (Ending.returned (Value.bool b44)) w43))))
theorem f6_eq (most : Int) (la : Option Addr) (ln : Nat) (lc : Nat) (n : Int) (w : World) (R : Ending → World → Prop) : (fnF Go.Proofs.Try.prog h6 Go.Proofs.Try.f6 [Value.int IntKind.i64 most, Value.slice la ln lc, Value.int IntKind.i64 n] w R).den = f6_vc most la ln lc n w R := by kernel_rfl
theorem f6_calls (most : Int) (la : Option Addr) (ln : Nat) (lc : Nat) (n : Int) (w : World) (R : Ending → World → Prop) (h : f6_vc most la ln lc n w R) : Calls Go.Proofs.Try.prog 6 (List.toArray [Value.int IntKind.i64 most, Value.slice la ln lc, Value.int IntKind.i64 n]) w R :=
 fn_sound (H := h6) (fn := Go.Proofs.Try.f6) (by kernel_rfl) (by kernel_rfl) (by kernel_rfl) ((f6_eq most la ln lc n w R).mpr h)


/-! manciple/manciplelaw03.QuantTexts -/
def h7 : Hints := ⟨[], [], [12, 53, 26, 35, 41, 46, 48, 55, 61, 64, 69], [], [], [], [], []⟩
def f7_vc (n : Int) (s : ByteArray) (w : World) (R : Ending → World → Prop) : Prop :=
 (decide ((↑s.size : Int) > 100) = true → R (Ending.returned (Value.bool true)) w) ∧
 (decide ((↑s.size : Int) > 100) = false →
 Calls Proofs.Try.prog 26 #[Value.int IntKind.i64 n] w fun (e1 : Ending) (w2 : World) =>
 ∃ (s3 : ByteArray),
 e1 = Ending.returned (Value.string s3) ∧
 Calls Proofs.Try.prog 25 #[Value.string s3] w2 fun (e4 : Ending) (w5 : World) =>
 ∃ (x6 : Int),
 ∃ (b7 : Bool),
 e4 = Ending.returned (Value.tuple #[Value.int IntKind.i64 x6, Value.bool b7]) ∧
 Calls Proofs.Try.prog 25 #[Value.string s] w5 fun (e8 : Ending) (w9 : World) =>
 ∃ (x10 : Int),
 ∃ (b11 : Bool),
 e8 = Ending.returned (Value.tuple #[Value.int IntKind.i64 x10, Value.bool b11]) ∧
 (decide (n ≥ 0) = true →
 Calls Proofs.Try.prog 27 #[Value.int IntKind.i64 n] w9 fun (e12 : Ending) (w13 : World) =>
 ∃ (s14 : ByteArray),
 e12 = Ending.returned (Value.string s14) ∧
 Calls Proofs.Try.prog 26 #[Value.int IntKind.i64 n] w13 fun (e15 : Ending) (w16 : World) =>
 ∃ (s17 : ByteArray),
 e15 = Ending.returned (Value.string s17) ∧
 ((!s14.toList == s17.toList) = true → R (Ending.returned (Value.bool false)) w16) ∧
 ((!s14.toList == s17.toList) = false →
 Calls Proofs.Try.prog 28 #[Value.int IntKind.i64 n] w16 fun (e18 : Ending) (w19 : World) =>
 ∃ (b20 : Bool),
 e18 = Ending.returned (Value.bool b20) ∧
 ((!b20 == decide (n ≤ 9007199254740992)) = true → R (Ending.returned (Value.bool false)) w19) ∧
 ((!b20 == decide (n ≤ 9007199254740992)) = false →
 ((!b7 == decide (n ≤ 9007199254740992)) = true → R (Ending.returned (Value.bool false)) w19) ∧
 ((!b7 == decide (n ≤ 9007199254740992)) = false →
 (b7 = true →
 ((x6 != n) = true → R (Ending.returned (Value.bool false)) w19) ∧
 ((x6 != n) = false →
 (b11 = true →
 Calls Proofs.Try.prog 26 #[Value.int IntKind.i64 x10] w19 fun (e21 : Ending) (w22 : World) =>
 ∃ (s23 : ByteArray),
 e21 = Ending.returned (Value.string s23) ∧
 ((s23.toList == s.toList) = true →
 Calls Proofs.Try.prog 24 #[] w22 fun (e24 : Ending) (w25 : World) =>
 ∃ (b26 : Bool), e24 = Ending.returned (Value.bool b26) ∧ R (Ending.returned (Value.bool b26)) w25) ∧
 ((s23.toList == s.toList) = false →
 ((!b11) = true →
 ((x10 == 0) = true →
 Calls Proofs.Try.prog 24 #[] w22 fun (e27 : Ending) (w28 : World) =>
 ∃ (b29 : Bool), e27 = Ending.returned (Value.bool b29) ∧ R (Ending.returned (Value.bool b29)) w28) ∧
 ((x10 == 0) = false → R (Ending.returned (Value.bool false)) w22)) ∧
 ((!b11) = false → R (Ending.returned (Value.bool false)) w22))) ∧
 (b11 = false →
 ((!b11) = true →
 ((x10 == 0) = true →
 Calls Proofs.Try.prog 24 #[] w19 fun (e30 : Ending) (w31 : World) =>
 ∃ (b32 : Bool), e30 = Ending.returned (Value.bool b32) ∧ R (Ending.returned (Value.bool b32)) w31) ∧
 ((x10 == 0) = false → R (Ending.returned (Value.bool false)) w19)) ∧
 ((!b11) = false → R (Ending.returned (Value.bool false)) w19)))) ∧
 (b7 = false →
 (b11 = true →
 Calls Proofs.Try.prog 26 #[Value.int IntKind.i64 x10] w19 fun (e33 : Ending) (w34 : World) =>
 ∃ (s35 : ByteArray),
 e33 = Ending.returned (Value.string s35) ∧
 ((s35.toList == s.toList) = true →
 Calls Proofs.Try.prog 24 #[] w34 fun (e36 : Ending) (w37 : World) =>
 ∃ (b38 : Bool), e36 = Ending.returned (Value.bool b38) ∧ R (Ending.returned (Value.bool b38)) w37) ∧
 ((s35.toList == s.toList) = false →
 ((!b11) = true →
 ((x10 == 0) = true →
 Calls Proofs.Try.prog 24 #[] w34 fun (e39 : Ending) (w40 : World) =>
 ∃ (b41 : Bool), e39 = Ending.returned (Value.bool b41) ∧ R (Ending.returned (Value.bool b41)) w40) ∧
 ((x10 == 0) = false → R (Ending.returned (Value.bool false)) w34)) ∧
 ((!b11) = false → R (Ending.returned (Value.bool false)) w34))) ∧
 (b11 = false →
 ((!b11) = true →
 ((x10 == 0) = true →
 Calls Proofs.Try.prog 24 #[] w19 fun (e42 : Ending) (w43 : World) =>
 ∃ (b44 : Bool), e42 = Ending.returned (Value.bool b44) ∧ R (Ending.returned (Value.bool b44)) w43) ∧
 ((x10 == 0) = false → R (Ending.returned (Value.bool false)) w19)) ∧
 ((!b11) = false → R (Ending.returned (Value.bool false)) w19))))))) ∧
 (decide (n ≥ 0) = false →
 Calls Proofs.Try.prog 27 #[Value.int IntKind.i64 n] w9 fun (e45 : Ending) (w46 : World) =>
 ∃ (s47 : ByteArray),
 e45 = Ending.returned (Value.string s47) ∧
 Calls Proofs.Try.prog 26 #[Value.int IntKind.i64 n] w46 fun (e48 : Ending) (w49 : World) =>
 ∃ (s50 : ByteArray),
 e48 = Ending.returned (Value.string s50) ∧
 ((!s47.toList == s50.toList) = true → R (Ending.returned (Value.bool false)) w49) ∧
 ((!s47.toList == s50.toList) = false →
 Calls Proofs.Try.prog 28 #[Value.int IntKind.i64 n] w49 fun (e51 : Ending) (w52 : World) =>
 ∃ (b53 : Bool),
 e51 = Ending.returned (Value.bool b53) ∧
 ((!b53 == false) = true → R (Ending.returned (Value.bool false)) w52) ∧
 ((!b53 == false) = false →
 ((!b7 == false) = true → R (Ending.returned (Value.bool false)) w52) ∧
 ((!b7 == false) = false →
 (b7 = true →
 ((x6 != n) = true → R (Ending.returned (Value.bool false)) w52) ∧
 ((x6 != n) = false →
 (b11 = true →
 Calls Proofs.Try.prog 26 #[Value.int IntKind.i64 x10] w52 fun (e54 : Ending) (w55 : World) =>
 ∃ (s56 : ByteArray),
 e54 = Ending.returned (Value.string s56) ∧
 ((s56.toList == s.toList) = true →
 Calls Proofs.Try.prog 24 #[] w55 fun (e57 : Ending) (w58 : World) =>
 ∃ (b59 : Bool), e57 = Ending.returned (Value.bool b59) ∧ R (Ending.returned (Value.bool b59)) w58) ∧
 ((s56.toList == s.toList) = false →
 ((!b11) = true →
 ((x10 == 0) = true →
 Calls Proofs.Try.prog 24 #[] w55 fun (e60 : Ending) (w61 : World) =>
 ∃ (b62 : Bool), e60 = Ending.returned (Value.bool b62) ∧ R (Ending.returned (Value.bool b62)) w61) ∧
 ((x10 == 0) = false → R (Ending.returned (Value.bool false)) w55)) ∧
 ((!b11) = false → R (Ending.returned (Value.bool false)) w55))) ∧
 (b11 = false →
 ((!b11) = true →
 ((x10 == 0) = true →
 Calls Proofs.Try.prog 24 #[] w52 fun (e63 : Ending) (w64 : World) =>
 ∃ (b65 : Bool), e63 = Ending.returned (Value.bool b65) ∧ R (Ending.returned (Value.bool b65)) w64) ∧
 ((x10 == 0) = false → R (Ending.returned (Value.bool false)) w52)) ∧
 ((!b11) = false → R (Ending.returned (Value.bool false)) w52)))) ∧
 (b7 = false →
 (b11 = true →
 Calls Proofs.Try.prog 26 #[Value.int IntKind.i64 x10] w52 fun (e66 : Ending) (w67 : World) =>
 ∃ (s68 : ByteArray),
 e66 = Ending.returned (Value.string s68) ∧
 ((s68.toList == s.toList) = true →
 Calls Proofs.Try.prog 24 #[] w67 fun (e69 : Ending) (w70 : World) =>
 ∃ (b71 : Bool), e69 = Ending.returned (Value.bool b71) ∧ R (Ending.returned (Value.bool b71)) w70) ∧
 ((s68.toList == s.toList) = false →
 ((!b11) = true →
 ((x10 == 0) = true →
 Calls Proofs.Try.prog 24 #[] w67 fun (e72 : Ending) (w73 : World) =>
 ∃ (b74 : Bool), e72 = Ending.returned (Value.bool b74) ∧ R (Ending.returned (Value.bool b74)) w73) ∧
 ((x10 == 0) = false → R (Ending.returned (Value.bool false)) w67)) ∧
 ((!b11) = false → R (Ending.returned (Value.bool false)) w67))) ∧
 (b11 = false →
 ((!b11) = true →
 ((x10 == 0) = true →
 Calls Proofs.Try.prog 24 #[] w52 fun (e75 : Ending) (w76 : World) =>
 ∃ (b77 : Bool), e75 = Ending.returned (Value.bool b77) ∧ R (Ending.returned (Value.bool b77)) w76) ∧
 ((x10 == 0) = false → R (Ending.returned (Value.bool false)) w52)) ∧
 ((!b11) = false → R (Ending.returned (Value.bool false)) w52))))))))
theorem f7_eq (n : Int) (s : ByteArray) (w : World) (R : Ending → World → Prop) : (fnF Go.Proofs.Try.prog h7 Go.Proofs.Try.f7 [Value.int IntKind.i64 n, Value.string s] w R).den = f7_vc n s w R := by kernel_rfl
theorem f7_calls (n : Int) (s : ByteArray) (w : World) (R : Ending → World → Prop) (h : f7_vc n s w R) : Calls Go.Proofs.Try.prog 7 (List.toArray [Value.int IntKind.i64 n, Value.string s]) w R :=
 fn_sound (H := h7) (fn := Go.Proofs.Try.f7) (by kernel_rfl) (by kernel_rfl) (by kernel_rfl) ((f7_eq n s w R).mpr h)


/-! manciple/manciplelaw03.QuantBack -/
def h8 : Hints := ⟨[], [], [71, 73, 38, 43, 47, 54, 56, 64, 67, 76, 86, 91, 96, 101], [], [], [], [], []⟩
def f8_vc (a : Int) (b : Int) (most : Int) (w : World) (R : Ending → World → Prop) : Prop :=
 Calls Proofs.Try.prog 21 #[Value.int IntKind.i64 a, Value.int IntKind.i64 b, Value.int IntKind.i64 most] w fun (e1 : Ending) (w2 : World) =>
 ∃ (x3 : Int),
 ∃ (b4 : Bool),
 e1 = Ending.returned (Value.tuple #[Value.int IntKind.i64 x3, Value.bool b4]) ∧
 Calls Proofs.Try.prog 21 #[Value.int IntKind.i64 b, Value.int IntKind.i64 a, Value.int IntKind.i64 most] w2 fun (e5 : Ending) (w6 : World) =>
 ∃ (x7 : Int),
 ∃ (b8 : Bool),
 e5 = Ending.returned (Value.tuple #[Value.int IntKind.i64 x7, Value.bool b8]) ∧
 Calls Proofs.Try.prog 29 #[Value.int IntKind.i64 a, Value.int IntKind.i64 b] w6 fun (e9 : Ending) (w10 : World) =>
 ∃ (x11 : Int),
 ∃ (b12 : Bool),
 e9 = Ending.returned (Value.tuple #[Value.int IntKind.i64 x11, Value.bool b12]) ∧
 ((x3 != x7) = true → R (Ending.returned (Value.bool false)) w10) ∧
 ((x3 != x7) = false →
 ((!b4 == b8) = true → R (Ending.returned (Value.bool false)) w10) ∧
 ((!b4 == b8) = false →
 (decide (b ≥ 0) = true →
 ((!b12 == decide (b ≤ a)) = true → R (Ending.returned (Value.bool false)) w10) ∧
 ((!b12 == decide (b ≤ a)) = false →
 (b12 = true →
 ((x11 != IntKind.i64.wrap (a - b)) = true → R (Ending.returned (Value.bool false)) w10) ∧
 ((x11 != IntKind.i64.wrap (a - b)) = false →
 ((!b12) = true →
 ((x11 != 0) = true → R (Ending.returned (Value.bool false)) w10) ∧
 ((x11 != 0) = false →
 ((!b4) = true →
 ((x3 == 0) = true →
 Calls Proofs.Try.prog 24 #[] w10 fun (e13 : Ending) (w14 : World) => ∃ (b15 : Bool), e13 = Ending.returned (Value.bool b15) ∧ R (Ending.returned (Value.bool b15)) w14) ∧
 ((x3 == 0) = false → R (Ending.returned (Value.bool false)) w10)) ∧
 ((!b4) = false →
 Calls Proofs.Try.prog 29 #[Value.int IntKind.i64 x3, Value.int IntKind.i64 b] w10 fun (e16 : Ending) (w17 : World) =>
 ∃ (x18 : Int),
 ∃ (b19 : Bool),
 e16 = Ending.returned (Value.tuple #[Value.int IntKind.i64 x18, Value.bool b19]) ∧
 (b19 = true →
 ((x18 == a) = true →
 (decide (x3 ≤ most) = true →
 (decide (x3 ≥ a) = true →
 Calls Proofs.Try.prog 24 #[] w17 fun (e20 : Ending) (w21 : World) =>
 ∃ (b22 : Bool), e20 = Ending.returned (Value.bool b22) ∧ R (Ending.returned (Value.bool b22)) w21) ∧
 (decide (x3 ≥ a) = false → R (Ending.returned (Value.bool false)) w17)) ∧
 (decide (x3 ≤ most) = false → R (Ending.returned (Value.bool false)) w17)) ∧
 ((x18 == a) = false → R (Ending.returned (Value.bool false)) w17)) ∧
 (b19 = false → R (Ending.returned (Value.bool false)) w17)))) ∧
 ((!b12) = false →
 ((!b4) = true →
 ((x3 == 0) = true →
 Calls Proofs.Try.prog 24 #[] w10 fun (e23 : Ending) (w24 : World) => ∃ (b25 : Bool), e23 = Ending.returned (Value.bool b25) ∧ R (Ending.returned (Value.bool b25)) w24) ∧
 ((x3 == 0) = false → R (Ending.returned (Value.bool false)) w10)) ∧
 ((!b4) = false →
 Calls Proofs.Try.prog 29 #[Value.int IntKind.i64 x3, Value.int IntKind.i64 b] w10 fun (e26 : Ending) (w27 : World) =>
 ∃ (x28 : Int),
 ∃ (b29 : Bool),
 e26 = Ending.returned (Value.tuple #[Value.int IntKind.i64 x28, Value.bool b29]) ∧
 (b29 = true →
 ((x28 == a) = true →
 (decide (x3 ≤ most) = true →
 (decide (x3 ≥ a) = true →
 Calls Proofs.Try.prog 24 #[] w27 fun (e30 : Ending) (w31 : World) =>
 ∃ (b32 : Bool), e30 = Ending.returned (Value.bool b32) ∧ R (Ending.returned (Value.bool b32)) w31) ∧
 (decide (x3 ≥ a) = false → R (Ending.returned (Value.bool false)) w27)) ∧
 (decide (x3 ≤ most) = false → R (Ending.returned (Value.bool false)) w27)) ∧
 ((x28 == a) = false → R (Ending.returned (Value.bool false)) w27)) ∧
 (b29 = false → R (Ending.returned (Value.bool false)) w27))))) ∧
 (b12 = false →
 ((!b12) = true →
 ((x11 != 0) = true → R (Ending.returned (Value.bool false)) w10) ∧
 ((x11 != 0) = false →
 ((!b4) = true →
 ((x3 == 0) = true →
 Calls Proofs.Try.prog 24 #[] w10 fun (e33 : Ending) (w34 : World) => ∃ (b35 : Bool), e33 = Ending.returned (Value.bool b35) ∧ R (Ending.returned (Value.bool b35)) w34) ∧
 ((x3 == 0) = false → R (Ending.returned (Value.bool false)) w10)) ∧
 ((!b4) = false →
 Calls Proofs.Try.prog 29 #[Value.int IntKind.i64 x3, Value.int IntKind.i64 b] w10 fun (e36 : Ending) (w37 : World) =>
 ∃ (x38 : Int),
 ∃ (b39 : Bool),
 e36 = Ending.returned (Value.tuple #[Value.int IntKind.i64 x38, Value.bool b39]) ∧
 (b39 = true →
 ((x38 == a) = true →
 (decide (x3 ≤ most) = true →
 (decide (x3 ≥ a) = true →
 Calls Proofs.Try.prog 24 #[] w37 fun (e40 : Ending) (w41 : World) =>
 ∃ (b42 : Bool), e40 = Ending.returned (Value.bool b42) ∧ R (Ending.returned (Value.bool b42)) w41) ∧
 (decide (x3 ≥ a) = false → R (Ending.returned (Value.bool false)) w37)) ∧
 (decide (x3 ≤ most) = false → R (Ending.returned (Value.bool false)) w37)) ∧
 ((x38 == a) = false → R (Ending.returned (Value.bool false)) w37)) ∧
 (b39 = false → R (Ending.returned (Value.bool false)) w37)))) ∧
 ((!b12) = false →
 ((!b4) = true →
 ((x3 == 0) = true →
 Calls Proofs.Try.prog 24 #[] w10 fun (e43 : Ending) (w44 : World) => ∃ (b45 : Bool), e43 = Ending.returned (Value.bool b45) ∧ R (Ending.returned (Value.bool b45)) w44) ∧
 ((x3 == 0) = false → R (Ending.returned (Value.bool false)) w10)) ∧
 ((!b4) = false →
 Calls Proofs.Try.prog 29 #[Value.int IntKind.i64 x3, Value.int IntKind.i64 b] w10 fun (e46 : Ending) (w47 : World) =>
 ∃ (x48 : Int),
 ∃ (b49 : Bool),
 e46 = Ending.returned (Value.tuple #[Value.int IntKind.i64 x48, Value.bool b49]) ∧
 (b49 = true →
 ((x48 == a) = true →
 (decide (x3 ≤ most) = true →
 (decide (x3 ≥ a) = true →
 Calls Proofs.Try.prog 24 #[] w47 fun (e50 : Ending) (w51 : World) =>
 ∃ (b52 : Bool), e50 = Ending.returned (Value.bool b52) ∧ R (Ending.returned (Value.bool b52)) w51) ∧
 (decide (x3 ≥ a) = false → R (Ending.returned (Value.bool false)) w47)) ∧
 (decide (x3 ≤ most) = false → R (Ending.returned (Value.bool false)) w47)) ∧
 ((x48 == a) = false → R (Ending.returned (Value.bool false)) w47)) ∧
 (b49 = false → R (Ending.returned (Value.bool false)) w47)))))) ∧
 (decide (b ≥ 0) = false →
 ((!b12 == false) = true → R (Ending.returned (Value.bool false)) w10) ∧
 ((!b12 == false) = false →
 (b12 = true →
 ((x11 != IntKind.i64.wrap (a - b)) = true → R (Ending.returned (Value.bool false)) w10) ∧
 ((x11 != IntKind.i64.wrap (a - b)) = false →
 ((!b12) = true →
 ((x11 != 0) = true → R (Ending.returned (Value.bool false)) w10) ∧
 ((x11 != 0) = false →
 ((!b4) = true →
 ((x3 == 0) = true →
 Calls Proofs.Try.prog 24 #[] w10 fun (e53 : Ending) (w54 : World) => ∃ (b55 : Bool), e53 = Ending.returned (Value.bool b55) ∧ R (Ending.returned (Value.bool b55)) w54) ∧
 ((x3 == 0) = false → R (Ending.returned (Value.bool false)) w10)) ∧
 ((!b4) = false →
 Calls Proofs.Try.prog 29 #[Value.int IntKind.i64 x3, Value.int IntKind.i64 b] w10 fun (e56 : Ending) (w57 : World) =>
 ∃ (x58 : Int),
 ∃ (b59 : Bool),
 e56 = Ending.returned (Value.tuple #[Value.int IntKind.i64 x58, Value.bool b59]) ∧
 (b59 = true →
 ((x58 == a) = true →
 (decide (x3 ≤ most) = true →
 (decide (x3 ≥ a) = true →
 Calls Proofs.Try.prog 24 #[] w57 fun (e60 : Ending) (w61 : World) =>
 ∃ (b62 : Bool), e60 = Ending.returned (Value.bool b62) ∧ R (Ending.returned (Value.bool b62)) w61) ∧
 (decide (x3 ≥ a) = false → R (Ending.returned (Value.bool false)) w57)) ∧
 (decide (x3 ≤ most) = false → R (Ending.returned (Value.bool false)) w57)) ∧
 ((x58 == a) = false → R (Ending.returned (Value.bool false)) w57)) ∧
 (b59 = false → R (Ending.returned (Value.bool false)) w57)))) ∧
 ((!b12) = false →
 ((!b4) = true →
 ((x3 == 0) = true →
 Calls Proofs.Try.prog 24 #[] w10 fun (e63 : Ending) (w64 : World) => ∃ (b65 : Bool), e63 = Ending.returned (Value.bool b65) ∧ R (Ending.returned (Value.bool b65)) w64) ∧
 ((x3 == 0) = false → R (Ending.returned (Value.bool false)) w10)) ∧
 ((!b4) = false →
 Calls Proofs.Try.prog 29 #[Value.int IntKind.i64 x3, Value.int IntKind.i64 b] w10 fun (e66 : Ending) (w67 : World) =>
 ∃ (x68 : Int),
 ∃ (b69 : Bool),
 e66 = Ending.returned (Value.tuple #[Value.int IntKind.i64 x68, Value.bool b69]) ∧
 (b69 = true →
 ((x68 == a) = true →
 (decide (x3 ≤ most) = true →
 (decide (x3 ≥ a) = true →
 Calls Proofs.Try.prog 24 #[] w67 fun (e70 : Ending) (w71 : World) =>
 ∃ (b72 : Bool), e70 = Ending.returned (Value.bool b72) ∧ R (Ending.returned (Value.bool b72)) w71) ∧
 (decide (x3 ≥ a) = false → R (Ending.returned (Value.bool false)) w67)) ∧
 (decide (x3 ≤ most) = false → R (Ending.returned (Value.bool false)) w67)) ∧
 ((x68 == a) = false → R (Ending.returned (Value.bool false)) w67)) ∧
 (b69 = false → R (Ending.returned (Value.bool false)) w67))))) ∧
 (b12 = false →
 ((!b12) = true →
 ((x11 != 0) = true → R (Ending.returned (Value.bool false)) w10) ∧
 ((x11 != 0) = false →
 ((!b4) = true →
 ((x3 == 0) = true →
 Calls Proofs.Try.prog 24 #[] w10 fun (e73 : Ending) (w74 : World) => ∃ (b75 : Bool), e73 = Ending.returned (Value.bool b75) ∧ R (Ending.returned (Value.bool b75)) w74) ∧
 ((x3 == 0) = false → R (Ending.returned (Value.bool false)) w10)) ∧
 ((!b4) = false →
 Calls Proofs.Try.prog 29 #[Value.int IntKind.i64 x3, Value.int IntKind.i64 b] w10 fun (e76 : Ending) (w77 : World) =>
 ∃ (x78 : Int),
 ∃ (b79 : Bool),
 e76 = Ending.returned (Value.tuple #[Value.int IntKind.i64 x78, Value.bool b79]) ∧
 (b79 = true →
 ((x78 == a) = true →
 (decide (x3 ≤ most) = true →
 (decide (x3 ≥ a) = true →
 Calls Proofs.Try.prog 24 #[] w77 fun (e80 : Ending) (w81 : World) =>
 ∃ (b82 : Bool), e80 = Ending.returned (Value.bool b82) ∧ R (Ending.returned (Value.bool b82)) w81) ∧
 (decide (x3 ≥ a) = false → R (Ending.returned (Value.bool false)) w77)) ∧
 (decide (x3 ≤ most) = false → R (Ending.returned (Value.bool false)) w77)) ∧
 ((x78 == a) = false → R (Ending.returned (Value.bool false)) w77)) ∧
 (b79 = false → R (Ending.returned (Value.bool false)) w77)))) ∧
 ((!b12) = false →
 ((!b4) = true →
 ((x3 == 0) = true →
 Calls Proofs.Try.prog 24 #[] w10 fun (e83 : Ending) (w84 : World) => ∃ (b85 : Bool), e83 = Ending.returned (Value.bool b85) ∧ R (Ending.returned (Value.bool b85)) w84) ∧
 ((x3 == 0) = false → R (Ending.returned (Value.bool false)) w10)) ∧
 ((!b4) = false →
 Calls Proofs.Try.prog 29 #[Value.int IntKind.i64 x3, Value.int IntKind.i64 b] w10 fun (e86 : Ending) (w87 : World) =>
 ∃ (x88 : Int),
 ∃ (b89 : Bool),
 e86 = Ending.returned (Value.tuple #[Value.int IntKind.i64 x88, Value.bool b89]) ∧
 (b89 = true →
 ((x88 == a) = true →
 (decide (x3 ≤ most) = true →
 (decide (x3 ≥ a) = true →
 Calls Proofs.Try.prog 24 #[] w87 fun (e90 : Ending) (w91 : World) =>
 ∃ (b92 : Bool), e90 = Ending.returned (Value.bool b92) ∧ R (Ending.returned (Value.bool b92)) w91) ∧
 (decide (x3 ≥ a) = false → R (Ending.returned (Value.bool false)) w87)) ∧
 (decide (x3 ≤ most) = false → R (Ending.returned (Value.bool false)) w87)) ∧
 ((x88 == a) = false → R (Ending.returned (Value.bool false)) w87)) ∧
 (b89 = false → R (Ending.returned (Value.bool false)) w87))))))))
theorem f8_eq (a : Int) (b : Int) (most : Int) (w : World) (R : Ending → World → Prop) : (fnF Go.Proofs.Try.prog h8 Go.Proofs.Try.f8 [Value.int IntKind.i64 a, Value.int IntKind.i64 b, Value.int IntKind.i64 most] w R).den = f8_vc a b most w R := by kernel_rfl
theorem f8_calls (a : Int) (b : Int) (most : Int) (w : World) (R : Ending → World → Prop) (h : f8_vc a b most w R) : Calls Go.Proofs.Try.prog 8 (List.toArray [Value.int IntKind.i64 a, Value.int IntKind.i64 b, Value.int IntKind.i64 most]) w R :=
 fn_sound (H := h8) (fn := Go.Proofs.Try.f8) (by kernel_rfl) (by kernel_rfl) (by kernel_rfl) ((f8_eq a b most w R).mpr h)


/-! manciple/quant.Sum -/
def h19 : Hints := ⟨[], [15], [10, 14, 25, 19], [], [], [(5, ⟨[(6, .int .i64), (13, .int .i64)], []⟩)], [], []⟩
def f19_vc (most : Int) (la : Option Addr) (ln : Nat) (lc : Nat) (w : World) (R : Ending → World → Prop) : Prop :=
 (decide (most < 0) = true → R (Ending.returned (Value.tuple #[Value.int IntKind.i64 0, Value.bool false])) w) ∧
 (decide (most < 0) = false →
 ∃ (J1 : Int × Int × Unit → World → Prop),
 ∃ (J2 : Int × Int × Unit → World → Nat),
 J1 (0, 0, ()) w ∧
 ∀ (x3 x4 : Int) (w5 : World),
 J1 (x3, x4, ()) w5 →
 (decide (x4 < (↑ln : Int)) = true →
 ∃ (a6 : Option Addr),
 Gives Proofs.Try.prog (Instr.indexAt 36 (Value.slice la ln lc) (Value.int IntKind.i64 x4)) (Value.pointer a6) ∧
 ∃ (x7 : Int),
 Reads Proofs.Try.prog [] (Instr.loadAt 2 (Value.pointer a6)) w5 (Value.int IntKind.i64 x7) ∧
 (decide (x7 < 0) = true → R (Ending.returned (Value.tuple #[Value.int IntKind.i64 0, Value.bool false])) w5) ∧
 (decide (x7 < 0) = false →
 (decide (x7 > IntKind.i64.wrap (most - x3)) = true → R (Ending.returned (Value.tuple #[Value.int IntKind.i64 0, Value.bool false])) w5) ∧
 (decide (x7 > IntKind.i64.wrap (most - x3)) = false →
 J1 (IntKind.i64.wrap (x3 + x7), IntKind.i64.wrap (x4 + 1), ()) w5 ∧ J2 (IntKind.i64.wrap (x3 + x7), IntKind.i64.wrap (x4 + 1), ()) w5 < J2 (x3, x4, ()) w5))) ∧
 (decide (x4 < (↑ln : Int)) = false → R (Ending.returned (Value.tuple #[Value.int IntKind.i64 x3, Value.bool true])) w5))
theorem f19_eq (most : Int) (la : Option Addr) (ln : Nat) (lc : Nat) (w : World) (R : Ending → World → Prop) : (fnF Go.Proofs.Try.prog h19 Go.Proofs.Try.f19 [Value.int IntKind.i64 most, Value.slice la ln lc] w R).den = f19_vc most la ln lc w R := by kernel_rfl
theorem f19_calls (most : Int) (la : Option Addr) (ln : Nat) (lc : Nat) (w : World) (R : Ending → World → Prop) (h : f19_vc most la ln lc w R) : Calls Go.Proofs.Try.prog 19 (List.toArray [Value.int IntKind.i64 most, Value.slice la ln lc]) w R :=
 fn_sound (H := h19) (fn := Go.Proofs.Try.f19) (by kernel_rfl) (by kernel_rfl) (by kernel_rfl) ((f19_eq most la ln lc w R).mpr h)


/-! manciple/mancipleref03.Sum -/
def h20 : Hints := ⟨[], [17, 27, 35], [12, 31, 39, 20, 24], [], [], [(3, ⟨[(6, .int .i64), (7, .int .i64)], []⟩)], [], []⟩
def f20_vc (most : Int) (la : Option Addr) (ln : Nat) (lc : Nat) (w : World) (R : Ending → World → Prop) : Prop :=
 ∃ (J1 : Int × Int × Unit → World → Prop),
 ∃ (J2 : Int × Int × Unit → World → Nat),
 J1 (most, 0, ()) w ∧
 ∀ (x3 x4 : Int) (w5 : World),
 J1 (x3, x4, ()) w5 →
 (decide (x4 < (↑ln : Int)) = true →
 ∃ (a6 : Option Addr),
 Gives Proofs.Try.prog (Instr.indexAt 36 (Value.slice la ln lc) (Value.int IntKind.i64 x4)) (Value.pointer a6) ∧
 ∃ (x7 : Int),
 Reads Proofs.Try.prog [] (Instr.loadAt 2 (Value.pointer a6)) w5 (Value.int IntKind.i64 x7) ∧
 (decide (x7 < 0) = true → R (Ending.returned (Value.tuple #[Value.int IntKind.i64 0, Value.bool false])) w5) ∧
 (decide (x7 < 0) = false →
 (decide (x3 < 0) = true → R (Ending.returned (Value.tuple #[Value.int IntKind.i64 0, Value.bool false])) w5) ∧
 (decide (x3 < 0) = false →
 ∃ (a8 : Option Addr),
 Gives Proofs.Try.prog (Instr.indexAt 36 (Value.slice la ln lc) (Value.int IntKind.i64 x4)) (Value.pointer a8) ∧
 ∃ (x9 : Int),
 Reads Proofs.Try.prog [] (Instr.loadAt 2 (Value.pointer a8)) w5 (Value.int IntKind.i64 x9) ∧
 (decide (x9 > x3) = true → R (Ending.returned (Value.tuple #[Value.int IntKind.i64 0, Value.bool false])) w5) ∧
 (decide (x9 > x3) = false →
 ∃ (a10 : Option Addr),
 Gives Proofs.Try.prog (Instr.indexAt 36 (Value.slice la ln lc) (Value.int IntKind.i64 x4)) (Value.pointer a10) ∧
 ∃ (x11 : Int),
 Reads Proofs.Try.prog [] (Instr.loadAt 2 (Value.pointer a10)) w5 (Value.int IntKind.i64 x11) ∧
 J1 (IntKind.i64.wrap (x3 - x11), IntKind.i64.wrap (x4 + 1), ()) w5 ∧ J2 (IntKind.i64.wrap (x3 - x11), IntKind.i64.wrap (x4 + 1), ()) w5 < J2 (x3, x4, ()) w5)))) ∧
 (decide (x4 < (↑ln : Int)) = false →
 (decide (most < 0) = true → R (Ending.returned (Value.tuple #[Value.int IntKind.i64 0, Value.bool false])) w5) ∧
 (decide (most < 0) = false → R (Ending.returned (Value.tuple #[Value.int IntKind.i64 (IntKind.i64.wrap (most - x3)), Value.bool true])) w5))
theorem f20_eq (most : Int) (la : Option Addr) (ln : Nat) (lc : Nat) (w : World) (R : Ending → World → Prop) : (fnF Go.Proofs.Try.prog h20 Go.Proofs.Try.f20 [Value.int IntKind.i64 most, Value.slice la ln lc] w R).den = f20_vc most la ln lc w R := by kernel_rfl
theorem f20_calls (most : Int) (la : Option Addr) (ln : Nat) (lc : Nat) (w : World) (R : Ending → World → Prop) (h : f20_vc most la ln lc w R) : Calls Go.Proofs.Try.prog 20 (List.toArray [Value.int IntKind.i64 most, Value.slice la ln lc]) w R :=
 fn_sound (H := h20) (fn := Go.Proofs.Try.f20) (by kernel_rfl) (by kernel_rfl) (by kernel_rfl) ((f20_eq most la ln lc w R).mpr h)


/-! manciple/quant.Add -/
def h21 : Hints := ⟨[], [], [], [], [], [], [], []⟩
def f21_vc (a : Int) (b : Int) (most : Int) (w : World) (R : Ending → World → Prop) : Prop :=
 OpW Proofs.Try.prog (valueS (Instr.buildSlice 36 2 #[(0, Value.int IntKind.i64 a), (1, Value.int IntKind.i64 b)])) w fun (v1 : Value) (w2 : World) =>
 ∃ (a3 : Option Addr),
 ∃ (n4 : Nat),
 ∃ (n5 : Nat),
 v1 = Value.slice a3 n4 n5 ∧
 Calls Proofs.Try.prog 19 #[Value.int IntKind.i64 most, Value.slice a3 n4 n5] w2 fun (e6 : Ending) (w7 : World) =>
 ∃ (x8 : Int), ∃ (b9 : Bool), e6 = Ending.returned (Value.tuple #[Value.int IntKind.i64 x8, Value.bool b9]) ∧ R (Ending.returned (Value.tuple #[Value.int IntKind.i64 x8, Value.bool b9])) w7
theorem f21_eq (a : Int) (b : Int) (most : Int) (w : World) (R : Ending → World → Prop) : (fnF Go.Proofs.Try.prog h21 Go.Proofs.Try.f21 [Value.int IntKind.i64 a, Value.int IntKind.i64 b, Value.int IntKind.i64 most] w R).den = f21_vc a b most w R := by kernel_rfl
theorem f21_calls (a : Int) (b : Int) (most : Int) (w : World) (R : Ending → World → Prop) (h : f21_vc a b most w R) : Calls Go.Proofs.Try.prog 21 (List.toArray [Value.int IntKind.i64 a, Value.int IntKind.i64 b, Value.int IntKind.i64 most]) w R :=
 fn_sound (H := h21) (fn := Go.Proofs.Try.f21) (by kernel_rfl) (by kernel_rfl) (by kernel_rfl) ((f21_eq a b most w R).mpr h)


/-! manciple/quant.Times -/
def h22 : Hints := ⟨[], [25], [28, 10, 14, 18, 21], [], [], [], [], []⟩
def f22_vc (a : Int) (n : Int) (most : Int) (w : World) (R : Ending → World → Prop) : Prop :=
 (decide (a < 0) = true → R (Ending.returned (Value.tuple #[Value.int IntKind.i64 0, Value.bool false])) w) ∧
 (decide (a < 0) = false →
 (decide (n < 0) = true → R (Ending.returned (Value.tuple #[Value.int IntKind.i64 0, Value.bool false])) w) ∧
 (decide (n < 0) = false →
 (decide (most < 0) = true → R (Ending.returned (Value.tuple #[Value.int IntKind.i64 0, Value.bool false])) w) ∧
 (decide (most < 0) = false →
 (decide (a > 0) = true →
 ∃ (x1 : Int),
 Gives Proofs.Try.prog (binOpS BinOp.quo 2 (Operand.tmp 23) (Operand.tmp 24) (Value.int IntKind.i64 most) (Value.int IntKind.i64 a)) (Value.int IntKind.i64 x1) ∧
 (decide (n > x1) = true → R (Ending.returned (Value.tuple #[Value.int IntKind.i64 0, Value.bool false])) w) ∧
 (decide (n > x1) = false → R (Ending.returned (Value.tuple #[Value.int IntKind.i64 (IntKind.i64.wrap (a * n)), Value.bool true])) w)) ∧
 (decide (a > 0) = false → R (Ending.returned (Value.tuple #[Value.int IntKind.i64 (IntKind.i64.wrap (a * n)), Value.bool true])) w))))
theorem f22_eq (a : Int) (n : Int) (most : Int) (w : World) (R : Ending → World → Prop) : (fnF Go.Proofs.Try.prog h22 Go.Proofs.Try.f22 [Value.int IntKind.i64 a, Value.int IntKind.i64 n, Value.int IntKind.i64 most] w R).den = f22_vc a n most w R := by kernel_rfl
theorem f22_calls (a : Int) (n : Int) (most : Int) (w : World) (R : Ending → World → Prop) (h : f22_vc a n most w R) : Calls Go.Proofs.Try.prog 22 (List.toArray [Value.int IntKind.i64 a, Value.int IntKind.i64 n, Value.int IntKind.i64 most]) w R :=
 fn_sound (H := h22) (fn := Go.Proofs.Try.f22) (by kernel_rfl) (by kernel_rfl) (by kernel_rfl) ((f22_eq a n most w R).mpr h)


/-! manciple/mancipleref03.Times -/
def h23 : Hints := ⟨[], [25], [28, 10, 14, 18, 21], [], [], [], [], []⟩
def f23_vc (a : Int) (n : Int) (most : Int) (w : World) (R : Ending → World → Prop) : Prop :=
 (decide (a < 0) = true → R (Ending.returned (Value.tuple #[Value.int IntKind.i64 0, Value.bool false])) w) ∧
 (decide (a < 0) = false →
 (decide (n < 0) = true → R (Ending.returned (Value.tuple #[Value.int IntKind.i64 0, Value.bool false])) w) ∧
 (decide (n < 0) = false →
 (decide (most < 0) = true → R (Ending.returned (Value.tuple #[Value.int IntKind.i64 0, Value.bool false])) w) ∧
 (decide (most < 0) = false →
 (decide (a > 0) = true →
 ∃ (x1 : Int),
 Gives Proofs.Try.prog (binOpS BinOp.quo 2 (Operand.tmp 23) (Operand.tmp 24) (Value.int IntKind.i64 most) (Value.int IntKind.i64 a)) (Value.int IntKind.i64 x1) ∧
 (decide (n > x1) = true → R (Ending.returned (Value.tuple #[Value.int IntKind.i64 0, Value.bool false])) w) ∧
 (decide (n > x1) = false → R (Ending.returned (Value.tuple #[Value.int IntKind.i64 (IntKind.i64.wrap (a * n)), Value.bool true])) w)) ∧
 (decide (a > 0) = false → R (Ending.returned (Value.tuple #[Value.int IntKind.i64 (IntKind.i64.wrap (a * n)), Value.bool true])) w))))
theorem f23_eq (a : Int) (n : Int) (most : Int) (w : World) (R : Ending → World → Prop) : (fnF Go.Proofs.Try.prog h23 Go.Proofs.Try.f23 [Value.int IntKind.i64 a, Value.int IntKind.i64 n, Value.int IntKind.i64 most] w R).den = f23_vc a n most w R := by kernel_rfl
theorem f23_calls (a : Int) (n : Int) (most : Int) (w : World) (R : Ending → World → Prop) (h : f23_vc a n most w R) : Calls Go.Proofs.Try.prog 23 (List.toArray [Value.int IntKind.i64 a, Value.int IntKind.i64 n, Value.int IntKind.i64 most]) w R :=
 fn_sound (H := h23) (fn := Go.Proofs.Try.f23) (by kernel_rfl) (by kernel_rfl) (by kernel_rfl) ((f23_eq a n most w R).mpr h)


/-! manciple/manciplelaw03.works -/
def h24 : Hints := ⟨[], [], [21, 24, 28, 32, 36], [], [], [], [], []⟩
def f24_vc  (w : World) (R : Ending → World → Prop) : Prop :=
 Calls Proofs.Try.prog 21 #[Value.int IntKind.i64 3, Value.int IntKind.i64 4, Value.int IntKind.i64 7] w fun (e1 : Ending) (w2 : World) =>
 ∃ (x3 : Int),
 ∃ (b4 : Bool),
 e1 = Ending.returned (Value.tuple #[Value.int IntKind.i64 x3, Value.bool b4]) ∧
 Calls Proofs.Try.prog 21 #[Value.int IntKind.i64 3, Value.int IntKind.i64 4, Value.int IntKind.i64 6] w2 fun (e5 : Ending) (w6 : World) =>
 ∃ (x7 : Int),
 ∃ (b8 : Bool),
 e5 = Ending.returned (Value.tuple #[Value.int IntKind.i64 x7, Value.bool b8]) ∧
 Calls Proofs.Try.prog 25 #[Value.string (ByteArray.mk #[48, 46, 48, 50, 53])] w6 fun (e9 : Ending) (w10 : World) =>
 ∃ (x11 : Int),
 ∃ (b12 : Bool),
 e9 = Ending.returned (Value.tuple #[Value.int IntKind.i64 x11, Value.bool b12]) ∧
 ((x3 == 7) = true →
 (b4 = true →
 ((!b8) = true →
 Calls Proofs.Try.prog 27 #[Value.int IntKind.i64 1500] w10 fun (e13 : Ending) (w14 : World) =>
 ∃ (s15 : ByteArray),
 e13 = Ending.returned (Value.string s15) ∧
 ((s15.toList == (ByteArray.mk #[49, 46, 53]).toList) = true → ((x11 == 25) = true → R (Ending.returned (Value.bool b12)) w14) ∧ ((x11 == 25) = false → R (Ending.returned (Value.bool false)) w14)) ∧
 ((s15.toList == (ByteArray.mk #[49, 46, 53]).toList) = false → R (Ending.returned (Value.bool false)) w14)) ∧
 ((!b8) = false → R (Ending.returned (Value.bool false)) w10)) ∧
 (b4 = false → R (Ending.returned (Value.bool false)) w10)) ∧
 ((x3 == 7) = false → R (Ending.returned (Value.bool false)) w10)
theorem f24_eq  (w : World) (R : Ending → World → Prop) : (fnF Go.Proofs.Try.prog h24 Go.Proofs.Try.f24 [] w R).den = f24_vc  w R := by kernel_rfl
theorem f24_calls  (w : World) (R : Ending → World → Prop) (h : f24_vc  w R) : Calls Go.Proofs.Try.prog 24 (List.toArray []) w R :=
 fn_sound (H := h24) (fn := Go.Proofs.Try.f24) (by kernel_rfl) (by kernel_rfl) (by kernel_rfl) ((f24_eq  w R).mpr h)


/-! manciple/quant.Parse -/
def h25 : Hints := ⟨[], [], [14, 21, 41, 43, 57, 17, 24, 28, 52], [], [], [(3, ⟨[(4, .int .i64), (5, .int .i64)], []⟩)], [], [(11, .cons (.int .i64) (.cons (.int .i32) (.nil)))]⟩
def f25_vc (s : ByteArray) (w : World) (R : Ending → World → Prop) : Prop :=
 OpW Proofs.Try.prog (valueS (Instr.range 9 (Value.string s))) w fun (v1 : Value) (w2 : World) =>
 ∃ (a3 : Option Addr),
 v1 = Value.pointer a3 ∧
 ∃ (J4 : Int × Int × Unit → World → Prop),
 ∃ (J5 : Int × Int × Unit → World → Nat),
 J4 (0, 0, ()) w2 ∧
 ∀ (x6 x7 : Int) (w8 : World),
 J4 (x6, x7, ()) w8 →
 OpW Proofs.Try.prog (valueS (Instr.next (Value.pointer a3) true 0)) w8 fun (v9 : Value) (w10 : World) =>
 (v9 = Value.tuple #[Value.bool false] ∨
 ∃ (x :
 (nextShape (Hints.mk [] [] [14, 21, 41, 43, 57, 17, 24, 28, 52] [] [] [(3, LH.mk [(4, Sh.int IntKind.i64), (5, Sh.int IntKind.i64)] [])] [] [(11, (Sh.int IntKind.i64).cons ((Sh.int IntKind.i32).cons Sh.nil))])
 #[Oper.mk (some 11) (Op.next (Operand.tmp 10) true) 0 "quant.go:76" #[] none, Oper.mk (some 12) (Op.extract (Operand.tmp 11) 0) 4 "quant.go:76" #[Edge.mk 0 Ground.data] none][0]).T),
 v9 = Value.tuple #[Value.bool true, Value.int IntKind.i64 x.fst, Value.int IntKind.i32 x.snd.fst]) ∧
 (v9 = Value.tuple #[Value.bool false] →
 ((x7 == 0) = true →
 Calls Proofs.Try.prog 22 #[Value.int IntKind.i64 x6, Value.int IntKind.i64 1000, Value.int IntKind.i64 9007199254740992] w10 fun (e11 : Ending) (w12 : World) =>
 ∃ (x13 : Int),
 ∃ (b14 : Bool),
 e11 = Ending.returned (Value.tuple #[Value.int IntKind.i64 x13, Value.bool b14]) ∧
 ((!b14) = true → R (Ending.returned (Value.tuple #[Value.int IntKind.i64 0, Value.bool false])) w12) ∧
 ((!b14) = false →
 Calls Proofs.Try.prog 27 #[Value.int IntKind.i64 x13] w12 fun (e15 : Ending) (w16 : World) =>
 ∃ (s17 : ByteArray),
 e15 = Ending.returned (Value.string s17) ∧
 ((!s17.toList == s.toList) = true → R (Ending.returned (Value.tuple #[Value.int IntKind.i64 0, Value.bool false])) w16) ∧
 ((!s17.toList == s.toList) = false → R (Ending.returned (Value.tuple #[Value.int IntKind.i64 x13, Value.bool true])) w16))) ∧
 ((x7 == 0) = false →
 Calls Proofs.Try.prog 22 #[Value.int IntKind.i64 x6, Value.int IntKind.i64 x7, Value.int IntKind.i64 9007199254740992] w10 fun (e18 : Ending) (w19 : World) =>
 ∃ (x20 : Int),
 ∃ (b21 : Bool),
 e18 = Ending.returned (Value.tuple #[Value.int IntKind.i64 x20, Value.bool b21]) ∧
 ((!b21) = true → R (Ending.returned (Value.tuple #[Value.int IntKind.i64 0, Value.bool false])) w19) ∧
 ((!b21) = false →
 Calls Proofs.Try.prog 27 #[Value.int IntKind.i64 x20] w19 fun (e22 : Ending) (w23 : World) =>
 ∃ (s24 : ByteArray),
 e22 = Ending.returned (Value.string s24) ∧
 ((!s24.toList == s.toList) = true → R (Ending.returned (Value.tuple #[Value.int IntKind.i64 0, Value.bool false])) w23) ∧
 ((!s24.toList == s.toList) = false → R (Ending.returned (Value.tuple #[Value.int IntKind.i64 x20, Value.bool true])) w23)))) ∧
 ∀ (x25 x26 : Int),
 v9 = Value.tuple #[Value.bool true, Value.int IntKind.i64 x25, Value.int IntKind.i32 x26] →
 ((x26 == 46) = true →
 ((x7 == 0) = true → J4 (x6, 1000, ()) w10 ∧ J5 (x6, 1000, ()) w10 < J5 (x6, x7, ()) w8) ∧
 ((x7 == 0) = false →
 (decide (x26 < 48) = true → R (Ending.returned (Value.tuple #[Value.int IntKind.i64 0, Value.bool false])) w10) ∧
 (decide (x26 < 48) = false →
 (decide (x26 > 57) = true → R (Ending.returned (Value.tuple #[Value.int IntKind.i64 0, Value.bool false])) w10) ∧
 (decide (x26 > 57) = false →
 ((x7 == 1) = true → R (Ending.returned (Value.tuple #[Value.int IntKind.i64 0, Value.bool false])) w10) ∧
 ((x7 == 1) = false →
 (decide (IntKind.i64.wrap (IntKind.i64.wrap (x6 * 10) + IntKind.i64.wrap (IntKind.i32.wrap (x26 - 48))) > 9007199254740992) = true →
 R (Ending.returned (Value.tuple #[Value.int IntKind.i64 0, Value.bool false])) w10) ∧
 (decide (IntKind.i64.wrap (IntKind.i64.wrap (x6 * 10) + IntKind.i64.wrap (IntKind.i32.wrap (x26 - 48))) > 9007199254740992) = false →
 J4 (IntKind.i64.wrap (IntKind.i64.wrap (x6 * 10) + IntKind.i64.wrap (IntKind.i32.wrap (x26 - 48))), IntKind.i64.wrap (x7.tdiv 10), ()) w10 ∧
 J5 (IntKind.i64.wrap (IntKind.i64.wrap (x6 * 10) + IntKind.i64.wrap (IntKind.i32.wrap (x26 - 48))), IntKind.i64.wrap (x7.tdiv 10), ()) w10 < J5 (x6, x7, ()) w8)))))) ∧
 ((x26 == 46) = false →
 (decide (x26 < 48) = true → R (Ending.returned (Value.tuple #[Value.int IntKind.i64 0, Value.bool false])) w10) ∧
 (decide (x26 < 48) = false →
 (decide (x26 > 57) = true → R (Ending.returned (Value.tuple #[Value.int IntKind.i64 0, Value.bool false])) w10) ∧
 (decide (x26 > 57) = false →
 ((x7 == 1) = true → R (Ending.returned (Value.tuple #[Value.int IntKind.i64 0, Value.bool false])) w10) ∧
 ((x7 == 1) = false →
 (decide (IntKind.i64.wrap (IntKind.i64.wrap (x6 * 10) + IntKind.i64.wrap (IntKind.i32.wrap (x26 - 48))) > 9007199254740992) = true →
 R (Ending.returned (Value.tuple #[Value.int IntKind.i64 0, Value.bool false])) w10) ∧
 (decide (IntKind.i64.wrap (IntKind.i64.wrap (x6 * 10) + IntKind.i64.wrap (IntKind.i32.wrap (x26 - 48))) > 9007199254740992) = false →
 J4 (IntKind.i64.wrap (IntKind.i64.wrap (x6 * 10) + IntKind.i64.wrap (IntKind.i32.wrap (x26 - 48))), IntKind.i64.wrap (x7.tdiv 10), ()) w10 ∧
 J5 (IntKind.i64.wrap (IntKind.i64.wrap (x6 * 10) + IntKind.i64.wrap (IntKind.i32.wrap (x26 - 48))), IntKind.i64.wrap (x7.tdiv 10), ()) w10 < J5 (x6, x7, ()) w8)))))
theorem f25_eq (s : ByteArray) (w : World) (R : Ending → World → Prop) : (fnF Go.Proofs.Try.prog h25 Go.Proofs.Try.f25 [Value.string s] w R).den = f25_vc s w R := by kernel_rfl
theorem f25_calls (s : ByteArray) (w : World) (R : Ending → World → Prop) (h : f25_vc s w R) : Calls Go.Proofs.Try.prog 25 (List.toArray [Value.string s]) w R :=
 fn_sound (H := h25) (fn := Go.Proofs.Try.f25) (by kernel_rfl) (by kernel_rfl) (by kernel_rfl) ((f25_eq s w R).mpr h)


/-! manciple/mancipleref03.Text -/
def h26 : Hints := ⟨[], [21, 29, 31, 34], [11, 18, 23, 8], [], [], [(9, ⟨[(3, .str), (4, .int .i64), (5, .int .i64)], []⟩)], [], []⟩
def f26_vc (n : Int) (w : World) (R : Ending → World → Prop) : Prop :=
 (decide (n < 0) = true → R (Ending.returned (Value.string (ByteArray.mk #[]))) w) ∧
 (decide (n < 0) = false →
 (decide (n > 9007199254740992) = true → R (Ending.returned (Value.string (ByteArray.mk #[]))) w) ∧
 (decide (n > 9007199254740992) = false →
 Calls Proofs.Try.prog 39 #[Value.int IntKind.i64 (IntKind.i64.wrap (n.tdiv 1000))] w fun (e1 : Ending) (w2 : World) =>
 ∃ (s3 : ByteArray),
 e1 = Ending.returned (Value.string s3) ∧
 ((n.tmod 1000 == 0) = true → R (Ending.returned (Value.string s3)) w2) ∧
 ((n.tmod 1000 == 0) = false →
 ∃ (s4 : ByteArray),
 Gives Proofs.Try.prog (binOpS BinOp.add 9 (Operand.tmp 20) (Operand.const (Value.string (ByteArray.mk #[46]))) (Value.string s3) (Value.string (ByteArray.mk #[46]))) (Value.string s4) ∧
 ∃ (J5 : ByteArray × Int × Int × Unit → World → Prop),
 ∃ (J6 : ByteArray × Int × Int × Unit → World → Nat),
 J5 (s4, n.tmod 1000, 100, ()) w2 ∧
 ∀ (s7 : ByteArray) (x8 x9 : Int) (w10 : World),
 J5 (s7, x8, x9, ()) w10 →
 (decide (x8 > 0) = true →
 ∃ (x11 : Int),
 Gives Proofs.Try.prog (binOpS BinOp.quo 2 (Operand.tmp 27) (Operand.tmp 28) (Value.int IntKind.i64 x8) (Value.int IntKind.i64 x9)) (Value.int IntKind.i64 x11) ∧
 Calls Proofs.Try.prog 39 #[Value.int IntKind.i64 x11] w10 fun (e12 : Ending) (w13 : World) =>
 ∃ (s14 : ByteArray),
 e12 = Ending.returned (Value.string s14) ∧
 ∃ (s15 : ByteArray),
 Gives Proofs.Try.prog (binOpS BinOp.add 9 (Operand.tmp 26) (Operand.tmp 30) (Value.string s7) (Value.string s14)) (Value.string s15) ∧
 ∃ (x16 : Int),
 Gives Proofs.Try.prog (binOpS BinOp.rem 2 (Operand.tmp 32) (Operand.tmp 33) (Value.int IntKind.i64 x8) (Value.int IntKind.i64 x9)) (Value.int IntKind.i64 x16) ∧
 J5 (s15, x16, IntKind.i64.wrap (x9.tdiv 10), ()) w13 ∧ J6 (s15, x16, IntKind.i64.wrap (x9.tdiv 10), ()) w13 < J6 (s7, x8, x9, ()) w10) ∧
 (decide (x8 > 0) = false → R (Ending.returned (Value.string s7)) w10))))
theorem f26_eq (n : Int) (w : World) (R : Ending → World → Prop) : (fnF Go.Proofs.Try.prog h26 Go.Proofs.Try.f26 [Value.int IntKind.i64 n] w R).den = f26_vc n w R := by kernel_rfl
theorem f26_calls (n : Int) (w : World) (R : Ending → World → Prop) (h : f26_vc n w R) : Calls Go.Proofs.Try.prog 26 (List.toArray [Value.int IntKind.i64 n]) w R :=
 fn_sound (H := h26) (fn := Go.Proofs.Try.f26) (by kernel_rfl) (by kernel_rfl) (by kernel_rfl) ((f26_eq n w R).mpr h)


/-! manciple/quant.Text -/
def h27 : Hints := ⟨[], [25, 32], [6, 12, 27], [], [], [(7, ⟨[(3, .sl)], []⟩)], [], []⟩
def f27_vc (n : Int) (w : World) (R : Ending → World → Prop) : Prop :=
 Calls Proofs.Try.prog 28 #[Value.int IntKind.i64 n] w fun (e1 : Ending) (w2 : World) =>
 ∃ (b3 : Bool),
 e1 = Ending.returned (Value.bool b3) ∧
 ((!b3) = true → R (Ending.returned (Value.string (ByteArray.mk #[]))) w2) ∧
 ((!b3) = false →
 Calls Proofs.Try.prog 40 #[Value.slice none 0 0, Value.int IntKind.i64 (IntKind.i64.wrap (n.tdiv 1000)), Value.int IntKind.i64 1] w2 fun (e4 : Ending) (w5 : World) =>
 ∃ (a6 : Option Addr),
 ∃ (n7 : Nat),
 ∃ (n8 : Nat),
 e4 = Ending.returned (Value.slice a6 n7 n8) ∧
 ((n.tmod 1000 == 0) = true →
 OpW Proofs.Try.prog (valueS (convert 61 9 (Value.slice a6 n7 n8))) w5 fun (v9 : Value) (w10 : World) => ∃ (s11 : ByteArray), v9 = Value.string s11 ∧ R (Ending.returned (Value.string s11)) w10) ∧
 ((n.tmod 1000 == 0) = false →
 OpW Proofs.Try.prog (valueS (Instr.buildSlice 61 1 #[(0, Value.int IntKind.u8 46)])) w5 fun (v12 : Value) (w13 : World) =>
 ∃ (a14 : Option Addr),
 ∃ (n15 : Nat),
 ∃ (n16 : Nat),
 v12 = Value.slice a14 n15 n16 ∧
 OpW Proofs.Try.prog (builtin Builtin.append #[61, 61] 61 #[false, false] #[Value.slice a6 n7 n8, Value.slice a14 n15 n16]) w13 fun (v17 : Value) (w18 : World) =>
 ∃ (a19 : Option Addr),
 ∃ (n20 : Nat),
 ∃ (n21 : Nat),
 v17 = Value.slice a19 n20 n21 ∧
 Calls Proofs.Try.prog 40 #[Value.slice a19 n20 n21, Value.int IntKind.i64 (n.tmod 1000), Value.int IntKind.i64 3] w18 fun (e22 : Ending) (w23 : World) =>
 ∃ (a24 : Option Addr),
 ∃ (n25 : Nat),
 ∃ (n26 : Nat),
 e22 = Ending.returned (Value.slice a24 n25 n26) ∧
 ∃ (J27 : (Option Addr × Nat × Nat) × Unit → World → Prop),
 ∃ (J28 : (Option Addr × Nat × Nat) × Unit → World → Nat),
 J27 ((a24, n25, n26), ()) w23 ∧
 ∀ (a29 : Option Addr) (n30 n31 : Nat) (w32 : World),
 J27 ((a29, n30, n31), ()) w32 →
 ∃ (a33 : Option Addr),
 Gives Proofs.Try.prog (Instr.indexAt 61 (Value.slice a29 n30 n31) (Value.int IntKind.i64 (IntKind.i64.wrap ((↑n30 : Int) - 1)))) (Value.pointer a33) ∧
 ∃ (x34 : Int),
 Reads Proofs.Try.prog [] (Instr.loadAt 5 (Value.pointer a33)) w32 (Value.int IntKind.u8 x34) ∧
 ((x34 == 48) = true →
 ∃ (a35 : Option Addr),
 ∃ (n36 : Nat),
 ∃ (n37 : Nat),
 Gives Proofs.Try.prog (Instr.sliceAt 61 (Value.slice a29 n30 n31) none (some (Value.int IntKind.i64 (IntKind.i64.wrap ((↑n30 : Int) - 1)))) none)
 (Value.slice a35 n36 n37) ∧
 J27 ((a35, n36, n37), ()) w32 ∧ J28 ((a35, n36, n37), ()) w32 < J28 ((a29, n30, n31), ()) w32) ∧
 ((x34 == 48) = false →
 OpW Proofs.Try.prog (valueS (convert 61 9 (Value.slice a29 n30 n31))) w32 fun (v38 : Value) (w39 : World) =>
 ∃ (s40 : ByteArray), v38 = Value.string s40 ∧ R (Ending.returned (Value.string s40)) w39)))
theorem f27_eq (n : Int) (w : World) (R : Ending → World → Prop) : (fnF Go.Proofs.Try.prog h27 Go.Proofs.Try.f27 [Value.int IntKind.i64 n] w R).den = f27_vc n w R := by kernel_rfl
theorem f27_calls (n : Int) (w : World) (R : Ending → World → Prop) (h : f27_vc n w R) : Calls Go.Proofs.Try.prog 27 (List.toArray [Value.int IntKind.i64 n]) w R :=
 fn_sound (H := h27) (fn := Go.Proofs.Try.f27) (by kernel_rfl) (by kernel_rfl) (by kernel_rfl) ((f27_eq n w R).mpr h)


/-! manciple/quant.Right -/
def h28 : Hints := ⟨[], [], [5], [], [], [], [], []⟩
def f28_vc (n : Int) (w : World) (R : Ending → World → Prop) : Prop :=
 (decide (n ≥ 0) = true → R (Ending.returned (Value.bool (decide (n ≤ 9007199254740992)))) w) ∧ (decide (n ≥ 0) = false → R (Ending.returned (Value.bool false)) w)
theorem f28_eq (n : Int) (w : World) (R : Ending → World → Prop) : (fnF Go.Proofs.Try.prog h28 Go.Proofs.Try.f28 [Value.int IntKind.i64 n] w R).den = f28_vc n w R := by kernel_rfl
theorem f28_calls (n : Int) (w : World) (R : Ending → World → Prop) (h : f28_vc n w R) : Calls Go.Proofs.Try.prog 28 (List.toArray [Value.int IntKind.i64 n]) w R :=
 fn_sound (H := h28) (fn := Go.Proofs.Try.f28) (by kernel_rfl) (by kernel_rfl) (by kernel_rfl) ((f28_eq n w R).mpr h)


/-! manciple/quant.Sub -/
def h29 : Hints := ⟨[], [], [12, 8], [], [], [], [], []⟩
def f29_vc (a : Int) (b : Int) (w : World) (R : Ending → World → Prop) : Prop :=
 (decide (b < 0) = true → R (Ending.returned (Value.tuple #[Value.int IntKind.i64 0, Value.bool false])) w) ∧
 (decide (b < 0) = false →
 (decide (b > a) = true → R (Ending.returned (Value.tuple #[Value.int IntKind.i64 0, Value.bool false])) w) ∧
 (decide (b > a) = false → R (Ending.returned (Value.tuple #[Value.int IntKind.i64 (IntKind.i64.wrap (a - b)), Value.bool true])) w))
theorem f29_eq (a : Int) (b : Int) (w : World) (R : Ending → World → Prop) : (fnF Go.Proofs.Try.prog h29 Go.Proofs.Try.f29 [Value.int IntKind.i64 a, Value.int IntKind.i64 b] w R).den = f29_vc a b w R := by kernel_rfl
theorem f29_calls (a : Int) (b : Int) (w : World) (R : Ending → World → Prop) (h : f29_vc a b w R) : Calls Go.Proofs.Try.prog 29 (List.toArray [Value.int IntKind.i64 a, Value.int IntKind.i64 b]) w R :=
 fn_sound (H := h29) (fn := Go.Proofs.Try.f29) (by kernel_rfl) (by kernel_rfl) (by kernel_rfl) ((f29_eq a b w R).mpr h)


/-! manciple/mancipleref02.Digits -/
def h39 : Hints := ⟨[], [15], [5], [], [], [(3, ⟨[(0, .int .i64), (3, .str), (4, .bool)], []⟩)], [], []⟩
def f39_vc (n : Int) (w : World) (R : Ending → World → Prop) : Prop :=
 ∃ (J1 : Int × ByteArray × Bool × Unit → World → Prop),
 ∃ (J2 : Int × ByteArray × Bool × Unit → World → Nat),
 J1 (n, ByteArray.mk #[], true, ()) w ∧
 ∀ (x3 : Int) (s4 : ByteArray) (b5 : Bool) (w6 : World),
 J1 (x3, s4, b5, ()) w6 →
 (b5 = true →
 OpW Proofs.Try.prog (valueS (Instr.buildSlice 61 1 #[(0, Value.int IntKind.u8 (IntKind.u8.wrap (IntKind.i64.wrap (48 + x3.tmod 10))))])) w6 fun (v7 : Value) (w8 : World) =>
 ∃ (a9 : Option Addr),
 ∃ (n10 : Nat),
 ∃ (n11 : Nat),
 v7 = Value.slice a9 n10 n11 ∧
 OpW Proofs.Try.prog (valueS (convert 61 9 (Value.slice a9 n10 n11))) w8 fun (v12 : Value) (w13 : World) =>
 ∃ (s14 : ByteArray),
 v12 = Value.string s14 ∧
 ∃ (s15 : ByteArray),
 Gives Proofs.Try.prog (binOpS BinOp.add 9 (Operand.tmp 13) (Operand.tmp 14) (Value.string s14) (Value.string s4)) (Value.string s15) ∧
 J1 (IntKind.i64.wrap (x3.tdiv 10), s15, decide (IntKind.i64.wrap (x3.tdiv 10) > 0), ()) w13 ∧
 J2 (IntKind.i64.wrap (x3.tdiv 10), s15, decide (IntKind.i64.wrap (x3.tdiv 10) > 0), ()) w13 < J2 (x3, s4, b5, ()) w6) ∧
 (b5 = false → R (Ending.returned (Value.string s4)) w6)
theorem f39_eq (n : Int) (w : World) (R : Ending → World → Prop) : (fnF Go.Proofs.Try.prog h39 Go.Proofs.Try.f39 [Value.int IntKind.i64 n] w R).den = f39_vc n w R := by kernel_rfl
theorem f39_calls (n : Int) (w : World) (R : Ending → World → Prop) (h : f39_vc n w R) : Calls Go.Proofs.Try.prog 39 (List.toArray [Value.int IntKind.i64 n]) w R :=
 fn_sound (H := h39) (fn := Go.Proofs.Try.f39) (by kernel_rfl) (by kernel_rfl) (by kernel_rfl) ((f39_eq n w R).mpr h)


/-! manciple/quant.digits -/
def h40 : Hints := ⟨[], [], [12, 9], [], [], [], [], []⟩
def f40_vc (ba : Option Addr) (bn : Nat) (bc : Nat) (n : Int) (least : Int) (w : World) (R : Ending → World → Prop) : Prop :=
 (decide (n ≥ 10) = true →
 Calls Proofs.Try.prog 40 #[Value.slice ba bn bc, Value.int IntKind.i64 (IntKind.i64.wrap (n.tdiv 10)), Value.int IntKind.i64 (IntKind.i64.wrap (least - 1))] w fun (e1 : Ending) (w2 : World) =>
 ∃ (a3 : Option Addr),
 ∃ (n4 : Nat),
 ∃ (n5 : Nat),
 e1 = Ending.returned (Value.slice a3 n4 n5) ∧
 OpW Proofs.Try.prog (valueS (Instr.buildSlice 61 1 #[(0, Value.int IntKind.u8 (IntKind.u8.wrap (IntKind.i64.wrap (48 + n.tmod 10))))])) w2 fun (v6 : Value) (w7 : World) =>
 ∃ (a8 : Option Addr),
 ∃ (n9 : Nat),
 ∃ (n10 : Nat),
 v6 = Value.slice a8 n9 n10 ∧
 OpW Proofs.Try.prog (builtin Builtin.append #[61, 61] 61 #[false, false] #[Value.slice a3 n4 n5, Value.slice a8 n9 n10]) w7 fun (v11 : Value) (w12 : World) =>
 ∃ (a13 : Option Addr), ∃ (n14 : Nat), ∃ (n15 : Nat), v11 = Value.slice a13 n14 n15 ∧ R (Ending.returned (Value.slice a13 n14 n15)) w12) ∧
 (decide (n ≥ 10) = false →
 (decide (least > 1) = true →
 Calls Proofs.Try.prog 40 #[Value.slice ba bn bc, Value.int IntKind.i64 (IntKind.i64.wrap (n.tdiv 10)), Value.int IntKind.i64 (IntKind.i64.wrap (least - 1))] w fun (e16 : Ending) (w17 : World) =>
 ∃ (a18 : Option Addr),
 ∃ (n19 : Nat),
 ∃ (n20 : Nat),
 e16 = Ending.returned (Value.slice a18 n19 n20) ∧
 OpW Proofs.Try.prog (valueS (Instr.buildSlice 61 1 #[(0, Value.int IntKind.u8 (IntKind.u8.wrap (IntKind.i64.wrap (48 + n.tmod 10))))])) w17 fun (v21 : Value) (w22 : World) =>
 ∃ (a23 : Option Addr),
 ∃ (n24 : Nat),
 ∃ (n25 : Nat),
 v21 = Value.slice a23 n24 n25 ∧
 OpW Proofs.Try.prog (builtin Builtin.append #[61, 61] 61 #[false, false] #[Value.slice a18 n19 n20, Value.slice a23 n24 n25]) w22 fun (v26 : Value) (w27 : World) =>
 ∃ (a28 : Option Addr), ∃ (n29 : Nat), ∃ (n30 : Nat), v26 = Value.slice a28 n29 n30 ∧ R (Ending.returned (Value.slice a28 n29 n30)) w27) ∧
 (decide (least > 1) = false →
 OpW Proofs.Try.prog (valueS (Instr.buildSlice 61 1 #[(0, Value.int IntKind.u8 (IntKind.u8.wrap (IntKind.i64.wrap (48 + n.tmod 10))))])) w fun (v31 : Value) (w32 : World) =>
 ∃ (a33 : Option Addr),
 ∃ (n34 : Nat),
 ∃ (n35 : Nat),
 v31 = Value.slice a33 n34 n35 ∧
 OpW Proofs.Try.prog (builtin Builtin.append #[61, 61] 61 #[false, false] #[Value.slice ba bn bc, Value.slice a33 n34 n35]) w32 fun (v36 : Value) (w37 : World) =>
 ∃ (a38 : Option Addr), ∃ (n39 : Nat), ∃ (n40 : Nat), v36 = Value.slice a38 n39 n40 ∧ R (Ending.returned (Value.slice a38 n39 n40)) w37))
theorem f40_eq (ba : Option Addr) (bn : Nat) (bc : Nat) (n : Int) (least : Int) (w : World) (R : Ending → World → Prop) : (fnF Go.Proofs.Try.prog h40 Go.Proofs.Try.f40 [Value.slice ba bn bc, Value.int IntKind.i64 n, Value.int IntKind.i64 least] w R).den = f40_vc ba bn bc n least w R := by kernel_rfl
theorem f40_calls (ba : Option Addr) (bn : Nat) (bc : Nat) (n : Int) (least : Int) (w : World) (R : Ending → World → Prop) (h : f40_vc ba bn bc n least w R) : Calls Go.Proofs.Try.prog 40 (List.toArray [Value.slice ba bn bc, Value.int IntKind.i64 n, Value.int IntKind.i64 least]) w R :=
 fn_sound (H := h40) (fn := Go.Proofs.Try.f40) (by kernel_rfl) (by kernel_rfl) (by kernel_rfl) ((f40_eq ba bn bc n least w R).mpr h)

end Vca
