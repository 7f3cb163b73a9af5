/- Own texts of this claim, laid together: FS14, Sr3, Sr4, Sr6, Sr5, Sr7, FS15, Sr8, Sr9, Sr10, Tr1, Tr2, Tr3. -/
import Derived.Test.YtjpcmbaminjafaaMg280a325b
import Derived.Test.YtjpcmbaminjafaaProg

/- The formulas of functions, printed by a program (VcTool.lean): each is what the generator's formula comes to, by the kernel's reckoning; whoever proves one has the function's contract. -/
set_option maxRecDepth 100000
set_option maxHeartbeats 1000000
set_option linter.unusedVariables false
namespace Vcs
open Go Go.Vc Go.RowKit
/-! manciple/mancipleref06.Add -/
def h63 : Hints := ⟨[2, 3, 4, 6], [23, 26, 29], [15, 32, 11], [(7, [0, 1, 2, 3, 4, 5, 6, 7, 8, 9])], [(5, 5)], [], [], [], []⟩
def f63_vc (a_0 : Int) (a_1 : Int) (a_2 : Int) (a_3 : Int) (b_0 : Int) (b_1 : Int) (b_2 : Int) (b_3 : Int) (w : World) (R : Ending → World → Prop) : Prop :=
 ∀ (n1 : Nat),
 w.heap.size ≤ n1 →
 ∀ (n2 : Nat),
 w.heap.size ≤ n2 →
 ∀ (n3 : Nat),
 w.heap.size ≤ n3 →
 ∀ (n4 : Nat),
 w.heap.size ≤ n4 →
 ∀ (w5 : World),
 Bel w w5 →
 Under [n1, n2, n3, n4] w5 →
 Calls Proofs.Try.prog 92 #[Value.agg #[Value.int IntKind.i64 a_0, Value.int IntKind.i64 a_1, Value.int IntKind.i64 a_2, Value.int IntKind.i64 a_3]] w5 fun (e6 : Ending) (w7 : World) =>
 ∃ (b8 : Bool),
 e6 = Ending.returned (Value.bool b8) ∧
 Keeps [n1, n2, n3, n4] w5 w7 ∧
 ((!b8) = true →
 ∀ (w9 : World),
 Evo [n3] w7 w9 →
 Under [n1, n2, n3, n4] w9 → R (Ending.returned (Value.tuple #[Value.agg #[Value.int IntKind.i64 0, Value.int IntKind.i64 0, Value.int IntKind.i64 0, Value.int IntKind.i64 0], Value.bool false])) w9) ∧
 ((!b8) = false →
 Calls Proofs.Try.prog 92 #[Value.agg #[Value.int IntKind.i64 b_0, Value.int IntKind.i64 b_1, Value.int IntKind.i64 b_2, Value.int IntKind.i64 b_3]] w7 fun (e10 : Ending) (w11 : World) =>
 ∃ (b12 : Bool),
 e10 = Ending.returned (Value.bool b12) ∧
 Keeps [n1, n2, n3, n4] w7 w11 ∧
 ((!b12) = true →
 ∀ (w13 : World),
 Evo [n3] w11 w13 →
 Under [n1, n2, n3, n4] w13 →
 R (Ending.returned (Value.tuple #[Value.agg #[Value.int IntKind.i64 0, Value.int IntKind.i64 0, Value.int IntKind.i64 0, Value.int IntKind.i64 0], Value.bool false])) w13) ∧
 ((!b12) = false →
 ∀ (w14 : World),
 Evo [n4, n4, n4, n4] w11 w14 →
 Under [n1, n2, n3, n4] w14 →
 Calls Proofs.Try.prog 92
 #[Value.agg
 #[Value.int IntKind.i64 (IntKind.i64.wrap (a_0 + b_0)), Value.int IntKind.i64 (IntKind.i64.wrap (a_1 + b_1)), Value.int IntKind.i64 (IntKind.i64.wrap (a_2 + b_2)),
 Value.int IntKind.i64 (IntKind.i64.wrap (a_3 + b_3))]]
 w14 fun (e15 : Ending) (w16 : World) =>
 ∃ (b17 : Bool),
 e15 = Ending.returned (Value.bool b17) ∧
 Keeps [n1, n2, n3, n4] w14 w16 ∧
 ((!b17) = true →
 ∀ (w18 : World),
 Evo [n3] w16 w18 →
 Under [n1, n2, n3, n4] w18 →
 R (Ending.returned (Value.tuple #[Value.agg #[Value.int IntKind.i64 0, Value.int IntKind.i64 0, Value.int IntKind.i64 0, Value.int IntKind.i64 0], Value.bool false]))
 w18) ∧
 ((!b17) = false →
 ∀ (w19 : World),
 Evo [n3] w16 w19 →
 Under [n1, n2, n3, n4] w19 →
 R
 (Ending.returned
 (Value.tuple
 #[Value.agg
 #[Value.int IntKind.i64 (IntKind.i64.wrap (a_0 + b_0)), Value.int IntKind.i64 (IntKind.i64.wrap (a_1 + b_1)),
 Value.int IntKind.i64 (IntKind.i64.wrap (a_2 + b_2)), Value.int IntKind.i64 (IntKind.i64.wrap (a_3 + b_3))],
 Value.bool true]))
 w19)))
theorem f63_eq (a_0 : Int) (a_1 : Int) (a_2 : Int) (a_3 : Int) (b_0 : Int) (b_1 : Int) (b_2 : Int) (b_3 : Int) (w : World) (R : Ending → World → Prop) : (fnF Go.Proofs.Try.prog h63 Go.Proofs.Try.f63 [Value.agg #[Value.int IntKind.i64 a_0, Value.int IntKind.i64 a_1, Value.int IntKind.i64 a_2, Value.int IntKind.i64 a_3],
 Value.agg #[Value.int IntKind.i64 b_0, Value.int IntKind.i64 b_1, Value.int IntKind.i64 b_2, Value.int IntKind.i64 b_3]] w R).den = f63_vc a_0 a_1 a_2 a_3 b_0 b_1 b_2 b_3 w R := by kernel_rfl
theorem f63_calls (a_0 : Int) (a_1 : Int) (a_2 : Int) (a_3 : Int) (b_0 : Int) (b_1 : Int) (b_2 : Int) (b_3 : Int) (w : World) (R : Ending → World → Prop) (h : f63_vc a_0 a_1 a_2 a_3 b_0 b_1 b_2 b_3 w R) : Calls Go.Proofs.Try.prog 63 (List.toArray [Value.agg #[Value.int IntKind.i64 a_0, Value.int IntKind.i64 a_1, Value.int IntKind.i64 a_2, Value.int IntKind.i64 a_3],
 Value.agg #[Value.int IntKind.i64 b_0, Value.int IntKind.i64 b_1, Value.int IntKind.i64 b_2, Value.int IntKind.i64 b_3]]) w R :=
 fn_sound (H := h63) (fn := Go.Proofs.Try.f63) (by kernel_rfl) (by kernel_rfl) (by kernel_rfl) ((f63_eq a_0 a_1 a_2 a_3 b_0 b_1 b_2 b_3 w R).mpr h)


/-! manciple/mancipleref06.Sub -/
def h64 : Hints := ⟨[2, 3, 4, 6], [19, 22, 25], [11], [(7, [0, 1, 2, 3, 4, 5, 6, 7, 8, 9])], [(5, 5)], [], [], [], []⟩
def f64_vc (a_0 : Int) (a_1 : Int) (a_2 : Int) (a_3 : Int) (b_0 : Int) (b_1 : Int) (b_2 : Int) (b_3 : Int) (w : World) (R : Ending → World → Prop) : Prop :=
 ∀ (n1 : Nat),
 w.heap.size ≤ n1 →
 ∀ (n2 : Nat),
 w.heap.size ≤ n2 →
 ∀ (n3 : Nat),
 w.heap.size ≤ n3 →
 ∀ (n4 : Nat),
 w.heap.size ≤ n4 →
 ∀ (w5 : World),
 Bel w w5 →
 Under [n1, n2, n3, n4] w5 →
 Calls Proofs.Try.prog 93
 #[Value.agg #[Value.int IntKind.i64 a_0, Value.int IntKind.i64 a_1, Value.int IntKind.i64 a_2, Value.int IntKind.i64 a_3],
 Value.agg #[Value.int IntKind.i64 b_0, Value.int IntKind.i64 b_1, Value.int IntKind.i64 b_2, Value.int IntKind.i64 b_3]]
 w5 fun (e6 : Ending) (w7 : World) =>
 ∃ (b8 : Bool),
 e6 = Ending.returned (Value.bool b8) ∧
 Keeps [n1, n2, n3, n4] w5 w7 ∧
 ((!b8) = true →
 ∀ (w9 : World),
 Evo [n3] w7 w9 →
 Under [n1, n2, n3, n4] w9 → R (Ending.returned (Value.tuple #[Value.agg #[Value.int IntKind.i64 0, Value.int IntKind.i64 0, Value.int IntKind.i64 0, Value.int IntKind.i64 0], Value.bool false])) w9) ∧
 ((!b8) = false →
 ∀ (w10 : World),
 Evo [n3, n4, n4, n4, n4] w7 w10 →
 Under [n1, n2, n3, n4] w10 →
 R
 (Ending.returned
 (Value.tuple
 #[Value.agg
 #[Value.int IntKind.i64 (IntKind.i64.wrap (a_0 - b_0)), Value.int IntKind.i64 (IntKind.i64.wrap (a_1 - b_1)), Value.int IntKind.i64 (IntKind.i64.wrap (a_2 - b_2)),
 Value.int IntKind.i64 (IntKind.i64.wrap (a_3 - b_3))],
 Value.bool true]))
 w10)
theorem f64_eq (a_0 : Int) (a_1 : Int) (a_2 : Int) (a_3 : Int) (b_0 : Int) (b_1 : Int) (b_2 : Int) (b_3 : Int) (w : World) (R : Ending → World → Prop) : (fnF Go.Proofs.Try.prog h64 Go.Proofs.Try.f64 [Value.agg #[Value.int IntKind.i64 a_0, Value.int IntKind.i64 a_1, Value.int IntKind.i64 a_2, Value.int IntKind.i64 a_3],
 Value.agg #[Value.int IntKind.i64 b_0, Value.int IntKind.i64 b_1, Value.int IntKind.i64 b_2, Value.int IntKind.i64 b_3]] w R).den = f64_vc a_0 a_1 a_2 a_3 b_0 b_1 b_2 b_3 w R := by kernel_rfl
theorem f64_calls (a_0 : Int) (a_1 : Int) (a_2 : Int) (a_3 : Int) (b_0 : Int) (b_1 : Int) (b_2 : Int) (b_3 : Int) (w : World) (R : Ending → World → Prop) (h : f64_vc a_0 a_1 a_2 a_3 b_0 b_1 b_2 b_3 w R) : Calls Go.Proofs.Try.prog 64 (List.toArray [Value.agg #[Value.int IntKind.i64 a_0, Value.int IntKind.i64 a_1, Value.int IntKind.i64 a_2, Value.int IntKind.i64 a_3],
 Value.agg #[Value.int IntKind.i64 b_0, Value.int IntKind.i64 b_1, Value.int IntKind.i64 b_2, Value.int IntKind.i64 b_3]]) w R :=
 fn_sound (H := h64) (fn := Go.Proofs.Try.f64) (by kernel_rfl) (by kernel_rfl) (by kernel_rfl) ((f64_eq a_0 a_1 a_2 a_3 b_0 b_1 b_2 b_3 w R).mpr h)


/-! manciple/mancipleref06.Dominant -/
def h67 : Hints := ⟨[2, 3, 5, 6, 9], [26, 29, 33], [18, 45, 14, 36, 39], [(3, [0, 1, 2, 3]), (7, [0, 1, 2, 3, 4, 5, 6, 7, 8]), (10, [0, 1, 2, 3])], [(5, 5)], [], [(6, ⟨[(7, .int .i64)], [(6, .cons (.int .i64) (.cons (.int .i64) (.nil)))]⟩)], [], []⟩
def f67_vc (a_0 : Int) (a_1 : Int) (a_2 : Int) (a_3 : Int) (total_0 : Int) (total_1 : Int) (total_2 : Int) (total_3 : Int) (w : World) (R : Ending → World → Prop) : Prop :=
 ∀ (n1 : Nat),
 w.heap.size ≤ n1 →
 ∀ (n2 : Nat),
 w.heap.size ≤ n2 →
 ∀ (n3 : Nat),
 w.heap.size ≤ n3 →
 ∀ (n4 : Nat),
 w.heap.size ≤ n4 →
 ∀ (w5 : World),
 Evo [n4] w w5 →
 Under [n1, n2, n3, n4] w5 →
 Calls Proofs.Try.prog 92 #[Value.agg #[Value.int IntKind.i64 a_0, Value.int IntKind.i64 a_1, Value.int IntKind.i64 a_2, Value.int IntKind.i64 a_3]] w5 fun (e6 : Ending) (w7 : World) =>
 ∃ (b8 : Bool),
 e6 = Ending.returned (Value.bool b8) ∧
 Keeps [n1, n2, n3, n4] w5 w7 ∧
 ((!b8) = true → ∀ (w9 : World), Evo [n3] w7 w9 → Under [n1, n2, n3, n4] w9 → R (Ending.returned (Value.tuple #[Value.int IntKind.i64 (-1), Value.agg #[Value.int IntKind.i64 0, Value.int IntKind.i64 1]])) w9) ∧
 ((!b8) = false →
 Calls Proofs.Try.prog 92 #[Value.agg #[Value.int IntKind.i64 total_0, Value.int IntKind.i64 total_1, Value.int IntKind.i64 total_2, Value.int IntKind.i64 total_3]] w7 fun (e10 : Ending) (w11 : World) =>
 ∃ (b12 : Bool),
 e10 = Ending.returned (Value.bool b12) ∧
 Keeps [n1, n2, n3, n4] w7 w11 ∧
 ((!b12) = true →
 ∀ (w13 : World),
 Evo [n3] w11 w13 → Under [n1, n2, n3, n4] w13 → R (Ending.returned (Value.tuple #[Value.int IntKind.i64 (-1), Value.agg #[Value.int IntKind.i64 0, Value.int IntKind.i64 1]])) w13) ∧
 ((!b12) = false →
 ∃ (J14 : Int × Int × Int × Unit → World → Prop),
 (∀ (n15 : Nat),
 w11.heap.size ≤ n15 →
 (decide (total_0 > 0) = true →
 (true = true → ∀ (w16 : World), Evo [n4, n15] w11 w16 → Under [n1, n2, n3, n4, n15] w16 → J14 (0, a_0, total_0, ()) w16) ∧
 (true = false →
 ∀ (w17 : World),
 Evo [n15] w11 w17 →
 Under [n1, n2, n3, n4, n15] w17 →
 Calls Proofs.Try.prog 96 #[Value.agg #[Value.int IntKind.i64 a_0, Value.int IntKind.i64 total_0], Value.agg #[Value.int IntKind.i64 0, Value.int IntKind.i64 1]] w17
 fun (e18 : Ending) (w19 : World) =>
 ∃ (x20 : Int),
 e18 = Ending.returned (Value.int IntKind.i64 x20) ∧
 Keeps [n1, n2, n3, n4, n15] w17 w19 ∧
 (decide (x20 > 0) = true → ∀ (w21 : World), Evo [n4] w19 w21 → Under [n1, n2, n3, n4, n15] w21 → J14 (0, a_0, total_0, ()) w21) ∧
 (decide (x20 > 0) = false → J14 (-1, 0, 1, ()) w19))) ∧
 (decide (total_0 > 0) = false → ∀ (w22 : World), Evo [n15] w11 w22 → Under [n1, n2, n3, n4, n15] w22 → J14 (-1, 0, 1, ()) w22)) ∧
 ∀ (x23 x24 x25 : Int) (w26 : World),
 J14 (x23, x24, x25, ()) w26 →
 ∃ (J27 : Int × Int × Int × Unit → World → Prop),
 (∀ (n28 : Nat),
 w26.heap.size ≤ n28 →
 (decide (total_1 > 0) = true →
 (decide (x23 < 0) = true → ∀ (w29 : World), Evo [n4, n28] w26 w29 → Under [n1, n2, n3, n4, n28] w29 → J27 (1, a_1, total_1, ()) w29) ∧
 (decide (x23 < 0) = false →
 ∀ (w30 : World),
 Evo [n28] w26 w30 →
 Under [n1, n2, n3, n4, n28] w30 →
 Calls Proofs.Try.prog 96 #[Value.agg #[Value.int IntKind.i64 a_1, Value.int IntKind.i64 total_1], Value.agg #[Value.int IntKind.i64 x24, Value.int IntKind.i64 x25]]
 w30 fun (e31 : Ending) (w32 : World) =>
 ∃ (x33 : Int),
 e31 = Ending.returned (Value.int IntKind.i64 x33) ∧
 Keeps [n1, n2, n3, n4, n28] w30 w32 ∧
 (decide (x33 > 0) = true → ∀ (w34 : World), Evo [n4] w32 w34 → Under [n1, n2, n3, n4, n28] w34 → J27 (1, a_1, total_1, ()) w34) ∧
 (decide (x33 > 0) = false → J27 (x23, x24, x25, ()) w32))) ∧
 (decide (total_1 > 0) = false → ∀ (w35 : World), Evo [n28] w26 w35 → Under [n1, n2, n3, n4, n28] w35 → J27 (x23, x24, x25, ()) w35)) ∧
 ∀ (x36 x37 x38 : Int) (w39 : World),
 J27 (x36, x37, x38, ()) w39 →
 ∃ (J40 : Int × Int × Int × Unit → World → Prop),
 (∀ (n41 : Nat),
 w39.heap.size ≤ n41 →
 (decide (total_2 > 0) = true →
 (decide (x36 < 0) = true → ∀ (w42 : World), Evo [n4, n41] w39 w42 → Under [n1, n2, n3, n4, n41] w42 → J40 (2, a_2, total_2, ()) w42) ∧
 (decide (x36 < 0) = false →
 ∀ (w43 : World),
 Evo [n41] w39 w43 →
 Under [n1, n2, n3, n4, n41] w43 →
 Calls Proofs.Try.prog 96
 #[Value.agg #[Value.int IntKind.i64 a_2, Value.int IntKind.i64 total_2], Value.agg #[Value.int IntKind.i64 x37, Value.int IntKind.i64 x38]] w43
 fun (e44 : Ending) (w45 : World) =>
 ∃ (x46 : Int),
 e44 = Ending.returned (Value.int IntKind.i64 x46) ∧
 Keeps [n1, n2, n3, n4, n41] w43 w45 ∧
 (decide (x46 > 0) = true → ∀ (w47 : World), Evo [n4] w45 w47 → Under [n1, n2, n3, n4, n41] w47 → J40 (2, a_2, total_2, ()) w47) ∧
 (decide (x46 > 0) = false → J40 (x36, x37, x38, ()) w45))) ∧
 (decide (total_2 > 0) = false → ∀ (w48 : World), Evo [n41] w39 w48 → Under [n1, n2, n3, n4, n41] w48 → J40 (x36, x37, x38, ()) w48)) ∧
 ∀ (x49 x50 x51 : Int) (w52 : World),
 J40 (x49, x50, x51, ()) w52 →
 ∃ (J53 : Int × Int × Int × Unit → World → Prop),
 (∀ (n54 : Nat),
 w52.heap.size ≤ n54 →
 (decide (total_3 > 0) = true →
 (decide (x49 < 0) = true → ∀ (w55 : World), Evo [n4, n54] w52 w55 → Under [n1, n2, n3, n4, n54] w55 → J53 (3, a_3, total_3, ()) w55) ∧
 (decide (x49 < 0) = false →
 ∀ (w56 : World),
 Evo [n54] w52 w56 →
 Under [n1, n2, n3, n4, n54] w56 →
 Calls Proofs.Try.prog 96
 #[Value.agg #[Value.int IntKind.i64 a_3, Value.int IntKind.i64 total_3], Value.agg #[Value.int IntKind.i64 x50, Value.int IntKind.i64 x51]] w56
 fun (e57 : Ending) (w58 : World) =>
 ∃ (x59 : Int),
 e57 = Ending.returned (Value.int IntKind.i64 x59) ∧
 Keeps [n1, n2, n3, n4, n54] w56 w58 ∧
 (decide (x59 > 0) = true → ∀ (w60 : World), Evo [n4] w58 w60 → Under [n1, n2, n3, n4, n54] w60 → J53 (3, a_3, total_3, ()) w60) ∧
 (decide (x59 > 0) = false → J53 (x49, x50, x51, ()) w58))) ∧
 (decide (total_3 > 0) = false → ∀ (w61 : World), Evo [n54] w52 w61 → Under [n1, n2, n3, n4, n54] w61 → J53 (x49, x50, x51, ()) w61)) ∧
 ∀ (x62 x63 x64 : Int) (w65 : World),
 J53 (x62, x63, x64, ()) w65 →
 ∀ (w66 : World),
 Evo [n3] w65 w66 →
 Under [n1, n2, n3, n4] w66 →
 R (Ending.returned (Value.tuple #[Value.int IntKind.i64 x62, Value.agg #[Value.int IntKind.i64 x63, Value.int IntKind.i64 x64]])) w66))
theorem f67_eq (a_0 : Int) (a_1 : Int) (a_2 : Int) (a_3 : Int) (total_0 : Int) (total_1 : Int) (total_2 : Int) (total_3 : Int) (w : World) (R : Ending → World → Prop) : (fnF Go.Proofs.Try.prog h67 Go.Proofs.Try.f67 [Value.agg #[Value.int IntKind.i64 a_0, Value.int IntKind.i64 a_1, Value.int IntKind.i64 a_2, Value.int IntKind.i64 a_3],
 Value.agg #[Value.int IntKind.i64 total_0, Value.int IntKind.i64 total_1, Value.int IntKind.i64 total_2, Value.int IntKind.i64 total_3]] w R).den = f67_vc a_0 a_1 a_2 a_3 total_0 total_1 total_2 total_3 w R := by kernel_rfl
theorem f67_calls (a_0 : Int) (a_1 : Int) (a_2 : Int) (a_3 : Int) (total_0 : Int) (total_1 : Int) (total_2 : Int) (total_3 : Int) (w : World) (R : Ending → World → Prop) (h : f67_vc a_0 a_1 a_2 a_3 total_0 total_1 total_2 total_3 w R) : Calls Go.Proofs.Try.prog 67 (List.toArray [Value.agg #[Value.int IntKind.i64 a_0, Value.int IntKind.i64 a_1, Value.int IntKind.i64 a_2, Value.int IntKind.i64 a_3],
 Value.agg #[Value.int IntKind.i64 total_0, Value.int IntKind.i64 total_1, Value.int IntKind.i64 total_2, Value.int IntKind.i64 total_3]]) w R :=
 fn_sound (H := h67) (fn := Go.Proofs.Try.f67) (by kernel_rfl) (by kernel_rfl) (by kernel_rfl) ((f67_eq a_0 a_1 a_2 a_3 total_0 total_1 total_2 total_3 w R).mpr h)


/-! manciple/mancipleref06.Right -/
def h92 : Hints := ⟨[1], [9, 14], [17, 12], [], [(2, 5)], [], [], [], []⟩
def f92_vc (a_0 : Int) (a_1 : Int) (a_2 : Int) (a_3 : Int) (w : World) (R : Ending → World → Prop) : Prop :=
 ∀ (n1 : Nat),
 w.heap.size ≤ n1 →
 (decide (a_0 < 0) = true → ∀ (w2 : World), Bel w w2 → Under [n1] w2 → R (Ending.returned (Value.bool false)) w2) ∧
 (decide (a_0 < 0) = false →
 (decide (a_0 > 1152921504606846976) = true → ∀ (w3 : World), Bel w w3 → Under [n1] w3 → R (Ending.returned (Value.bool false)) w3) ∧
 (decide (a_0 > 1152921504606846976) = false →
 (decide (a_1 < 0) = true → ∀ (w4 : World), Bel w w4 → Under [n1] w4 → R (Ending.returned (Value.bool false)) w4) ∧
 (decide (a_1 < 0) = false →
 (decide (a_1 > 1152921504606846976) = true → ∀ (w5 : World), Bel w w5 → Under [n1] w5 → R (Ending.returned (Value.bool false)) w5) ∧
 (decide (a_1 > 1152921504606846976) = false →
 (decide (a_2 < 0) = true → ∀ (w6 : World), Bel w w6 → Under [n1] w6 → R (Ending.returned (Value.bool false)) w6) ∧
 (decide (a_2 < 0) = false →
 (decide (a_2 > 1152921504606846976) = true → ∀ (w7 : World), Bel w w7 → Under [n1] w7 → R (Ending.returned (Value.bool false)) w7) ∧
 (decide (a_2 > 1152921504606846976) = false →
 (decide (a_3 < 0) = true → ∀ (w8 : World), Bel w w8 → Under [n1] w8 → R (Ending.returned (Value.bool false)) w8) ∧
 (decide (a_3 < 0) = false →
 (decide (a_3 > 1152921504606846976) = true → ∀ (w9 : World), Bel w w9 → Under [n1] w9 → R (Ending.returned (Value.bool false)) w9) ∧
 (decide (a_3 > 1152921504606846976) = false → ∀ (w10 : World), Bel w w10 → Under [n1] w10 → R (Ending.returned (Value.bool true)) w10))))))))
theorem f92_eq (a_0 : Int) (a_1 : Int) (a_2 : Int) (a_3 : Int) (w : World) (R : Ending → World → Prop) : (fnF Go.Proofs.Try.prog h92 Go.Proofs.Try.f92 [Value.agg #[Value.int IntKind.i64 a_0, Value.int IntKind.i64 a_1, Value.int IntKind.i64 a_2, Value.int IntKind.i64 a_3]] w R).den = f92_vc a_0 a_1 a_2 a_3 w R := by kernel_rfl
theorem f92_calls (a_0 : Int) (a_1 : Int) (a_2 : Int) (a_3 : Int) (w : World) (R : Ending → World → Prop) (h : f92_vc a_0 a_1 a_2 a_3 w R) : Calls Go.Proofs.Try.prog 92 (List.toArray [Value.agg #[Value.int IntKind.i64 a_0, Value.int IntKind.i64 a_1, Value.int IntKind.i64 a_2, Value.int IntKind.i64 a_3]]) w R :=
 fn_sound (H := h92) (fn := Go.Proofs.Try.f92) (by kernel_rfl) (by kernel_rfl) (by kernel_rfl) ((f92_eq a_0 a_1 a_2 a_3 w R).mpr h)


/-! manciple/mancipleref06.Holds -/
def h93 : Hints := ⟨[2, 3], [11, 14], [16, 19], [(4, [0, 1, 2, 3, 4, 5, 6])], [(2, 5)], [], [], [], []⟩
def f93_vc (a_0 : Int) (a_1 : Int) (a_2 : Int) (a_3 : Int) (b_0 : Int) (b_1 : Int) (b_2 : Int) (b_3 : Int) (w : World) (R : Ending → World → Prop) : Prop :=
 ∀ (n1 : Nat),
 w.heap.size ≤ n1 →
 ∀ (n2 : Nat),
 w.heap.size ≤ n2 →
 (decide (a_0 < b_0) = true → ∀ (w3 : World), Bel w w3 → Under [n1, n2] w3 → R (Ending.returned (Value.bool false)) w3) ∧
 (decide (a_0 < b_0) = false →
 (decide (a_1 < b_1) = true → ∀ (w4 : World), Bel w w4 → Under [n1, n2] w4 → R (Ending.returned (Value.bool false)) w4) ∧
 (decide (a_1 < b_1) = false →
 (decide (a_2 < b_2) = true → ∀ (w5 : World), Bel w w5 → Under [n1, n2] w5 → R (Ending.returned (Value.bool false)) w5) ∧
 (decide (a_2 < b_2) = false →
 (decide (a_3 < b_3) = true → ∀ (w6 : World), Bel w w6 → Under [n1, n2] w6 → R (Ending.returned (Value.bool false)) w6) ∧
 (decide (a_3 < b_3) = false →
 ∀ (w7 : World),
 Bel w w7 →
 Under [n1, n2] w7 →
 Calls Proofs.Try.prog 92 #[Value.agg #[Value.int IntKind.i64 a_0, Value.int IntKind.i64 a_1, Value.int IntKind.i64 a_2, Value.int IntKind.i64 a_3]] w7 fun (e8 : Ending) (w9 : World) =>
 ∃ (b10 : Bool),
 e8 = Ending.returned (Value.bool b10) ∧
 Keeps [n1, n2] w7 w9 ∧
 (b10 = true →
 Calls Proofs.Try.prog 92 #[Value.agg #[Value.int IntKind.i64 b_0, Value.int IntKind.i64 b_1, Value.int IntKind.i64 b_2, Value.int IntKind.i64 b_3]] w9 fun (e11 : Ending) (w12 : World) =>
 ∃ (b13 : Bool), e11 = Ending.returned (Value.bool b13) ∧ Keeps [n1, n2] w9 w12 ∧ R (Ending.returned (Value.bool b13)) w12) ∧
 (b10 = false → R (Ending.returned (Value.bool false)) w9)))))
theorem f93_eq (a_0 : Int) (a_1 : Int) (a_2 : Int) (a_3 : Int) (b_0 : Int) (b_1 : Int) (b_2 : Int) (b_3 : Int) (w : World) (R : Ending → World → Prop) : (fnF Go.Proofs.Try.prog h93 Go.Proofs.Try.f93 [Value.agg #[Value.int IntKind.i64 a_0, Value.int IntKind.i64 a_1, Value.int IntKind.i64 a_2, Value.int IntKind.i64 a_3],
 Value.agg #[Value.int IntKind.i64 b_0, Value.int IntKind.i64 b_1, Value.int IntKind.i64 b_2, Value.int IntKind.i64 b_3]] w R).den = f93_vc a_0 a_1 a_2 a_3 b_0 b_1 b_2 b_3 w R := by kernel_rfl
theorem f93_calls (a_0 : Int) (a_1 : Int) (a_2 : Int) (a_3 : Int) (b_0 : Int) (b_1 : Int) (b_2 : Int) (b_3 : Int) (w : World) (R : Ending → World → Prop) (h : f93_vc a_0 a_1 a_2 a_3 b_0 b_1 b_2 b_3 w R) : Calls Go.Proofs.Try.prog 93 (List.toArray [Value.agg #[Value.int IntKind.i64 a_0, Value.int IntKind.i64 a_1, Value.int IntKind.i64 a_2, Value.int IntKind.i64 a_3],
 Value.agg #[Value.int IntKind.i64 b_0, Value.int IntKind.i64 b_1, Value.int IntKind.i64 b_2, Value.int IntKind.i64 b_3]]) w R :=
 fn_sound (H := h93) (fn := Go.Proofs.Try.f93) (by kernel_rfl) (by kernel_rfl) (by kernel_rfl) ((f93_eq a_0 a_1 a_2 a_3 b_0 b_1 b_2 b_3 w R).mpr h)


/-! manciple/mancipleref07.Cmp -/
def h94 : Hints := ⟨[4, 6], [], [20, 35, 38, 15], [(3, [0, 1, 2, 3, 4, 6, 7, 8, 9, 10, 5, 11, 12, 13])], [], [], [], [], []⟩
def f94_vc (a_0 : Int) (a_1 : Int) (w' : Int) (b_0 : Int) (b_1 : Int) (u : Int) (w : World) (R : Ending → World → Prop) : Prop :=
 ∀ (n1 : Nat),
 w.heap.size ≤ n1 →
 ∀ (n2 : Nat),
 w.heap.size ≤ n2 →
 ∀ (w3 : World),
 Bel w w3 →
 Under [n1, n2] w3 →
 Calls Proofs.Try.prog 103 #[Value.agg #[Value.int IntKind.i64 a_0, Value.int IntKind.i64 a_1], Value.int IntKind.i64 w'] w3 fun (e4 : Ending) (w5 : World) =>
 ∃ (b6 : Bool),
 e4 = Ending.returned (Value.bool b6) ∧
 Keeps [n1, n2] w3 w5 ∧
 ((!b6) = true → R (Ending.returned (Value.int IntKind.i64 0)) w5) ∧
 ((!b6) = false →
 Calls Proofs.Try.prog 103 #[Value.agg #[Value.int IntKind.i64 b_0, Value.int IntKind.i64 b_1], Value.int IntKind.i64 u] w5 fun (e7 : Ending) (w8 : World) =>
 ∃ (b9 : Bool),
 e7 = Ending.returned (Value.bool b9) ∧
 Keeps [n1, n2] w5 w8 ∧
 ((!b9) = true → R (Ending.returned (Value.int IntKind.i64 0)) w8) ∧
 ((!b9) = false →
 ∀ (w10 : World),
 Bel w8 w10 →
 Under [n1, n2] w10 →
 Calls Proofs.Try.prog 104 #[Value.int IntKind.i64 a_0, Value.int IntKind.i64 b_1, Value.int IntKind.i64 u] w10 fun (e11 : Ending) (w12 : World) =>
 ∃ (a13 : Option Addr),
 ∃ (n14 : Nat),
 ∃ (n15 : Nat),
 e11 = Ending.returned (Value.slice a13 n14 n15) ∧
 Keeps [n1, n2] w10 w12 ∧
 Calls Proofs.Try.prog 104 #[Value.int IntKind.i64 b_0, Value.int IntKind.i64 a_1, Value.int IntKind.i64 w'] w12 fun (e16 : Ending) (w17 : World) =>
 ∃ (a18 : Option Addr),
 ∃ (n19 : Nat),
 ∃ (n20 : Nat),
 e16 = Ending.returned (Value.slice a18 n19 n20) ∧
 Keeps [n1, n2] w12 w17 ∧
 Calls Proofs.Try.prog 105 #[Value.slice a13 n14 n15, Value.slice a18 n19 n20] w17 fun (e21 : Ending) (w22 : World) =>
 ∃ (b23 : Bool),
 e21 = Ending.returned (Value.bool b23) ∧
 Keeps [n1, n2] w17 w22 ∧
 (b23 = true → R (Ending.returned (Value.int IntKind.i64 (-1))) w22) ∧
 (b23 = false →
 Calls Proofs.Try.prog 105 #[Value.slice a18 n19 n20, Value.slice a13 n14 n15] w22 fun (e24 : Ending) (w25 : World) =>
 ∃ (b26 : Bool),
 e24 = Ending.returned (Value.bool b26) ∧
 Keeps [n1, n2] w22 w25 ∧
 (b26 = true → R (Ending.returned (Value.int IntKind.i64 1)) w25) ∧ (b26 = false → R (Ending.returned (Value.int IntKind.i64 0)) w25))))
theorem f94_eq (a_0 : Int) (a_1 : Int) (w' : Int) (b_0 : Int) (b_1 : Int) (u : Int) (w : World) (R : Ending → World → Prop) : (fnF Go.Proofs.Try.prog h94 Go.Proofs.Try.f94 [Value.agg #[Value.int IntKind.i64 a_0, Value.int IntKind.i64 a_1], Value.int IntKind.i64 w', Value.agg #[Value.int IntKind.i64 b_0, Value.int IntKind.i64 b_1], Value.int IntKind.i64 u] w R).den = f94_vc a_0 a_1 w' b_0 b_1 u w R := by kernel_rfl
theorem f94_calls (a_0 : Int) (a_1 : Int) (w' : Int) (b_0 : Int) (b_1 : Int) (u : Int) (w : World) (R : Ending → World → Prop) (h : f94_vc a_0 a_1 w' b_0 b_1 u w R) : Calls Go.Proofs.Try.prog 94 (List.toArray [Value.agg #[Value.int IntKind.i64 a_0, Value.int IntKind.i64 a_1], Value.int IntKind.i64 w', Value.agg #[Value.int IntKind.i64 b_0, Value.int IntKind.i64 b_1], Value.int IntKind.i64 u]) w R :=
 fn_sound (H := h94) (fn := Go.Proofs.Try.f94) (by kernel_rfl) (by kernel_rfl) (by kernel_rfl) ((f94_eq a_0 a_1 w' b_0 b_1 u w R).mpr h)


/-! manciple/mancipleref02.Cmp -/
def h96 : Hints := ⟨[2, 3], [], [14, 35, 38, 10], [(3, [0, 1, 2, 4, 5, 6, 3, 7, 8, 9]), (4, [0, 1, 2, 4, 5, 6, 3, 7, 8, 9])], [], [], [], [], []⟩
def f96_vc (a_0 : Int) (a_1 : Int) (b_0 : Int) (b_1 : Int) (w : World) (R : Ending → World → Prop) : Prop :=
 ∀ (n1 : Nat),
 w.heap.size ≤ n1 →
 ∀ (n2 : Nat),
 w.heap.size ≤ n2 →
 ∀ (w3 : World),
 Bel w w3 →
 Under [n1, n2] w3 →
 Calls Proofs.Try.prog 107 #[Value.agg #[Value.int IntKind.i64 a_0, Value.int IntKind.i64 a_1]] w3 fun (e4 : Ending) (w5 : World) =>
 ∃ (b6 : Bool),
 e4 = Ending.returned (Value.bool b6) ∧
 Keeps [n1, n2] w3 w5 ∧
 ((!b6) = true → R (Ending.returned (Value.int IntKind.i64 0)) w5) ∧
 ((!b6) = false →
 Calls Proofs.Try.prog 107 #[Value.agg #[Value.int IntKind.i64 b_0, Value.int IntKind.i64 b_1]] w5 fun (e7 : Ending) (w8 : World) =>
 ∃ (b9 : Bool),
 e7 = Ending.returned (Value.bool b9) ∧
 Keeps [n1, n2] w5 w8 ∧
 ((!b9) = true → R (Ending.returned (Value.int IntKind.i64 0)) w8) ∧
 ((!b9) = false →
 ∀ (w10 : World),
 Bel w8 w10 →
 Under [n1, n2] w10 →
 Calls Proofs.Try.prog 109 #[Value.int IntKind.u64 0, Value.int IntKind.u64 (IntKind.u64.wrap a_0)] w10 fun (e11 : Ending) (w12 : World) =>
 ∃ (a13 : Option Addr),
 ∃ (n14 : Nat),
 ∃ (n15 : Nat),
 e11 = Ending.returned (Value.slice a13 n14 n15) ∧
 Keeps [n1, n2] w10 w12 ∧
 Calls Proofs.Try.prog 109 #[Value.int IntKind.u64 0, Value.int IntKind.u64 (IntKind.u64.wrap b_1)] w12 fun (e16 : Ending) (w17 : World) =>
 ∃ (a18 : Option Addr),
 ∃ (n19 : Nat),
 ∃ (n20 : Nat),
 e16 = Ending.returned (Value.slice a18 n19 n20) ∧
 Keeps [n1, n2] w12 w17 ∧
 Calls Proofs.Try.prog 108 #[Value.slice a13 n14 n15, Value.slice a18 n19 n20] w17 fun (e21 : Ending) (w22 : World) =>
 ∃ (a23 : Option Addr),
 ∃ (n24 : Nat),
 ∃ (n25 : Nat),
 e21 = Ending.returned (Value.slice a23 n24 n25) ∧
 Keeps [n1, n2] w17 w22 ∧
 ∀ (w26 : World),
 Bel w22 w26 →
 Under [n1, n2] w26 →
 Calls Proofs.Try.prog 109 #[Value.int IntKind.u64 0, Value.int IntKind.u64 (IntKind.u64.wrap b_0)] w26 fun (e27 : Ending) (w28 : World) =>
 ∃ (a29 : Option Addr),
 ∃ (n30 : Nat),
 ∃ (n31 : Nat),
 e27 = Ending.returned (Value.slice a29 n30 n31) ∧
 Keeps [n1, n2] w26 w28 ∧
 Calls Proofs.Try.prog 109 #[Value.int IntKind.u64 0, Value.int IntKind.u64 (IntKind.u64.wrap a_1)] w28 fun (e32 : Ending) (w33 : World) =>
 ∃ (a34 : Option Addr),
 ∃ (n35 : Nat),
 ∃ (n36 : Nat),
 e32 = Ending.returned (Value.slice a34 n35 n36) ∧
 Keeps [n1, n2] w28 w33 ∧
 Calls Proofs.Try.prog 108 #[Value.slice a29 n30 n31, Value.slice a34 n35 n36] w33 fun (e37 : Ending) (w38 : World) =>
 ∃ (a39 : Option Addr),
 ∃ (n40 : Nat),
 ∃ (n41 : Nat),
 e37 = Ending.returned (Value.slice a39 n40 n41) ∧
 Keeps [n1, n2] w33 w38 ∧
 Calls Proofs.Try.prog 105 #[Value.slice a23 n24 n25, Value.slice a39 n40 n41] w38 fun (e42 : Ending) (w43 : World) =>
 ∃ (b44 : Bool),
 e42 = Ending.returned (Value.bool b44) ∧
 Keeps [n1, n2] w38 w43 ∧
 (b44 = true → R (Ending.returned (Value.int IntKind.i64 (-1))) w43) ∧
 (b44 = false →
 Calls Proofs.Try.prog 105 #[Value.slice a39 n40 n41, Value.slice a23 n24 n25] w43
 fun (e45 : Ending) (w46 : World) =>
 ∃ (b47 : Bool),
 e45 = Ending.returned (Value.bool b47) ∧
 Keeps [n1, n2] w43 w46 ∧
 (b47 = true → R (Ending.returned (Value.int IntKind.i64 1)) w46) ∧
 (b47 = false → R (Ending.returned (Value.int IntKind.i64 0)) w46))))
theorem f96_eq (a_0 : Int) (a_1 : Int) (b_0 : Int) (b_1 : Int) (w : World) (R : Ending → World → Prop) : (fnF Go.Proofs.Try.prog h96 Go.Proofs.Try.f96 [Value.agg #[Value.int IntKind.i64 a_0, Value.int IntKind.i64 a_1], Value.agg #[Value.int IntKind.i64 b_0, Value.int IntKind.i64 b_1]] w R).den = f96_vc a_0 a_1 b_0 b_1 w R := by kernel_rfl
theorem f96_calls (a_0 : Int) (a_1 : Int) (b_0 : Int) (b_1 : Int) (w : World) (R : Ending → World → Prop) (h : f96_vc a_0 a_1 b_0 b_1 w R) : Calls Go.Proofs.Try.prog 96 (List.toArray [Value.agg #[Value.int IntKind.i64 a_0, Value.int IntKind.i64 a_1], Value.agg #[Value.int IntKind.i64 b_0, Value.int IntKind.i64 b_1]]) w R :=
 fn_sound (H := h96) (fn := Go.Proofs.Try.f96) (by kernel_rfl) (by kernel_rfl) (by kernel_rfl) ((f96_eq a_0 a_1 b_0 b_1 w R).mpr h)


/-! manciple/mancipleref07.Right -/
def h103 : Hints := ⟨[2], [], [7, 12, 17, 21], [], [], [], [], [], []⟩
def f103_vc (f_0 : Int) (f_1 : Int) (w' : Int) (w : World) (R : Ending → World → Prop) : Prop :=
 ∀ (n1 : Nat),
 w.heap.size ≤ n1 →
 ∀ (w2 : World),
 Bel w w2 →
 Under [n1] w2 →
 Calls Proofs.Try.prog 107 #[Value.agg #[Value.int IntKind.i64 f_0, Value.int IntKind.i64 f_1]] w2 fun (e3 : Ending) (w4 : World) =>
 ∃ (b5 : Bool),
 e3 = Ending.returned (Value.bool b5) ∧
 Keeps [n1] w2 w4 ∧
 (b5 = true →
 (decide (f_0 ≤ 9007199254740992) = true →
 (decide (f_1 ≤ 9007199254740992) = true → (decide (w' ≥ 1) = true → R (Ending.returned (Value.bool (decide (w' ≤ 1000)))) w4) ∧ (decide (w' ≥ 1) = false → R (Ending.returned (Value.bool false)) w4)) ∧
 (decide (f_1 ≤ 9007199254740992) = false → R (Ending.returned (Value.bool false)) w4)) ∧
 (decide (f_0 ≤ 9007199254740992) = false → R (Ending.returned (Value.bool false)) w4)) ∧
 (b5 = false → R (Ending.returned (Value.bool false)) w4)
theorem f103_eq (f_0 : Int) (f_1 : Int) (w' : Int) (w : World) (R : Ending → World → Prop) : (fnF Go.Proofs.Try.prog h103 Go.Proofs.Try.f103 [Value.agg #[Value.int IntKind.i64 f_0, Value.int IntKind.i64 f_1], Value.int IntKind.i64 w'] w R).den = f103_vc f_0 f_1 w' w R := by kernel_rfl
theorem f103_calls (f_0 : Int) (f_1 : Int) (w' : Int) (w : World) (R : Ending → World → Prop) (h : f103_vc f_0 f_1 w' w R) : Calls Go.Proofs.Try.prog 103 (List.toArray [Value.agg #[Value.int IntKind.i64 f_0, Value.int IntKind.i64 f_1], Value.int IntKind.i64 w']) w R :=
 fn_sound (H := h103) (fn := Go.Proofs.Try.f103) (by kernel_rfl) (by kernel_rfl) (by kernel_rfl) ((f103_eq f_0 f_1 w' w R).mpr h)


/-! manciple/mancipleref07.side -/
def h104 : Hints := ⟨[], [], [], [], [], [], [], [], []⟩
def f104_vc (a : Int) (b : Int) (c : Int) (w : World) (R : Ending → World → Prop) : Prop :=
 Calls Proofs.Try.prog 109 #[Value.int IntKind.u64 0, Value.int IntKind.u64 (IntKind.u64.wrap a)] w fun (e1 : Ending) (w2 : World) =>
 ∃ (a3 : Option Addr),
 ∃ (n4 : Nat),
 ∃ (n5 : Nat),
 e1 = Ending.returned (Value.slice a3 n4 n5) ∧
 Calls Proofs.Try.prog 109 #[Value.int IntKind.u64 0, Value.int IntKind.u64 (IntKind.u64.wrap b)] w2 fun (e6 : Ending) (w7 : World) =>
 ∃ (a8 : Option Addr),
 ∃ (n9 : Nat),
 ∃ (n10 : Nat),
 e6 = Ending.returned (Value.slice a8 n9 n10) ∧
 Calls Proofs.Try.prog 108 #[Value.slice a3 n4 n5, Value.slice a8 n9 n10] w7 fun (e11 : Ending) (w12 : World) =>
 ∃ (a13 : Option Addr),
 ∃ (n14 : Nat),
 ∃ (n15 : Nat),
 e11 = Ending.returned (Value.slice a13 n14 n15) ∧
 Calls Proofs.Try.prog 109 #[Value.int IntKind.u64 0, Value.int IntKind.u64 (IntKind.u64.wrap c)] w12 fun (e16 : Ending) (w17 : World) =>
 ∃ (a18 : Option Addr),
 ∃ (n19 : Nat),
 ∃ (n20 : Nat),
 e16 = Ending.returned (Value.slice a18 n19 n20) ∧
 Calls Proofs.Try.prog 108 #[Value.slice a13 n14 n15, Value.slice a18 n19 n20] w17 fun (e21 : Ending) (w22 : World) =>
 ∃ (a23 : Option Addr), ∃ (n24 : Nat), ∃ (n25 : Nat), e21 = Ending.returned (Value.slice a23 n24 n25) ∧ R (Ending.returned (Value.slice a23 n24 n25)) w22
theorem f104_eq (a : Int) (b : Int) (c : Int) (w : World) (R : Ending → World → Prop) : (fnF Go.Proofs.Try.prog h104 Go.Proofs.Try.f104 [Value.int IntKind.i64 a, Value.int IntKind.i64 b, Value.int IntKind.i64 c] w R).den = f104_vc a b c w R := by kernel_rfl
theorem f104_calls (a : Int) (b : Int) (c : Int) (w : World) (R : Ending → World → Prop) (h : f104_vc a b c w R) : Calls Go.Proofs.Try.prog 104 (List.toArray [Value.int IntKind.i64 a, Value.int IntKind.i64 b, Value.int IntKind.i64 c]) w R :=
 fn_sound (H := h104) (fn := Go.Proofs.Try.f104) (by kernel_rfl) (by kernel_rfl) (by kernel_rfl) ((f104_eq a b c w R).mpr h)


/-! manciple/mancipleref01.Less -/
def h105 : Hints := ⟨[], [15, 19, 24, 28], [10, 21], [(4, [0, 1, 2, 3, 4, 5, 6, 7, 8]), (5, [0, 1, 2, 3, 4, 5, 6, 7, 8, 9])], [], [(2, ⟨[(5, .int .i64)], []⟩)], [], [], []⟩
def f105_vc (aa : Option Addr) (an : Nat) (ac : Nat) (ba : Option Addr) (bn : Nat) (bc : Nat) (w : World) (R : Ending → World → Prop) : Prop :=
 ∃ (J1 : Int × Unit → World → Prop),
 ∃ (J2 : Int × Unit → World → Nat),
 J1 (IntKind.i64.wrap ((↑an : Int) - 1), ()) w ∧
 ∀ (x3 : Int) (w4 : World),
 J1 (x3, ()) w4 →
 (decide (x3 ≥ 0) = true →
 ∃ (ad5 : Addr),
 Gives Proofs.Try.prog (Instr.indexAt 169 (Value.slice aa an ac) (Value.int IntKind.i64 x3)) (Value.pointer (some ad5)) ∧
 ∃ (x6 : Int),
 Reads Proofs.Try.prog [] (Instr.loadAt 3 (Value.pointer (some ad5))) w4 (Value.int IntKind.i64 x6) ∧
 ∃ (ad7 : Addr),
 Gives Proofs.Try.prog (Instr.indexAt 169 (Value.slice ba bn bc) (Value.int IntKind.i64 x3)) (Value.pointer (some ad7)) ∧
 ∃ (x8 : Int),
 Reads Proofs.Try.prog [] (Instr.loadAt 3 (Value.pointer (some ad7))) w4 (Value.int IntKind.i64 x8) ∧
 ((x6 != x8) = true →
 ∃ (ad9 : Addr),
 Gives Proofs.Try.prog (Instr.indexAt 169 (Value.slice aa an ac) (Value.int IntKind.i64 x3)) (Value.pointer (some ad9)) ∧
 ∃ (x10 : Int),
 Reads Proofs.Try.prog [] (Instr.loadAt 3 (Value.pointer (some ad9))) w4 (Value.int IntKind.i64 x10) ∧
 ∃ (ad11 : Addr),
 Gives Proofs.Try.prog (Instr.indexAt 169 (Value.slice ba bn bc) (Value.int IntKind.i64 x3)) (Value.pointer (some ad11)) ∧
 ∃ (x12 : Int),
 Reads Proofs.Try.prog [] (Instr.loadAt 3 (Value.pointer (some ad11))) w4 (Value.int IntKind.i64 x12) ∧
 ∀ (w13 : World), Bel w4 w13 → R (Ending.returned (Value.bool (decide (x10 < x12)))) w13) ∧
 ((x6 != x8) = false → ∀ (w14 : World), Bel w4 w14 → J1 (IntKind.i64.wrap (x3 - 1), ()) w14 ∧ J2 (IntKind.i64.wrap (x3 - 1), ()) w14 < J2 (x3, ()) w4)) ∧
 (decide (x3 ≥ 0) = false → R (Ending.returned (Value.bool false)) w4)
theorem f105_eq (aa : Option Addr) (an : Nat) (ac : Nat) (ba : Option Addr) (bn : Nat) (bc : Nat) (w : World) (R : Ending → World → Prop) : (fnF Go.Proofs.Try.prog h105 Go.Proofs.Try.f105 [Value.slice aa an ac, Value.slice ba bn bc] w R).den = f105_vc aa an ac ba bn bc w R := by kernel_rfl
theorem f105_calls (aa : Option Addr) (an : Nat) (ac : Nat) (ba : Option Addr) (bn : Nat) (bc : Nat) (w : World) (R : Ending → World → Prop) (h : f105_vc aa an ac ba bn bc w R) : Calls Go.Proofs.Try.prog 105 (List.toArray [Value.slice aa an ac, Value.slice ba bn bc]) w R :=
 fn_sound (H := h105) (fn := Go.Proofs.Try.f105) (by kernel_rfl) (by kernel_rfl) (by kernel_rfl) ((f105_eq aa an ac ba bn bc w R).mpr h)


/-! manciple/mancipleref02.Right -/
def h107 : Hints := ⟨[1], [], [6], [], [], [], [], [], []⟩
def f107_vc (f_0 : Int) (f_1 : Int) (w : World) (R : Ending → World → Prop) : Prop :=
 ∀ (n1 : Nat),
 w.heap.size ≤ n1 →
 (decide (f_0 ≥ 0) = true → ∀ (w2 : World), Bel w w2 → Under [n1] w2 → R (Ending.returned (Value.bool (decide (f_1 ≥ 1)))) w2) ∧
 (decide (f_0 ≥ 0) = false → ∀ (w3 : World), Bel w w3 → Under [n1] w3 → R (Ending.returned (Value.bool false)) w3)
theorem f107_eq (f_0 : Int) (f_1 : Int) (w : World) (R : Ending → World → Prop) : (fnF Go.Proofs.Try.prog h107 Go.Proofs.Try.f107 [Value.agg #[Value.int IntKind.i64 f_0, Value.int IntKind.i64 f_1]] w R).den = f107_vc f_0 f_1 w R := by kernel_rfl
theorem f107_calls (f_0 : Int) (f_1 : Int) (w : World) (R : Ending → World → Prop) (h : f107_vc f_0 f_1 w R) : Calls Go.Proofs.Try.prog 107 (List.toArray [Value.agg #[Value.int IntKind.i64 f_0, Value.int IntKind.i64 f_1]]) w R :=
 fn_sound (H := h107) (fn := Go.Proofs.Try.f107) (by kernel_rfl) (by kernel_rfl) (by kernel_rfl) ((f107_eq f_0 f_1 w R).mpr h)


/-! manciple/mancipleref01.Product -/
def h108 : Hints := ⟨[], [32, 36, 40, 52, 61], [19, 25], [(9, [0, 1, 2, 3, 4, 5, 6, 7, 8, 9, 10, 11, 12, 13, 14, 15, 16, 17, 18])], [], [(3, ⟨[(6, .int .i64)], []⟩), (7, ⟨[(7, .int .i64), (8, .int .i64)], []⟩)], [], [], []⟩
def f108_vc (aa : Option Addr) (an : Nat) (ac : Nat) (ba : Option Addr) (bn : Nat) (bc : Nat) (w : World) (R : Ending → World → Prop) : Prop :=
 OpW Proofs.Try.prog (valueS (Instr.makeSlice 169 (Value.int IntKind.i64 (IntKind.i64.wrap ((↑an : Int) + (↑bn : Int)))) (Value.int IntKind.i64 (IntKind.i64.wrap ((↑an : Int) + (↑bn : Int)))))) w fun (v1 : Value) (w2 : World) =>
 ∃ (a3 : Option Addr),
 ∃ (n4 : Nat),
 ∃ (n5 : Nat),
 v1 = Value.slice a3 n4 n5 ∧
 ∃ (J6 : Int × Unit → World → Prop),
 ∃ (J7 : Int × Unit → World → Nat),
 J6 (0, ()) w2 ∧
 ∀ (x8 : Int) (w9 : World),
 J6 (x8, ()) w9 →
 (decide (x8 < (↑an : Int)) = true →
 ∃ (J10 : Int × Int × Unit → World → Prop),
 ∃ (J11 : Int × Int × Unit → World → Nat),
 J10 (0, 0, ()) w9 ∧
 ∀ (x12 x13 : Int) (w14 : World),
 J10 (x12, x13, ()) w14 →
 (decide (x13 < (↑bn : Int)) = true →
 ∃ (ad15 : Addr),
 Gives Proofs.Try.prog (Instr.indexAt 169 (Value.slice a3 n4 n5) (Value.int IntKind.i64 (IntKind.i64.wrap (x8 + x13)))) (Value.pointer (some ad15)) ∧
 ∃ (x16 : Int),
 Reads Proofs.Try.prog [] (Instr.loadAt 3 (Value.pointer (some ad15))) w14 (Value.int IntKind.i64 x16) ∧
 ∃ (ad17 : Addr),
 Gives Proofs.Try.prog (Instr.indexAt 169 (Value.slice aa an ac) (Value.int IntKind.i64 x8)) (Value.pointer (some ad17)) ∧
 ∃ (x18 : Int),
 Reads Proofs.Try.prog [] (Instr.loadAt 3 (Value.pointer (some ad17))) w14 (Value.int IntKind.i64 x18) ∧
 ∃ (ad19 : Addr),
 Gives Proofs.Try.prog (Instr.indexAt 169 (Value.slice ba bn bc) (Value.int IntKind.i64 x13)) (Value.pointer (some ad19)) ∧
 ∃ (x20 : Int),
 Reads Proofs.Try.prog [] (Instr.loadAt 3 (Value.pointer (some ad19))) w14 (Value.int IntKind.i64 x20) ∧
 ∃ (ad21 : Addr),
 Gives Proofs.Try.prog (Instr.indexAt 169 (Value.slice a3 n4 n5) (Value.int IntKind.i64 (IntKind.i64.wrap (x8 + x13)))) (Value.pointer (some ad21)) ∧
 ∀ (w22 : World),
 Bel w14 w22 →
 OpW Proofs.Try.prog
 (skipS
 (Instr.storeAt 3 (Value.pointer (some ad21)) (Value.int IntKind.i64 ((IntKind.i64.wrap (IntKind.i64.wrap (x16 + IntKind.i64.wrap (x18 * x20)) + x12)).tmod 65536))))
 w22 fun (v23 : Value) (w24 : World) =>
 J10 (IntKind.i64.wrap ((IntKind.i64.wrap (IntKind.i64.wrap (x16 + IntKind.i64.wrap (x18 * x20)) + x12)).tdiv 65536), IntKind.i64.wrap (x13 + 1), ()) w24 ∧
 J11 (IntKind.i64.wrap ((IntKind.i64.wrap (IntKind.i64.wrap (x16 + IntKind.i64.wrap (x18 * x20)) + x12)).tdiv 65536), IntKind.i64.wrap (x13 + 1), ()) w24 <
 J11 (x12, x13, ()) w14) ∧
 (decide (x13 < (↑bn : Int)) = false →
 ∃ (ad25 : Addr),
 Gives Proofs.Try.prog (Instr.indexAt 169 (Value.slice a3 n4 n5) (Value.int IntKind.i64 (IntKind.i64.wrap (x8 + (↑bn : Int))))) (Value.pointer (some ad25)) ∧
 OpW Proofs.Try.prog (skipS (Instr.storeAt 3 (Value.pointer (some ad25)) (Value.int IntKind.i64 x12))) w14 fun (v26 : Value) (w27 : World) =>
 J6 (IntKind.i64.wrap (x8 + 1), ()) w27 ∧ J7 (IntKind.i64.wrap (x8 + 1), ()) w27 < J7 (x8, ()) w9)) ∧
 (decide (x8 < (↑an : Int)) = false → R (Ending.returned (Value.slice a3 n4 n5)) w9)
theorem f108_eq (aa : Option Addr) (an : Nat) (ac : Nat) (ba : Option Addr) (bn : Nat) (bc : Nat) (w : World) (R : Ending → World → Prop) : (fnF Go.Proofs.Try.prog h108 Go.Proofs.Try.f108 [Value.slice aa an ac, Value.slice ba bn bc] w R).den = f108_vc aa an ac ba bn bc w R := by kernel_rfl
theorem f108_calls (aa : Option Addr) (an : Nat) (ac : Nat) (ba : Option Addr) (bn : Nat) (bc : Nat) (w : World) (R : Ending → World → Prop) (h : f108_vc aa an ac ba bn bc w R) : Calls Go.Proofs.Try.prog 108 (List.toArray [Value.slice aa an ac, Value.slice ba bn bc]) w R :=
 fn_sound (H := h108) (fn := Go.Proofs.Try.f108) (by kernel_rfl) (by kernel_rfl) (by kernel_rfl) ((f108_eq aa an ac ba bn bc w R).mpr h)


/-! manciple/mancipleref01.Digits -/
def h109 : Hints := ⟨[], [], [9, 21], [], [], [(3, ⟨[(1, .int .u64), (5, .sl), (6, .int .i64)], []⟩), (8, ⟨[(0, .int .u64), (5, .sl), (7, .int .i64)], []⟩)], [], [], []⟩
def f109_vc (hi : Int) (lo : Int) (w : World) (R : Ending → World → Prop) : Prop :=
 ∃ (J1 : Int × (Option Addr × Nat × Nat) × Int × Unit → World → Prop),
 ∃ (J2 : Int × (Option Addr × Nat × Nat) × Int × Unit → World → Nat),
 J1 (lo, (none, 0, 0), 0, ()) w ∧
 ∀ (x3 : Int) (a4 : Option Addr) (n5 n6 : Nat) (x7 : Int) (w8 : World),
 J1 (x3, (a4, n5, n6), x7, ()) w8 →
 (decide (x7 < 4) = true →
 OpW Proofs.Try.prog (valueS (Instr.buildSlice 169 1 #[(0, Value.int IntKind.i64 (IntKind.i64.wrap (x3.tmod 65536)))])) w8 fun (v9 : Value) (w10 : World) =>
 ∃ (a11 : Option Addr),
 ∃ (n12 : Nat),
 ∃ (n13 : Nat),
 v9 = Value.slice a11 n12 n13 ∧
 OpW Proofs.Try.prog (builtin Builtin.append #[169, 169] 169 #[false, false] #[Value.slice a4 n5 n6, Value.slice a11 n12 n13]) w10 fun (v14 : Value) (w15 : World) =>
 ∃ (a16 : Option Addr),
 ∃ (n17 : Nat),
 ∃ (n18 : Nat),
 v14 = Value.slice a16 n17 n18 ∧
 J1 (IntKind.u64.wrap (x3.tdiv 65536), (a16, n17, n18), IntKind.i64.wrap (x7 + 1), ()) w15 ∧
 J2 (IntKind.u64.wrap (x3.tdiv 65536), (a16, n17, n18), IntKind.i64.wrap (x7 + 1), ()) w15 < J2 (x3, (a4, n5, n6), x7, ()) w8) ∧
 (decide (x7 < 4) = false →
 ∃ (J19 : Int × (Option Addr × Nat × Nat) × Int × Unit → World → Prop),
 ∃ (J20 : Int × (Option Addr × Nat × Nat) × Int × Unit → World → Nat),
 J19 (hi, (a4, n5, n6), 0, ()) w8 ∧
 ∀ (x21 : Int) (a22 : Option Addr) (n23 n24 : Nat) (x25 : Int) (w26 : World),
 J19 (x21, (a22, n23, n24), x25, ()) w26 →
 (decide (x25 < 4) = true →
 OpW Proofs.Try.prog (valueS (Instr.buildSlice 169 1 #[(0, Value.int IntKind.i64 (IntKind.i64.wrap (x21.tmod 65536)))])) w26 fun (v27 : Value) (w28 : World) =>
 ∃ (a29 : Option Addr),
 ∃ (n30 : Nat),
 ∃ (n31 : Nat),
 v27 = Value.slice a29 n30 n31 ∧
 OpW Proofs.Try.prog (builtin Builtin.append #[169, 169] 169 #[false, false] #[Value.slice a22 n23 n24, Value.slice a29 n30 n31]) w28 fun (v32 : Value) (w33 : World) =>
 ∃ (a34 : Option Addr),
 ∃ (n35 : Nat),
 ∃ (n36 : Nat),
 v32 = Value.slice a34 n35 n36 ∧
 J19 (IntKind.u64.wrap (x21.tdiv 65536), (a34, n35, n36), IntKind.i64.wrap (x25 + 1), ()) w33 ∧
 J20 (IntKind.u64.wrap (x21.tdiv 65536), (a34, n35, n36), IntKind.i64.wrap (x25 + 1), ()) w33 < J20 (x21, (a22, n23, n24), x25, ()) w26) ∧
 (decide (x25 < 4) = false → R (Ending.returned (Value.slice a22 n23 n24)) w26))
theorem f109_eq (hi : Int) (lo : Int) (w : World) (R : Ending → World → Prop) : (fnF Go.Proofs.Try.prog h109 Go.Proofs.Try.f109 [Value.int IntKind.u64 hi, Value.int IntKind.u64 lo] w R).den = f109_vc hi lo w R := by kernel_rfl
theorem f109_calls (hi : Int) (lo : Int) (w : World) (R : Ending → World → Prop) (h : f109_vc hi lo w R) : Calls Go.Proofs.Try.prog 109 (List.toArray [Value.int IntKind.u64 hi, Value.int IntKind.u64 lo]) w R :=
 fn_sound (H := h109) (fn := Go.Proofs.Try.f109) (by kernel_rfl) (by kernel_rfl) (by kernel_rfl) ((f109_eq hi lo w R).mpr h)

end Vcs

/- Own text of this claim: Sr3. -/
set_option maxRecDepth 20000
namespace Go.Vc.S
open Go Go.Vc Go.RowKit Go.Proofs Vcs

abbrev one (x : Int) : List Value := [.int .i64 x]
def dg : Nat → Int → List Int
  | 0, _ => []
  | k + 1, x => (x % 65536) :: dg k (x / 65536)

theorem dg_len : ∀ (k : Nat) (x : Int), (dg k x).length = k
  | 0, _ => rfl
  | k + 1, x => by simp [dg, dg_len k]

theorem c109 (hi lo : Int) (hh : 0 ≤ hi ∧ hi < 18446744073709551616) (hl : 0 ≤ lo ∧ lo < 18446744073709551616) (w : World) : RetL Try.prog 109 #[.int .u64 hi, .int .u64 lo] w 3 1 one (dg 4 lo ++ dg 4 hi) := by
  intro R h
  refine f109_calls hi lo w R ?_
  unfold f109_vc
  have hA := At.refl w
  refine ⟨fun s W => At w [] W ∧ ∃ k : Nat, s.2.2.1 = k ∧ k ≤ 4 ∧ (0 ≤ s.1 ∧ s.1 < 18446744073709551616) ∧ ∃ l : List Int, OwnL w [] W 3 1 one (.slice s.2.1.1 s.2.1.2.1 s.2.1.2.2) l ∧ l.length = k ∧ l ++ dg (4 - k) s.1 = dg 4 lo, fun s _ => 4 - s.2.2.1.toNat, ⟨hA, 0, rfl, by omega, hl, [], OwnL.nil, rfl, rfl⟩, ?_⟩
  intro x a n c i W ⟨hA, k, hik, hk, hx, l, ho, hll, hd⟩
  simp only at hik hk hx ho hd
  subst hik
  refine brD (fun hlt => ?_) (fun hge => ?_)
  · refine opw_lit hA (e' := 3) (cs := one (IntKind.i64.wrap (x.tmod 65536))) (by kernel_rfl) fun w' hA hk hb hc _ => ⟨_, _, _, rfl, ?_⟩
    have e1 : IntKind.i64.wrap (x.tmod 65536) = x % 65536 := by
      rw [Int.tmod_eq_emod_of_nonneg hx.1]
      exact wrap_i64 (by omega) (by omega)
    have e2 : IntKind.u64.wrap (x.tdiv 65536) = x / 65536 := by
      rw [Int.tdiv_eq_ediv_of_nonneg hx.1]
      exact wrap_u64_id (by omega) (by omega)
    have e3 : IntKind.i64.wrap ((k : Int) + 1) = ((k + 1 : Nat) : Int) := by rw [wrap_i64 (by omega) (by omega)]; rfl
    rw [e1] at hc
    rw [e2, e3]
    refine opw_append1 (bytes := 8) (by kernel_rfl) hA (ho.call hb) (x := x % 65536) rfl hc (by simp [Value.oneCell']) (by omega) (.inr (by omega)) fun v' w' hA hk hg ho' _ => ?_
    obtain ⟨a', c', rfl, _⟩ := ho'.slice (by simp)
    refine ⟨_, _, _, rfl, ⟨hA, k + 1, rfl, by omega, by omega, _, ho', by simp [hll], ?_⟩, ?_⟩
    · rw [← hd, show 4 - k = (4 - (k + 1)) + 1 by omega]
      simp [dg]
    · simp only
      omega
  · have hk4 : k = 4 := by omega
    subst hk4
    have hl4 : l = dg 4 lo := by simpa [dg] using hd
    subst hl4
    refine ⟨fun s W => At w [] W ∧ ∃ k : Nat, s.2.2.1 = k ∧ k ≤ 4 ∧ (0 ≤ s.1 ∧ s.1 < 18446744073709551616) ∧ ∃ l : List Int, OwnL w [] W 3 1 one (.slice s.2.1.1 s.2.1.2.1 s.2.1.2.2) l ∧ l.length = 4 + k ∧ l ++ dg (4 - k) s.1 = dg 4 lo ++ dg 4 hi, fun s _ => 4 - s.2.2.1.toNat, ⟨hA, 0, rfl, by omega, hh, _, ho, dg_len _ _, rfl⟩, ?_⟩
    clear ho hx hd
    intro x a n c i W ⟨hA, k, hik, hk, hx, l, ho, hll, hd⟩
    simp only at hik hk hx ho hd
    subst hik
    refine brD (fun hlt => ?_) (fun hge => ?_)
    · refine opw_lit hA (e' := 3) (cs := one (IntKind.i64.wrap (x.tmod 65536))) (by kernel_rfl) fun w' hA hk hb hc _ => ⟨_, _, _, rfl, ?_⟩
      have e1 : IntKind.i64.wrap (x.tmod 65536) = x % 65536 := by
        rw [Int.tmod_eq_emod_of_nonneg hx.1]
        exact wrap_i64 (by omega) (by omega)
      have e2 : IntKind.u64.wrap (x.tdiv 65536) = x / 65536 := by
        rw [Int.tdiv_eq_ediv_of_nonneg hx.1]
        exact wrap_u64_id (by omega) (by omega)
      have e3 : IntKind.i64.wrap ((k : Int) + 1) = ((k + 1 : Nat) : Int) := by rw [wrap_i64 (by omega) (by omega)]; rfl
      rw [e1] at hc
      rw [e2, e3]
      refine opw_append1 (bytes := 8) (by kernel_rfl) hA (ho.call hb) (x := x % 65536) rfl hc (by simp [Value.oneCell']) (by omega) (.inr (by omega)) fun v' w' hA hk hg ho' _ => ?_
      obtain ⟨a', c', rfl, _⟩ := ho'.slice (by simp)
      refine ⟨_, _, _, rfl, ⟨hA, k + 1, rfl, by omega, by omega, _, ho', by simp [hll]; omega, ?_⟩, ?_⟩
      · rw [← hd, show 4 - k = (4 - (k + 1)) + 1 by omega]
        simp [dg]
      · simp only
        omega
    · have hk4 : k = 4 := by omega
      subst hk4
      exact leafl h hA ho (by simpa [dg] using hd)
end Go.Vc.S

/- Own text of this claim: Sr4. -/
set_option maxRecDepth 20000
namespace Go.Vc.S
open Go Go.Vc Go.RowKit Go.Proofs Vcs

abbrev Dig (l : List Int) : Prop := ∀ x ∈ l, 0 ≤ x ∧ x < 65536
def pw : Nat → Int
  | 0 => 1
  | k + 1 => 65536 * pw k
def val : List Int → Int
  | [] => 0
  | d :: r => d + 65536 * val r

theorem pw_pos : ∀ k, 0 < pw k
  | 0 => by decide
  | k + 1 => by have := pw_pos k; simp [pw]; omega
theorem pw_add : ∀ a b, pw (a + b) = pw a * pw b
  | 0, b => by simp [pw]
  | a + 1, b => by rw [Nat.succ_add]; simp only [pw]; rw [pw_add a b, Int.mul_assoc]
theorem val_append : ∀ (a b : List Int), val (a ++ b) = val a + pw a.length * val b
  | [], b => by simp [val, pw]
  | d :: a, b => by
    simp only [List.cons_append, val, List.length_cons, pw]
    rw [val_append a b]
    grind
theorem val_take_succ {l : List Int} {k : Nat} {x : Int} (h : l[k]? = some x) : val (l.take (k + 1)) = val (l.take k) + pw k * x := by
  have hk := (List.getElem?_eq_some_iff.1 h).1
  rw [List.take_add_one, h, val_append, List.length_take, Nat.min_eq_left (by omega)]
  simp [val]
theorem val_set : ∀ {l : List Int} {k : Nat} {x y : Int}, l[k]? = some x → val (l.set k y) = val l + (y - x) * pw k
  | [], k, x, y, h => by simp at h
  | d :: l, 0, x, y, h => by
    simp at h
    subst h
    simp [val, pw]
    omega
  | d :: l, k + 1, x, y, h => by
    simp only [List.set_cons_succ, val, pw]
    rw [val_set (l := l) (k := k) (x := x) (y := y) (by simpa using h)]
    grind
theorem val_nonneg : ∀ {l : List Int}, Dig l → 0 ≤ val l ∧ val l < pw l.length
  | [], _ => by simp [val, pw]
  | d :: l, h => by
    have h1 := h d (List.mem_cons_self ..)
    have h2 := val_nonneg (l := l) fun x hx => h x (List.mem_cons_of_mem _ hx)
    simp only [val, pw, List.length_cons]
    omega
theorem val_dg : ∀ (k : Nat) (x : Int), 0 ≤ x → x < pw k → val (dg k x) = x
  | 0, x, h1, h2 => by simp [pw] at h2; simp [dg, val]; omega
  | k + 1, x, h1, h2 => by
    simp only [pw] at h2
    simp only [dg, val]
    rw [val_dg k (x / 65536) (by omega) (by omega)]
    omega
theorem dg_dig : ∀ (k : Nat) (x : Int), Dig (dg k x)
  | 0, x => by intro y hy; cases hy
  | k + 1, x => by
    intro y hy
    rcases List.mem_cons.1 hy with rfl | hy
    · omega
    · exact dg_dig k _ y hy
theorem val_zeros : ∀ (k : Nat), val (List.replicate k 0) = 0
  | 0 => rfl
  | k + 1 => by rw [List.replicate_succ]; simp [val, val_zeros k]

theorem dig_at {l : List Int} (h : Dig l) {k : Nat} {x : Int} (hx : l[k]? = some x) : 0 ≤ x ∧ x < 65536 := h x (List.mem_of_getElem? hx)
theorem dig_set {l : List Int} (h : Dig l) {k : Nat} {y : Int} (hy : 0 ≤ y ∧ y < 65536) : Dig (l.set k y) := fun x hx => by
  rcases List.mem_or_eq_of_mem_set hx with hx | rfl
  · exact h x hx
  · exact hy

theorem c108 {A B : List Int} {aa ba : Option Addr} {an ac bn bc : Nat} (w : World) (ha : SlE w 1 one A aa an ac) (hb : SlE w 1 one B ba bn bc) (hdA : Dig A) (hdB : Dig B) (hlA : A.length ≤ 1000) (hlB : B.length ≤ 1000) :
    RetQ Try.prog 108 #[.slice aa an ac, .slice ba bn bc] w (fun v w' => ∃ l : List Int, w'.ownsRow w.heap.size 3 1 v l.length (l.flatMap one) ∧ Dig l ∧ l.length = A.length + B.length ∧ val l = val A * val B) := by
  intro R h
  refine f108_calls aa an ac ba bn bc w R ?_
  unfold f108_vc
  have hA := At.refl w
  have ean : an = A.length := ha.1
  have ebn : bn = B.length := hb.1
  subst ean
  subst ebn
  rw [wrap_i64 (by omega) (by omega), show (A.length : Int) + (B.length : Int) = ((A.length + B.length : Nat) : Int) by simp]
  refine opw_make (bytes := 8) (e := 3) (size := 1) (f := one) (z := (0 : Int)) (by kernel_rfl) hA ⟨_, _, rfl, rfl, by kernel_rfl⟩ (by omega) (by simp only [maxLen]; omega) fun w2 hA hk ho hg => ⟨_, _, _, rfl, ?_⟩
  have hold : ∀ {W : World} {l : List Int} {a : Option Addr} {n c : Nat}, At w [] W → SlE w 1 one l a n c → SlE W 1 one l a n c := fun hA hs => hs.call hA.below
  generalize hgm : w.heap.size = gm at ho ⊢
  have hf1 : ∀ l : List Int, ∀ x ∈ l, (one x).length = 1 := fun _ _ _ => rfl
  refine ⟨fun s W => At w [] W ∧ ∃ k : Nat, s.1 = k ∧ k ≤ A.length ∧ ∃ l : List Int, OwnL w [] W 3 1 one (.slice (some ⟨gm, 0, none⟩) (A.length + B.length) (A.length + B.length)) l ∧ Dig l ∧ l.length = A.length + B.length ∧ val l = val (A.take k) * val B ∧ ∀ j x, k + B.length ≤ j → l[j]? = some x → x = 0,
    fun s _ => A.length - s.1.toNat, ⟨hA, 0, rfl, Nat.zero_le _, _, ho, fun x hx => by rw [(List.mem_replicate.1 hx).2]; omega, List.length_replicate, by simp [val, val_zeros], fun j x _ hx => by
      rw [List.getElem?_replicate] at hx; split at hx
      · exact (Option.some.inj hx).symm
      · cases hx⟩, ?_⟩
  intro i W ⟨hA, k, hik, hk, l, ho, hdl, hll, hv, hz⟩
  simp only at hik
  subst hik
  refine brD (fun hlt => ?_) (fun hge => ?_)
  · obtain ⟨A0, hA0⟩ : ∃ x, A[k]? = some x := ⟨_, List.getElem?_eq_getElem (by omega)⟩
    have dA0 := dig_at hdA hA0
    refine ⟨fun s W => At w [] W ∧ 0 ≤ s.1 ∧ s.1 < 65536 ∧ ∃ q : Nat, s.2.1 = q ∧ q ≤ B.length ∧ ∃ l : List Int, OwnL w [] W 3 1 one (.slice (some ⟨gm, 0, none⟩) (A.length + B.length) (A.length + B.length)) l ∧ Dig l ∧ l.length = A.length + B.length ∧ val l + s.1 * pw (k + q) = val (A.take k) * val B + A0 * pw k * val (B.take q) ∧ ∀ j x, k + B.length ≤ j → l[j]? = some x → x = 0,
      fun s _ => B.length - s.2.1.toNat, ⟨hA, by show (0 : Int) ≤ 0; omega, by show (0 : Int) < 65536; omega, 0, rfl, Nat.zero_le _, l, ho, hdl, hll, by simp [hv, val], hz⟩, ?_⟩
    clear ho hdl hll hv hz
    intro ov j W ⟨hA, hov0, hov1, q, hjq, hq, l, ho, hdl, hll, hv, hz⟩
    simp only at hjq hov0 hov1 hv
    subst hjq
    have ekq : IntKind.i64.wrap ((k : Int) + (q : Int)) = ((k + q : Nat) : Int) := by rw [wrap_i64 (by omega) (by omega)]; rfl
    refine brD (fun hlt2 => ?_) (fun hge2 => ?_)
    · obtain ⟨B0, hB0⟩ : ∃ x, B[q]? = some x := ⟨_, List.getElem?_eq_getElem (by omega)⟩
      obtain ⟨L0, hL0⟩ : ∃ x, l[k + q]? = some x := ⟨_, List.getElem?_eq_getElem (by omega)⟩
      have dB0 := dig_at hdB hB0
      have dL0 := dig_at hdl hL0
      rw [ekq]
      obtain ⟨a1, g1, r1⟩ := rd_one (te := 3) (ds := []) (k := .i64) (t := 169) (P := Try.prog) (e := 3) (ho.sl (hf1 _)) hL0 rfl (by kernel_rfl) (by kernel_rfl) (by kernel_rfl) (fun _ h => by cases h)
      obtain ⟨a2, g2, r2⟩ := rd_one (te := 3) (ds := []) (k := .i64) (t := 169) (P := Try.prog) (e := 3) (hold hA ha) hA0 rfl (by kernel_rfl) (by kernel_rfl) (by kernel_rfl) (fun _ h => by cases h)
      obtain ⟨a3, g3, r3⟩ := rd_one (te := 3) (ds := []) (k := .i64) (t := 169) (P := Try.prog) (e := 3) (hold hA hb) hB0 rfl (by kernel_rfl) (by kernel_rfl) (by kernel_rfl) (fun _ h => by cases h)
      have hprod : 0 ≤ A0 * B0 ∧ A0 * B0 ≤ 4294836225 := by
        refine ⟨Int.mul_nonneg dA0.1 dB0.1, ?_⟩
        have h1 : A0 * B0 ≤ 65535 * B0 := Int.mul_le_mul_of_nonneg_right (by omega) dB0.1
        omega
      refine ⟨_, g1, _, r1, _, g2, _, r2, _, g3, _, r3, _, gives_index (e := 3) (n := 1) (by kernel_rfl) (by kernel_rfl) (by omega), ?_⟩
      generalize hm : A0 * B0 = m at *
      have ew : IntKind.i64.wrap (IntKind.i64.wrap (L0 + IntKind.i64.wrap m) + ov) = L0 + m + ov := by
        rw [wrap_i64 (x := m) (by omega) (by omega), wrap_i64 (x := L0 + m) (by omega) (by omega), wrap_i64 (by omega) (by omega)]
      rw [ew, Int.tmod_eq_emod_of_nonneg (by omega), Int.tdiv_eq_ediv_of_nonneg (by omega)]
      have ew2 : IntKind.i64.wrap ((L0 + m + ov) / 65536) = (L0 + m + ov) / 65536 := wrap_i64 (by omega) (by omega)
      have eq1 : IntKind.i64.wrap ((q : Int) + 1) = ((q + 1 : Nat) : Int) := by rw [wrap_i64 (by omega) (by omega)]; rfl
      rw [ew2, eq1]
      intro w22 hb22
      have hA := hA.call hb22
      refine opw_store (y := (L0 + m + ov) % 65536) (i := k + q) hA (ho.call hb22) (hf1 _) (by omega) rfl rfl rfl (by kernel_rfl) (fun w' hA hk hg ho => ?_) (fun g hg => ?_)
      · refine ⟨⟨hA, ?_, ?_, q + 1, rfl, by omega, _, ho, dig_set hdl (by omega), by simpa using hll, ?_, fun j x hj hx => ?_⟩, ?_⟩
        · show (0 : Int) ≤ (L0 + m + ov) / 65536
          omega
        · show (L0 + m + ov) / 65536 < 65536
          omega
        · show val (l.set (k + q) ((L0 + m + ov) % 65536)) + (L0 + m + ov) / 65536 * pw (k + (q + 1)) = _
          rw [val_set hL0, val_take_succ hB0, ← Nat.add_assoc, show pw (k + q + 1) = 65536 * pw (k + q) from rfl]
          have hpa := pw_add k q
          have hdm : L0 + m + ov = 65536 * ((L0 + m + ov) / 65536) + (L0 + m + ov) % 65536 := by omega
          generalize (L0 + m + ov) / 65536 = qq at *
          generalize (L0 + m + ov) % 65536 = rr at *
          subst hm
          rw [hpa] at hv ⊢
          grind
        · rw [List.getElem?_set_ne (by omega)] at hx
          exact hz j x hj hx
        · simp only
          omega
      · cases hg
        rw [addr_add, Nat.zero_add]
    · have hqe : q = B.length := by omega
      subst hqe
      obtain ⟨L0, hL0⟩ : ∃ x, l[k + B.length]? = some x := ⟨_, List.getElem?_eq_getElem (by omega)⟩
      have hL00 := hz _ _ (Nat.le_refl _) hL0
      subst hL00
      rw [ekq]
      refine ⟨_, gives_index (e := 3) (n := 1) (by kernel_rfl) (by kernel_rfl) (by omega), ?_⟩
      refine opw_store (y := ov) (i := k + B.length) hA ho (hf1 _) (by omega) rfl rfl rfl (by kernel_rfl) (fun w' hA hk hg ho => ?_) (fun g hg => ?_)
      · have ek1 : IntKind.i64.wrap ((k : Int) + 1) = ((k + 1 : Nat) : Int) := by rw [wrap_i64 (by omega) (by omega)]; rfl
        rw [ek1]
        refine ⟨⟨hA, k + 1, rfl, by omega, _, ho, dig_set hdl ⟨hov0, hov1⟩, by simpa using hll, ?_, fun j x hj hx => ?_⟩, ?_⟩
        · rw [val_set hL0, val_take_succ hA0]
          rw [List.take_length] at hv
          grind
        · rw [List.getElem?_set_ne (by omega)] at hx
          exact hz j x (by omega) hx
        · simp only
          omega
      · cases hg
        rw [addr_add, Nat.zero_add]
  · have hke : k = A.length := by omega
    subst hke
    rw [List.take_length] at hv
    exact h _ W hA.below ⟨l, ho.row, hdl, hll, hv⟩

theorem val_lt : ∀ {A B : List Int} {k : Nat} {x y : Int}, Dig A → Dig B → A.length = B.length → A[k]? = some x → B[k]? = some y → A.drop (k + 1) = B.drop (k + 1) → (x ≠ y → (x < y ↔ val A < val B)) ∧ (x = y → A.drop k = B.drop k) := by
  intro A B k x y hA hB hl hx hy hd
  have hk := (List.getElem?_eq_some_iff.1 hx).1
  have dx := drop_cons hx
  have dy := drop_cons hy
  refine ⟨fun hne => ?_, fun h => by rw [dx, dy, hd, h]⟩
  have e1 : val A = val (A.take k) + pw k * (x + 65536 * val (A.drop (k + 1))) := by
    conv => lhs; rw [← List.take_append_drop k A, val_append, List.length_take, Nat.min_eq_left (by omega), dx]
    rfl
  have e2 : val B = val (B.take k) + pw k * (y + 65536 * val (A.drop (k + 1))) := by
    conv => lhs; rw [← List.take_append_drop k B, val_append, List.length_take, Nat.min_eq_left (by omega), dy, ← hd]
    rfl
  have b1 := val_nonneg (l := A.take k) fun x hx => hA x (List.mem_of_mem_take hx)
  have b2 := val_nonneg (l := B.take k) fun x hx => hB x (List.mem_of_mem_take hx)
  rw [List.length_take, Nat.min_eq_left (by omega)] at b1 b2
  have hp := pw_pos k
  rw [e1, e2]
  generalize val (A.take k) = s at *
  generalize val (B.take k) = t at *
  generalize val (A.drop (k + 1)) = u at *
  generalize pw k = p at *
  constructor
  · intro hxy
    have := Int.mul_le_mul_of_nonneg_left (show x + 65536 * u + 1 ≤ y + 65536 * u by omega) (show 0 ≤ p by omega)
    rw [Int.mul_add, Int.mul_one] at this
    omega
  · intro hs
    rcases Int.lt_or_le x y with h | h
    · exact h
    · have := Int.mul_le_mul_of_nonneg_left (show y + 65536 * u + 1 ≤ x + 65536 * u by omega) (show 0 ≤ p by omega)
      rw [Int.mul_add, Int.mul_one] at this
      omega

theorem c105 {A B : List Int} {aa ba : Option Addr} {an ac bn bc : Nat} (w : World) (ha : SlE w 1 one A aa an ac) (hb : SlE w 1 one B ba bn bc) (hdA : Dig A) (hdB : Dig B) (hl : A.length = B.length) :
    Ret Try.prog 105 #[.slice aa an ac, .slice ba bn bc] w (.bool (decide (val A < val B))) := by
  intro R h
  refine f105_calls aa an ac ba bn bc w R ?_
  unfold f105_vc
  have hA := At.refl w
  have ean : an = A.length := ha.1
  have hm := ha.len_le.2
  subst ean
  have hold : ∀ {W : World} {l : List Int} {a : Option Addr} {n c : Nat}, At w [] W → SlE w 1 one l a n c → SlE W 1 one l a n c := fun hA hs => hs.call hA.below
  rw [wrap_i64 (by omega) (by omega)]
  refine ⟨fun s W => At w [] W ∧ ∃ k : Nat, s.1 = (k : Int) - 1 ∧ k ≤ A.length ∧ A.drop k = B.drop k, fun s _ => (s.1 + 1).toNat, ⟨hA, A.length, rfl, Nat.le_refl _, by rw [List.drop_length, hl, List.drop_length]⟩, ?_⟩
  intro i W ⟨hA, k, hik, hk, hd⟩
  simp only at hik
  subst hik
  refine brD (fun hge => ?_) (fun hlt => ?_)
  · obtain ⟨j, rfl⟩ : ∃ j, k = j + 1 := ⟨k - 1, by omega⟩
    have ej : ((j + 1 : Nat) : Int) - 1 = (j : Int) := by omega
    rw [ej]
    obtain ⟨x, hx⟩ : ∃ x, A[j]? = some x := ⟨_, List.getElem?_eq_getElem (by omega)⟩
    obtain ⟨y, hy⟩ : ∃ x, B[j]? = some x := ⟨_, List.getElem?_eq_getElem (by omega)⟩
    obtain ⟨a2, g2, r2⟩ := rd_one (te := 3) (ds := []) (k := .i64) (t := 169) (P := Try.prog) (e := 3) (hold hA ha) hx rfl (by kernel_rfl) (by kernel_rfl) (by kernel_rfl) (fun _ h => by cases h)
    obtain ⟨a3, g3, r3⟩ := rd_one (te := 3) (ds := []) (k := .i64) (t := 169) (P := Try.prog) (e := 3) (hold hA hb) hy rfl (by kernel_rfl) (by kernel_rfl) (by kernel_rfl) (fun _ h => by cases h)
    have hv := val_lt hdA hdB hl hx hy hd
    refine ⟨_, g2, _, r2, _, g3, _, r3, brN (fun hne => ?_) (fun he => ?_)⟩
    · refine ⟨_, g2, _, r2, _, g3, _, r3, go_below0 hA fun w13 hA => leaf h hA ?_⟩
      congr 2
      exact decide_eq_decide.2 (hv.1 hne)
    · refine go_below0 hA fun w13 hA => ?_
      rw [wrap_i64 (by omega) (by omega)]
      refine ⟨⟨hA, j, rfl, by omega, hv.2 he⟩, ?_⟩
      simp only
      omega
  · have hk0 : k = 0 := by omega
    subst hk0
    have he : A = B := by simpa using hd
    refine leaf h hA ?_
    subst he
    simp

theorem c107 (a b : Int) (w : World) : Ret Try.prog 107 #[fracV a b] w (.bool (decide (right a b))) := by
  intro R h
  refine f107_calls a b w R ?_
  unfold f107_vc
  have hA := At.refl w
  refine go_n hA fun n1 h1 => ?_
  refine brD (fun ha => ?_) (fun ha => ?_)
  · refine go_below hA fun w2 hA => leaf h hA ?_
    simp only [right, ge_iff_le] at *
    simp [*]
  · refine go_below hA fun w2 hA => leaf h hA ?_
    simp only [right, ge_iff_le] at *
    simp [*]

theorem dig128 {x : Int} (h : 0 ≤ x ∧ x < 18446744073709551616) : Dig (dg 4 x ++ dg 4 0) ∧ val (dg 4 x ++ dg 4 0) = x ∧ (dg 4 x ++ dg 4 0).length = 8 := by
  refine ⟨fun y hy => ?_, ?_, by simp [dg_len]⟩
  · rcases List.mem_append.1 hy with hy | hy
    · exact dg_dig 4 _ y hy
    · exact dg_dig 4 _ y hy
  · rw [val_append, val_dg 4 x h.1 (by have : pw 4 = 18446744073709551616 := by decide
                                       omega), show val (dg 4 0) = 0 by decide]
    omega

theorem c96 (a0 a1 b0 b1 : Int) (h0 : I64 a0) (h1 : I64 a1) (h2 : I64 b0) (h3 : I64 b1) (w : World) : Ret Try.prog 96 #[fracV a0 a1, fracV b0 b1] w (.int .i64 (frCmp a0 a1 b0 b1)) := by
  intro R h
  refine f96_calls a0 a1 b0 b1 w R ?_
  unfold f96_vc
  have hA := At.refl w
  refine go_n hA fun n1 h1 => ?_
  refine go_n hA fun n2 h2 => ?_
  refine go_below hA fun w3 hA => ?_
  refine at_call hA (c107 _ _ _) (fun _ hA hk => ⟨_, rfl, hk, ?_⟩)
  refine brND (fun hr => ?_) (fun hr => ?_)
  · refine leaf h hA ?_
    simp [frCmp, hr]
  refine at_call hA (c107 _ _ _) (fun _ hA hk => ⟨_, rfl, hk, ?_⟩)
  refine brND (fun hs => ?_) (fun hs => ?_)
  · refine leaf h hA ?_
    simp [frCmp, hs]
  refine go_below hA fun w3 hA => ?_
  have g1 := hr.1; have g2 := hr.2; have g3 := hs.1; have g4 := hs.2
  have u0 : 0 ≤ a0 ∧ a0 < 18446744073709551616 := by omega
  have u1 : 0 ≤ a1 ∧ a1 < 18446744073709551616 := by omega
  have u2 : 0 ≤ b0 ∧ b0 < 18446744073709551616 := by omega
  have u3 : 0 ≤ b1 ∧ b1 < 18446744073709551616 := by omega
  rw [wrap_u64_id u0.1 u0.2, wrap_u64_id u1.1 u1.2, wrap_u64_id u2.1 u2.2, wrap_u64_id u3.1 u3.2]
  obtain ⟨p0, v0, l0⟩ := dig128 u0
  obtain ⟨p1, v1, l1⟩ := dig128 u1
  obtain ⟨p2, v2, l2⟩ := dig128 u2
  obtain ⟨p3, v3, l3⟩ := dig128 u3
  refine at_calll hA (c109 0 a0 (by decide) u0 _) (by simp) fun aa ac wa hA hk hb hoa hsa => ⟨_, _, _, rfl, hk, ?_⟩
  refine at_calll hA (c109 0 b1 (by decide) u3 _) (by simp) fun ba bc wb hA hk hb hob hsb => ⟨_, _, _, rfl, hk, ?_⟩
  refine at_callq hA (c108 _ (hsa.call hb) hsb p0 p3 (by omega) (by omega)) fun v wx hA hk hb hq => ?_
  obtain ⟨X, hx, dX, lX, vX⟩ := hq
  have hoX : OwnL w [n1, n2] wx 3 1 one v X := OwnL.ret (by assumption) hx rfl rfl
  obtain ⟨xa, xc, rfl, hsX⟩ := hoX.slice (by simp)
  refine ⟨_, _, _, rfl, hk, ?_⟩
  refine go_below_too hA fun w26 hA hb26 => ?_
  refine at_calll hA (c109 0 b0 (by decide) u2 _) (by simp) fun ca cc wc hA hk hb27 hoc hsc => ⟨_, _, _, rfl, hk, ?_⟩
  refine at_calll hA (c109 0 a1 (by decide) u1 _) (by simp) fun da dc wd hA hk hb28 hod hsd => ⟨_, _, _, rfl, hk, ?_⟩
  refine at_callq hA (c108 _ (hsc.call hb28) hsd p2 p1 (by omega) (by omega)) fun v wy hA hk hb29 hq => ?_
  obtain ⟨Y, hy, dY, lY, vY⟩ := hq
  have hoY : OwnL w [n1, n2] wy 3 1 one v Y := OwnL.ret (by assumption) hy rfl rfl
  obtain ⟨ya, yc, rfl, hsY⟩ := hoY.slice (by simp)
  refine ⟨_, _, _, rfl, hk, ?_⟩
  have hsX' := (((hsX.call hb26).call hb27).call hb28).call hb29
  rw [v0, v3] at vX
  rw [v2, v1] at vY
  refine at_callq (Q := fun v w' => v = .bool (decide (val X < val Y))) hA (fun R h => c105 _ hsX' hsY dX dY (by omega) R fun w' hb => h _ w' hb rfl) (fun v w' hA hk hb hv => ?_)
  subst hv
  refine ⟨_, rfl, hk, ?_⟩
  have e : frCmp a0 a1 b0 b1 = cmpI (val X) (val Y) := by rw [vX, vY, frCmp, if_pos ⟨hr, hs⟩]
  rw [e] at h
  refine brD (fun hlt => ?_) (fun hge => ?_)
  · refine leaf h hA ?_
    rw [cmpI, if_neg (by omega), if_pos hlt]
  · refine at_call hA (c105 _ (hsY.call hb) (hsX'.call hb) dY dX (by omega)) (fun _ hA hk => ⟨_, rfl, hk, ?_⟩)
    refine brD (fun hlt => ?_) (fun hge => ?_)
    · refine leaf h hA ?_
      rw [cmpI, if_neg (by omega), if_neg (by omega)]
    · refine leaf h hA ?_
      rw [cmpI, if_pos (by omega)]
end Go.Vc.S

/- Own text of this claim: Sr6. -/
set_option maxRecDepth 20000
namespace Go.Vc.S
open Go Go.Vc Go.RowKit Go.Proofs Vcs

theorem c103 (a b c : Int) (w : World) : Ret Try.prog 103 #[fracV a b, .int .i64 c] w (.bool (decide (sRight a b c))) := by
  intro R h
  refine f103_calls a b c w R ?_
  unfold f103_vc
  have hA := At.refl w
  refine go_n hA fun n1 h1 => ?_
  refine go_below hA fun w2 hA => ?_
  refine at_call hA (c107 _ _ _) (fun _ hA hk => ⟨_, rfl, hk, ?_⟩)
  refine brD (fun h1 => brD (fun h2 => brD (fun h3 => brD (fun h4 => leaf h hA ?_) (fun h4 => leaf h hA ?_)) (fun h3 => leaf h hA ?_)) (fun h2 => leaf h hA ?_)) (fun h1 => leaf h hA ?_)
  · rw [show decide (sRight a b c) = decide (c ≤ 1000) from decide_eq_decide.2 ⟨fun hh => hh.2.2.2.2, fun hh => ⟨h1, h2, h3, h4, hh⟩⟩]
  · rw [decide_eq_false (show ¬ sRight a b c from fun hh => h4 hh.2.2.2.1)]
  · rw [decide_eq_false (show ¬ sRight a b c from fun hh => h3 hh.2.2.1)]
  · rw [decide_eq_false (show ¬ sRight a b c from fun hh => h2 hh.2.1)]
  · rw [decide_eq_false (show ¬ sRight a b c from fun hh => h1 hh.1)]

end Go.Vc.S

/- Own text of this claim: Sr5. -/
set_option maxRecDepth 20000
namespace Go.Vc.S
open Go Go.Vc Go.RowKit Go.Proofs Vcs

theorem c104 (a b c : Int) (ha : 0 ≤ a ∧ a < 18446744073709551616) (hb : 0 ≤ b ∧ b < 18446744073709551616) (hc : 0 ≤ c ∧ c < 18446744073709551616) (w : World) :
    RetQ Try.prog 104 #[.int .i64 a, .int .i64 b, .int .i64 c] w (fun v w' => ∃ l : List Int, w'.ownsRow w.heap.size 3 1 v l.length (l.flatMap one) ∧ Dig l ∧ l.length = 24 ∧ val l = a * b * c) := by
  intro R h
  refine f104_calls a b c w R ?_
  unfold f104_vc
  have hA := At.refl w
  rw [wrap_u64_id ha.1 ha.2, wrap_u64_id hb.1 hb.2, wrap_u64_id hc.1 hc.2]
  obtain ⟨p0, v0, l0⟩ := dig128 ha
  obtain ⟨p1, v1, l1⟩ := dig128 hb
  obtain ⟨p2, v2, l2⟩ := dig128 hc
  refine at_calll hA (c109 0 a (by decide) ha _) (by simp) fun aa ac wa hA hk hb1 hoa hsa => ⟨_, _, _, rfl, ?_⟩
  refine at_calll hA (c109 0 b (by decide) hb _) (by simp) fun ba bc wb hA hk hb2 hob hsb => ⟨_, _, _, rfl, ?_⟩
  refine at_callq hA (c108 _ (hsa.call hb2) hsb p0 p1 (by omega) (by omega)) fun v wx hA hk hb3 hq => ?_
  obtain ⟨X, hx, dX, lX, vX⟩ := hq
  have hoX : OwnL w [] wx 3 1 one v X := OwnL.ret (by assumption) hx rfl rfl
  obtain ⟨xa, xc, rfl, hsX⟩ := hoX.slice (by simp)
  refine ⟨_, _, _, rfl, ?_⟩
  refine at_calll hA (c109 0 c (by decide) hc _) (by simp) fun ca cc wc hA hk hb4 hoc hsc => ⟨_, _, _, rfl, ?_⟩
  refine at_callq hA (c108 _ (hsX.call hb4) hsc dX p2 (by omega) (by omega)) fun v wy hA hk hb5 hq => ?_
  obtain ⟨Y, hy, dY, lY, vY⟩ := hq
  have hoY : OwnL w [] wy 3 1 one v Y := OwnL.ret (by assumption) hy rfl rfl
  obtain ⟨ya, yc, rfl, hsY⟩ := hoY.slice (by simp)
  refine ⟨_, _, _, rfl, ?_⟩
  refine h _ wy hA.below ⟨Y, hoY.row, dY, by omega, ?_⟩
  rw [vY, vX, v0, v1, v2]

theorem c94 (a0 a1 a2 b0 b1 b2 : Int) (w : World) : Ret Try.prog 94 #[fracV a0 a1, .int .i64 a2, fracV b0 b1, .int .i64 b2] w (.int .i64 (sCmp a0 a1 a2 b0 b1 b2)) := by
  intro R h
  refine f94_calls a0 a1 a2 b0 b1 b2 w R ?_
  unfold f94_vc
  have hA := At.refl w
  refine go_n hA fun n1 h1 => ?_
  refine go_n hA fun n2 h2 => ?_
  refine go_below hA fun w3 hA => ?_
  refine at_call hA (c103 _ _ _ _) (fun _ hA hk => ⟨_, rfl, hk, ?_⟩)
  refine brND (fun hr => leaf h hA (by rw [sCmp, if_neg (fun hh => hr hh.1)])) (fun hr => ?_)
  refine at_call hA (c103 _ _ _ _) (fun _ hA hk => ⟨_, rfl, hk, ?_⟩)
  refine brND (fun hs => leaf h hA (by rw [sCmp, if_neg (fun hh => hs hh.2)])) (fun hs => ?_)
  rw [sCmp, if_pos ⟨hr, hs⟩] at h
  obtain ⟨⟨p0, p1⟩, p2, p3, p4, p5⟩ := hr
  obtain ⟨⟨q0, q1⟩, q2, q3, q4, q5⟩ := hs
  refine go_below hA fun w10 hA => ?_
  refine at_callq hA (c104 a0 b1 b2 (by omega) (by omega) (by omega) _) fun v wx hA hk hb3 hq => ?_
  obtain ⟨X, hx, dX, lX, vX⟩ := hq
  have hoX : OwnL w [n1, n2] wx 3 1 one v X := OwnL.ret (by assumption) hx rfl rfl
  obtain ⟨xa, xc, rfl, hsX⟩ := hoX.slice (by simp)
  refine ⟨_, _, _, rfl, hk, ?_⟩
  refine at_callq hA (c104 b0 a1 a2 (by omega) (by omega) (by omega) _) fun v wy hA hk hb4 hq => ?_
  obtain ⟨Y, hy, dY, lY, vY⟩ := hq
  have hoY : OwnL w [n1, n2] wy 3 1 one v Y := OwnL.ret (by assumption) hy rfl rfl
  obtain ⟨ya, yc, rfl, hsY⟩ := hoY.slice (by simp)
  refine ⟨_, _, _, rfl, hk, ?_⟩
  have hsX' := hsX.call hb4
  rw [Int.mul_assoc] at vX vY
  rw [← vX, ← vY] at h
  refine at_callq (Q := fun v w' => v = .bool (decide (val X < val Y))) hA (fun R h => c105 _ hsX' hsY dX dY (by omega) R fun w' hb => h _ w' hb rfl) (fun v w' hA hk hb hv => ?_)
  subst hv
  refine ⟨_, rfl, hk, ?_⟩
  refine brD (fun hlt => ?_) (fun hge => ?_)
  · refine leaf h hA ?_
    rw [cmpI, if_neg (by omega), if_pos hlt]
  · refine at_call hA (c105 _ (hsY.call hb) (hsX'.call hb) dY dX (by omega)) (fun _ hA hk => ⟨_, rfl, hk, ?_⟩)
    refine brD (fun hlt => ?_) (fun hge => ?_)
    · refine leaf h hA ?_
      rw [cmpI, if_neg (by omega), if_neg (by omega)]
    · refine leaf h hA ?_
      rw [cmpI, if_pos (by omega)]
end Go.Vc.S

/- Own text of this claim: Sr7. -/
set_option maxRecDepth 20000
namespace Go.Vc.S
open Go Go.Vc Go.RowKit Go.Proofs Vcs

theorem c92 (a b c d : Int) (w : World) : Ret Try.prog 92 #[arrV a b c d] w (.bool (decide (sumR a b c d))) := by
  intro R h
  refine f92_calls a b c d w R ?_
  unfold f92_vc
  have hA := At.refl w
  refine go_n hA fun n1 h_n1 => ?_
  have no : ¬ sumR a b c d → ∀ W, At w [n1] W → R (.returned (.bool false)) W := fun hn W hA => leaf h hA (by rw [decide_eq_false hn])
  unfold sumR at no
  refine brD (fun h1 => go_below hA fun _ hA => no (by omega) _ hA) (fun h1 => ?_)
  refine brD (fun h2 => go_below hA fun _ hA => no (by omega) _ hA) (fun h2 => ?_)
  refine brD (fun h3 => go_below hA fun _ hA => no (by omega) _ hA) (fun h3 => ?_)
  refine brD (fun h4 => go_below hA fun _ hA => no (by omega) _ hA) (fun h4 => ?_)
  refine brD (fun h5 => go_below hA fun _ hA => no (by omega) _ hA) (fun h5 => ?_)
  refine brD (fun h6 => go_below hA fun _ hA => no (by omega) _ hA) (fun h6 => ?_)
  refine brD (fun h7 => go_below hA fun _ hA => no (by omega) _ hA) (fun h7 => ?_)
  refine brD (fun h8 => go_below hA fun _ hA => no (by omega) _ hA) (fun h8 => ?_)
  refine go_below hA fun _ hA => ?_
  exact leaf h hA (by rw [decide_eq_true (show sumR a b c d by unfold sumR; omega)])

theorem c93 (a0 a1 a2 a3 b0 b1 b2 b3 : Int) (w : World) : Ret Try.prog 93 #[arrV a0 a1 a2 a3, arrV b0 b1 b2 b3] w (.bool (decide (sumH a0 a1 a2 a3 b0 b1 b2 b3))) := by
  intro R h
  refine f93_calls a0 a1 a2 a3 b0 b1 b2 b3 w R ?_
  unfold f93_vc
  have hA := At.refl w
  refine go_n hA fun n1 h_n1 => ?_
  refine go_n hA fun n2 h_n2 => ?_
  have no : ¬ sumH a0 a1 a2 a3 b0 b1 b2 b3 → ∀ W, At w [n1, n2] W → R (.returned (.bool false)) W := fun hn W hA => leaf h hA (by rw [decide_eq_false hn])
  refine brD (fun h1 => go_below hA fun _ hA => no (fun hh => by have := hh.1; omega) _ hA) (fun h1 => ?_)
  refine brD (fun h2 => go_below hA fun _ hA => no (fun hh => by have := hh.1; omega) _ hA) (fun h2 => ?_)
  refine brD (fun h3 => go_below hA fun _ hA => no (fun hh => by have := hh.1; omega) _ hA) (fun h3 => ?_)
  refine brD (fun h4 => go_below hA fun _ hA => no (fun hh => by have := hh.1; omega) _ hA) (fun h4 => ?_)
  refine go_below hA fun _ hA => ?_
  refine at_call hA (c92 _ _ _ _ _) (fun _ hA hk => ⟨_, rfl, hk, ?_⟩)
  refine brD (fun ha => ?_) (fun ha => no (fun hh => ha hh.2.1) _ hA)
  refine at_call hA (c92 _ _ _ _ _) (fun _ hA hk => ⟨_, rfl, hk, ?_⟩)
  refine leaf h hA ?_
  rw [show decide (sumH a0 a1 a2 a3 b0 b1 b2 b3) = decide (sumR b0 b1 b2 b3) from decide_eq_decide.2 ⟨fun hh => hh.2.2, fun hh => ⟨by omega, ha, hh⟩⟩]

theorem c63 (a0 a1 a2 a3 b0 b1 b2 b3 : Int) (w : World) : Ret Try.prog 63 #[arrV a0 a1 a2 a3, arrV b0 b1 b2 b3] w (sumA a0 a1 a2 a3 b0 b1 b2 b3) := by
  intro R h
  refine f63_calls a0 a1 a2 a3 b0 b1 b2 b3 w R ?_
  unfold f63_vc
  have hA := At.refl w
  refine go_n hA fun n1 h_n1 => ?_
  refine go_n hA fun n2 h_n2 => ?_
  refine go_n hA fun n3 h_n3 => ?_
  refine go_n hA fun n4 h_n4 => ?_
  refine go_below hA fun _ hA => ?_
  refine at_call hA (c92 _ _ _ _ _) (fun _ hA hk => ⟨_, rfl, hk, ?_⟩)
  refine brND (fun hr => go_evo hA (by intro d hd; simp at hd; omega) fun _ hA => leaf h hA (by rw [sumA, if_neg (fun hh => hr hh.1)])) (fun ha => ?_)
  refine at_call hA (c92 _ _ _ _ _) (fun _ hA hk => ⟨_, rfl, hk, ?_⟩)
  refine brND (fun hr => go_evo hA (by intro d hd; simp at hd; omega) fun _ hA => leaf h hA (by rw [sumA, if_neg (fun hh => hr hh.2.1)])) (fun hb => ?_)
  have ha' := ha
  have hb' := hb
  unfold sumR at ha' hb'
  rw [wrap_i64 (x := a0 + b0) (by omega) (by omega), wrap_i64 (x := a1 + b1) (by omega) (by omega), wrap_i64 (x := a2 + b2) (by omega) (by omega), wrap_i64 (x := a3 + b3) (by omega) (by omega)]
  refine go_evo hA (by intro d hd; simp at hd; omega) fun _ hA => ?_
  refine at_call hA (c92 _ _ _ _ _) (fun _ hA hk => ⟨_, rfl, hk, ?_⟩)
  exact brND (fun hr => go_evo hA (by intro d hd; simp at hd; omega) fun _ hA => leaf h hA (by rw [sumA, if_neg (fun hh => hr hh.2.2)])) (fun hc => go_evo hA (by intro d hd; simp at hd; omega) fun _ hA => leaf h hA (by rw [sumA, if_pos ⟨ha, hb, hc⟩]))

theorem c64 (a0 a1 a2 a3 b0 b1 b2 b3 : Int) (w : World) : Ret Try.prog 64 #[arrV a0 a1 a2 a3, arrV b0 b1 b2 b3] w (sumS a0 a1 a2 a3 b0 b1 b2 b3) := by
  intro R h
  refine f64_calls a0 a1 a2 a3 b0 b1 b2 b3 w R ?_
  unfold f64_vc
  have hA := At.refl w
  refine go_n hA fun n1 h_n1 => ?_
  refine go_n hA fun n2 h_n2 => ?_
  refine go_n hA fun n3 h_n3 => ?_
  refine go_n hA fun n4 h_n4 => ?_
  refine go_below hA fun _ hA => ?_
  refine at_call hA (c93 _ _ _ _ _ _ _ _ _) (fun _ hA hk => ⟨_, rfl, hk, ?_⟩)
  refine brND (fun hr => go_evo hA (by intro d hd; simp at hd; omega) fun _ hA => leaf h hA (by rw [sumS, if_neg hr])) (fun ha => ?_)
  have ha' := ha
  unfold sumH sumR at ha'
  rw [wrap_i64 (x := a0 - b0) (by omega) (by omega), wrap_i64 (x := a1 - b1) (by omega) (by omega), wrap_i64 (x := a2 - b2) (by omega) (by omega), wrap_i64 (x := a3 - b3) (by omega) (by omega)]
  refine go_evo hA (by intro d hd; simp at hd; omega) fun _ hA => ?_
  exact leaf h hA (by rw [sumS, if_pos ha])

theorem c67 (a0 a1 a2 a3 t0 t1 t2 t3 : Int) (w : World) : Ret Try.prog 67 #[arrV a0 a1 a2 a3, arrV t0 t1 t2 t3] w (domV (dom a0 a1 a2 a3 t0 t1 t2 t3)) := by
  intro R h
  refine f67_calls a0 a1 a2 a3 t0 t1 t2 t3 w R ?_
  unfold f67_vc
  have hA := At.refl w
  refine go_n hA fun n1 h_n1 => ?_
  refine go_n hA fun n2 h_n2 => ?_
  refine go_n hA fun n3 h_n3 => ?_
  refine go_n hA fun n4 h_n4 => ?_
  refine go_evo hA (by intro d hd; simp at hd; omega) fun _ hA => ?_
  refine at_call hA (c92 _ _ _ _ _) (fun _ hA hk => ⟨_, rfl, hk, ?_⟩)
  refine brND (fun hr => go_evo hA (by intro d hd; simp at hd; omega) fun _ hA => leaf h hA (by rw [dom, if_neg (fun hh => hr hh.1)])) (fun ha => ?_)
  refine at_call hA (c92 _ _ _ _ _) (fun _ hA hk => ⟨_, rfl, hk, ?_⟩)
  refine brND (fun hr => go_evo hA (by intro d hd; simp at hd; omega) fun _ hA => leaf h hA (by rw [dom, if_neg (fun hh => hr hh.2)])) (fun ht => ?_)
  rw [dom, if_pos ⟨ha, ht⟩] at h
  obtain ⟨p0, p1, p2, p3⟩ := ha
  obtain ⟨q0, q1, q2, q3⟩ := ht
  have k0 : dok (-1, 0, 1) := ⟨by decide, by decide, by decide⟩
  have k1 : dok (dstep ((-1, 0, 1)) 0 a0 t0) := dok_step k0 (by omega) p0 q0
  refine ⟨fun s W => At w [n1, n2, n3, n4] W ∧ (s.1, s.2.1, s.2.2.1) = dstep ((-1, 0, 1)) 0 a0 t0, ?_, ?_⟩
  · refine go_n hA fun m h_m => ?_
    refine brD (fun hp => ⟨fun _ => go_evo hA (by intro d hd; simp at hd; omega) fun _ hA => ⟨⟨hA.chg, fun g hg => hA.under g (by simp at hg ⊢; omega)⟩, by rw [dstep, if_pos ⟨hp, .inl rfl⟩]⟩, fun hf => (by cases hf)⟩) (fun hp => go_evo hA (by intro d hd; simp at hd; omega) fun _ hA => ⟨⟨hA.chg, fun g hg => hA.under g (by simp at hg ⊢; omega)⟩, by rw [dstep, if_neg (fun hh => hp hh.1)]⟩)
  intro x0 y0 z0 W0 ⟨hA, hs⟩
  simp only at hs
  have k2 : dok (dstep (dstep ((-1, 0, 1)) 0 a0 t0) 1 a1 t1) := dok_step k1 (by omega) p1 q1
  refine ⟨fun s W => At w [n1, n2, n3, n4] W ∧ (s.1, s.2.1, s.2.2.1) = dstep (dstep ((-1, 0, 1)) 0 a0 t0) 1 a1 t1, ?_, ?_⟩
  · refine go_n hA fun m h_m => ?_
    refine brD (fun hp => ?_) (fun hp => go_evo hA (by intro d hd; simp at hd; omega) fun _ hA => ⟨⟨hA.chg, fun g hg => hA.under g (by simp at hg ⊢; omega)⟩, by rw [dstep, if_neg (fun hh => hp hh.1), ← hs]⟩)
    have k := k1
    rw [← hs] at k
    simp only [dok] at k
    refine brD (fun hn => go_evo hA (by intro d hd; simp at hd; omega) fun _ hA => ⟨⟨hA.chg, fun g hg => hA.under g (by simp at hg ⊢; omega)⟩, by rw [← hs, dstep, if_pos ⟨hp, .inl (by simp only; omega)⟩]⟩) (fun hn => ?_)
    refine go_evo hA (by intro d hd; simp at hd; omega) fun _ hA => ?_
    refine at_call hA (c96 _ _ _ _ ⟨by omega, by omega⟩ ⟨by omega, by omega⟩ ⟨by omega, by omega⟩ ⟨by omega, by omega⟩ _) (fun _ hA hk => ⟨_, rfl, hk, ?_⟩)
    refine brD (fun hc => go_evo hA (by intro d hd; simp at hd; omega) fun _ hA => ⟨⟨hA.chg, fun g hg => hA.under g (by simp at hg ⊢; omega)⟩, by rw [← hs, dstep, if_pos ⟨hp, .inr hc⟩]⟩) (fun hc => ⟨⟨hA.chg, fun g hg => hA.under g (by simp at hg ⊢; omega)⟩, ?_⟩)
    rw [← hs, dstep, if_neg (fun hh => hh.2.elim (fun h1 => by simp only at h1; omega) hc)]
  intro x1 y1 z1 W1 ⟨hA, hs⟩
  simp only at hs
  have k3 : dok (dstep (dstep (dstep ((-1, 0, 1)) 0 a0 t0) 1 a1 t1) 2 a2 t2) := dok_step k2 (by omega) p2 q2
  refine ⟨fun s W => At w [n1, n2, n3, n4] W ∧ (s.1, s.2.1, s.2.2.1) = dstep (dstep (dstep ((-1, 0, 1)) 0 a0 t0) 1 a1 t1) 2 a2 t2, ?_, ?_⟩
  · refine go_n hA fun m h_m => ?_
    refine brD (fun hp => ?_) (fun hp => go_evo hA (by intro d hd; simp at hd; omega) fun _ hA => ⟨⟨hA.chg, fun g hg => hA.under g (by simp at hg ⊢; omega)⟩, by rw [dstep, if_neg (fun hh => hp hh.1), ← hs]⟩)
    have k := k2
    rw [← hs] at k
    simp only [dok] at k
    refine brD (fun hn => go_evo hA (by intro d hd; simp at hd; omega) fun _ hA => ⟨⟨hA.chg, fun g hg => hA.under g (by simp at hg ⊢; omega)⟩, by rw [← hs, dstep, if_pos ⟨hp, .inl (by simp only; omega)⟩]⟩) (fun hn => ?_)
    refine go_evo hA (by intro d hd; simp at hd; omega) fun _ hA => ?_
    refine at_call hA (c96 _ _ _ _ ⟨by omega, by omega⟩ ⟨by omega, by omega⟩ ⟨by omega, by omega⟩ ⟨by omega, by omega⟩ _) (fun _ hA hk => ⟨_, rfl, hk, ?_⟩)
    refine brD (fun hc => go_evo hA (by intro d hd; simp at hd; omega) fun _ hA => ⟨⟨hA.chg, fun g hg => hA.under g (by simp at hg ⊢; omega)⟩, by rw [← hs, dstep, if_pos ⟨hp, .inr hc⟩]⟩) (fun hc => ⟨⟨hA.chg, fun g hg => hA.under g (by simp at hg ⊢; omega)⟩, ?_⟩)
    rw [← hs, dstep, if_neg (fun hh => hh.2.elim (fun h1 => by simp only at h1; omega) hc)]
  intro x2 y2 z2 W2 ⟨hA, hs⟩
  simp only at hs
  have k4 : dok (dstep (dstep (dstep (dstep ((-1, 0, 1)) 0 a0 t0) 1 a1 t1) 2 a2 t2) 3 a3 t3) := dok_step k3 (by omega) p3 q3
  refine ⟨fun s W => At w [n1, n2, n3, n4] W ∧ (s.1, s.2.1, s.2.2.1) = dstep (dstep (dstep (dstep ((-1, 0, 1)) 0 a0 t0) 1 a1 t1) 2 a2 t2) 3 a3 t3, ?_, ?_⟩
  · refine go_n hA fun m h_m => ?_
    refine brD (fun hp => ?_) (fun hp => go_evo hA (by intro d hd; simp at hd; omega) fun _ hA => ⟨⟨hA.chg, fun g hg => hA.under g (by simp at hg ⊢; omega)⟩, by rw [dstep, if_neg (fun hh => hp hh.1), ← hs]⟩)
    have k := k3
    rw [← hs] at k
    simp only [dok] at k
    refine brD (fun hn => go_evo hA (by intro d hd; simp at hd; omega) fun _ hA => ⟨⟨hA.chg, fun g hg => hA.under g (by simp at hg ⊢; omega)⟩, by rw [← hs, dstep, if_pos ⟨hp, .inl (by simp only; omega)⟩]⟩) (fun hn => ?_)
    refine go_evo hA (by intro d hd; simp at hd; omega) fun _ hA => ?_
    refine at_call hA (c96 _ _ _ _ ⟨by omega, by omega⟩ ⟨by omega, by omega⟩ ⟨by omega, by omega⟩ ⟨by omega, by omega⟩ _) (fun _ hA hk => ⟨_, rfl, hk, ?_⟩)
    refine brD (fun hc => go_evo hA (by intro d hd; simp at hd; omega) fun _ hA => ⟨⟨hA.chg, fun g hg => hA.under g (by simp at hg ⊢; omega)⟩, by rw [← hs, dstep, if_pos ⟨hp, .inr hc⟩]⟩) (fun hc => ⟨⟨hA.chg, fun g hg => hA.under g (by simp at hg ⊢; omega)⟩, ?_⟩)
    rw [← hs, dstep, if_neg (fun hh => hh.2.elim (fun h1 => by simp only at h1; omega) hc)]
  intro x3 y3 z3 W3 ⟨hA, hs⟩
  refine go_evo hA (by intro d hd; simp at hd; omega) fun _ hA => leaf h hA ?_
  rw [← hs]

end Go.Vc.S

/- The formulas of functions, printed by a program (VcTool.lean): each is what the generator's formula comes to, by the kernel's reckoning; whoever proves one has the function's contract. -/
set_option maxRecDepth 100000
set_option maxHeartbeats 1000000
set_option linter.unusedVariables false
namespace Vcs
open Go Go.Vc Go.RowKit
/-! (manciple/mancipleref09.M).Do -/
def h20 : Hints := ⟨[2, 3, 4, 8, 9, 11], [62], [25, 32, 39, 43, 46, 55, 79, 84, 86, 91, 94, 97, 113, 75, 20, 109], [], [], [], [], [], []⟩
def f20_vc (m_0 : Int) (m_1 : Int) (m_2 : Int) (m_3 : Int) (m_4a : Option Addr) (m_4n : Nat) (m_4c : Nat) (a_0 : Int) (a_1 : Int) (a_2 : Int) (a_3 : Int) (a_4 : Int) (a_5 : Int) (a_6 : Int) (w : World) (R : Ending → World → Prop) : Prop :=
 ∀ (n1 : Nat),
 w.heap.size ≤ n1 →
 ∀ (n2 : Nat),
 w.heap.size ≤ n2 →
 ∀ (n3 : Nat),
 w.heap.size ≤ n3 →
 ∀ (w4 : World),
 Bel w w4 →
 Under [n1, n2, n3] w4 →
 Calls Proofs.Try.prog 24 #[Value.agg #[Value.int IntKind.i64 m_0, Value.int IntKind.i64 m_1, Value.int IntKind.i64 m_2, Value.int IntKind.i64 m_3, Value.slice m_4a m_4n m_4c], Value.int IntKind.i64 a_1] w4
 fun (e5 : Ending) (w6 : World) =>
 ∃ (x7 : Int),
 e5 = Ending.returned (Value.int IntKind.i64 x7) ∧
 Keeps [n1, n2, n3] w4 w6 ∧
 (decide (a_2 < 1) = true →
 ((a_0 == 0) = true →
 Calls Proofs.Try.prog 60 #[Value.agg #[Value.int IntKind.i64 a_3, Value.int IntKind.i64 a_4, Value.int IntKind.i64 a_5, Value.int IntKind.i64 a_6]] w6 fun (e8 : Ending) (w9 : World) =>
 ∃ (b10 : Bool),
 e8 = Ending.returned (Value.bool b10) ∧
 Keeps [n1, n2, n3] w6 w9 ∧
 ((!b10) = true →
 ∀ (w11 : World),
 Evo [n3] w9 w11 →
 Under [n1, n2, n3] w11 →
 R
 (Ending.returned
 (Value.tuple
 #[Value.agg #[Value.int IntKind.i64 m_0, Value.int IntKind.i64 m_1, Value.int IntKind.i64 m_2, Value.int IntKind.i64 m_3, Value.slice m_4a m_4n m_4c], Value.int IntKind.i64 41]))
 w11) ∧
 ((!b10) = false →
 ∀ (w12 : World),
 Evo [n3] w9 w12 →
 Under [n1, n2, n3] w12 →
 R
 (Ending.returned
 (Value.tuple
 #[Value.agg #[Value.int IntKind.i64 a_3, Value.int IntKind.i64 a_4, Value.int IntKind.i64 a_5, Value.int IntKind.i64 a_6, Value.slice m_4a m_4n m_4c], Value.int IntKind.i64 0]))
 w12)) ∧
 ((a_0 == 0) = false →
 ((a_0 == 1) = true →
 ∀ (w13 : World),
 Evo [n3] w6 w13 →
 Under [n1, n2, n3] w13 →
 R
 (Ending.returned
 (Value.tuple #[Value.agg #[Value.int IntKind.i64 m_0, Value.int IntKind.i64 m_1, Value.int IntKind.i64 m_2, Value.int IntKind.i64 m_3, Value.slice m_4a m_4n m_4c], Value.int IntKind.i64 41]))
 w13) ∧
 ((a_0 == 1) = false →
 (decide (x7 < 0) = true →
 ∀ (w14 : World),
 Evo [n3] w6 w14 →
 Under [n1, n2, n3] w14 →
 R
 (Ending.returned
 (Value.tuple
 #[Value.agg #[Value.int IntKind.i64 m_0, Value.int IntKind.i64 m_1, Value.int IntKind.i64 m_2, Value.int IntKind.i64 m_3, Value.slice m_4a m_4n m_4c], Value.int IntKind.i64 43]))
 w14) ∧
 (decide (x7 < 0) = false →
 ∃ (ad15 : Addr),
 Gives Proofs.Try.prog (Instr.indexAt 52 (Value.slice m_4a m_4n m_4c) (Value.int IntKind.i64 x7)) (Value.pointer (some ad15)) ∧
 ∃ (x16 : Int),
 ∃ (x17 : Int),
 ∃ (x18 : Int),
 ∃ (x19 : Int),
 ∃ (x20 : Int),
 ∃ (x21 : Int),
 ∃ (b22 : Bool),
 Reads Proofs.Try.prog [] (Instr.loadAt 63 (Value.pointer (some ad15))) w6
 (Value.agg
 #[Value.int IntKind.i64 x16, Value.int IntKind.i64 x17, Value.int IntKind.i64 x18, Value.int IntKind.i64 x19, Value.int IntKind.i64 x20, Value.int IntKind.i64 x21,
 Value.bool b22]) ∧
 ∀ (n23 : Nat),
 w6.heap.size ≤ n23 →
 ((a_0 == 2) = true →
 ∀ (w24 : World),
 Evo [n23] w6 w24 →
 Under [n1, n2, n3, n23] w24 →
 Calls Proofs.Try.prog 62
 #[Value.agg #[Value.int IntKind.i64 m_0, Value.int IntKind.i64 m_1, Value.int IntKind.i64 m_2, Value.int IntKind.i64 m_3, Value.slice m_4a m_4n m_4c],
 Value.int IntKind.i64 x7]
 w24 fun (e25 : Ending) (w26 : World) =>
 ∃ (x27 : Int),
 ∃ (x28 : Int),
 ∃ (x29 : Int),
 ∃ (x30 : Int),
 ∃ (a31 : Option Addr),
 ∃ (n32 : Nat),
 ∃ (n33 : Nat),
 e25 =
 Ending.returned
 (Value.agg
 #[Value.int IntKind.i64 x27, Value.int IntKind.i64 x28, Value.int IntKind.i64 x29, Value.int IntKind.i64 x30, Value.slice a31 n32 n33]) ∧
 Keeps [n1, n2, n3, n23] w24 w26 ∧
 ∀ (w34 : World),
 Evo [n3] w26 w34 →
 Under [n1, n2, n3, n23] w34 →
 R
 (Ending.returned
 (Value.tuple
 #[Value.agg
 #[Value.int IntKind.i64 x27, Value.int IntKind.i64 x28, Value.int IntKind.i64 x29, Value.int IntKind.i64 x30,
 Value.slice a31 n32 n33],
 Value.int IntKind.i64 0]))
 w34) ∧
 ((a_0 == 2) = false →
 ((a_0 == 3) = true →
 ∀ (w35 : World),
 Evo [n3, n23] w6 w35 →
 Under [n1, n2, n3, n23] w35 →
 R
 (Ending.returned
 (Value.tuple
 #[Value.agg #[Value.int IntKind.i64 m_0, Value.int IntKind.i64 m_1, Value.int IntKind.i64 m_2, Value.int IntKind.i64 m_3, Value.slice m_4a m_4n m_4c],
 Value.int IntKind.i64 41]))
 w35) ∧
 ((a_0 == 3) = false →
 ((a_0 == 4) = true →
 ∀ (w36 : World),
 Evo [n23, n23] w6 w36 →
 Under [n1, n2, n3, n23] w36 →
 Calls Proofs.Try.prog 61
 #[Value.agg #[Value.int IntKind.i64 m_0, Value.int IntKind.i64 m_1, Value.int IntKind.i64 m_2, Value.int IntKind.i64 m_3, Value.slice m_4a m_4n m_4c],
 Value.int IntKind.i64 x7,
 Value.agg
 #[Value.int IntKind.i64 x16, Value.int IntKind.i64 x17, Value.int IntKind.i64 x18, Value.int IntKind.i64 x19, Value.int IntKind.i64 x20,
 Value.int IntKind.i64 x21, Value.bool true]]
 w36 fun (e37 : Ending) (w38 : World) =>
 ∃ (x39 : Int),
 ∃ (x40 : Int),
 ∃ (x41 : Int),
 ∃ (x42 : Int),
 ∃ (a43 : Option Addr),
 ∃ (n44 : Nat),
 ∃ (n45 : Nat),
 e37 =
 Ending.returned
 (Value.agg
 #[Value.int IntKind.i64 x39, Value.int IntKind.i64 x40, Value.int IntKind.i64 x41, Value.int IntKind.i64 x42,
 Value.slice a43 n44 n45]) ∧
 Keeps [n1, n2, n3, n23] w36 w38 ∧
 ∀ (w46 : World),
 Evo [n3] w38 w46 →
 Under [n1, n2, n3, n23] w46 →
 R
 (Ending.returned
 (Value.tuple
 #[Value.agg
 #[Value.int IntKind.i64 x39, Value.int IntKind.i64 x40, Value.int IntKind.i64 x41, Value.int IntKind.i64 x42,
 Value.slice a43 n44 n45],
 Value.int IntKind.i64 0]))
 w46) ∧
 ((a_0 == 4) = false →
 ((a_0 == 5) = true →
 ∀ (w47 : World),
 Evo [n23, n23] w6 w47 →
 Under [n1, n2, n3, n23] w47 →
 Calls Proofs.Try.prog 61
 #[Value.agg #[Value.int IntKind.i64 m_0, Value.int IntKind.i64 m_1, Value.int IntKind.i64 m_2, Value.int IntKind.i64 m_3, Value.slice m_4a m_4n m_4c],
 Value.int IntKind.i64 x7,
 Value.agg
 #[Value.int IntKind.i64 x16, Value.int IntKind.i64 x17, Value.int IntKind.i64 x18, Value.int IntKind.i64 x19, Value.int IntKind.i64 x20,
 Value.int IntKind.i64 x21, Value.bool false]]
 w47 fun (e48 : Ending) (w49 : World) =>
 ∃ (x50 : Int),
 ∃ (x51 : Int),
 ∃ (x52 : Int),
 ∃ (x53 : Int),
 ∃ (a54 : Option Addr),
 ∃ (n55 : Nat),
 ∃ (n56 : Nat),
 e48 =
 Ending.returned
 (Value.agg
 #[Value.int IntKind.i64 x50, Value.int IntKind.i64 x51, Value.int IntKind.i64 x52, Value.int IntKind.i64 x53,
 Value.slice a54 n55 n56]) ∧
 Keeps [n1, n2, n3, n23] w47 w49 ∧
 ∀ (w57 : World),
 Evo [n3] w49 w57 →
 Under [n1, n2, n3, n23] w57 →
 R
 (Ending.returned
 (Value.tuple
 #[Value.agg
 #[Value.int IntKind.i64 x50, Value.int IntKind.i64 x51, Value.int IntKind.i64 x52, Value.int IntKind.i64 x53,
 Value.slice a54 n55 n56],
 Value.int IntKind.i64 0]))
 w57) ∧
 ((a_0 == 5) = false →
 ((a_0 == 6) = true →
 ∀ (w58 : World),
 Evo [n23] w6 w58 →
 Under [n1, n2, n3, n23] w58 →
 Calls Proofs.Try.prog 63
 #[Value.agg #[Value.int IntKind.i64 x18, Value.int IntKind.i64 x19, Value.int IntKind.i64 x20, Value.int IntKind.i64 x21],
 Value.agg #[Value.int IntKind.i64 a_3, Value.int IntKind.i64 a_4, Value.int IntKind.i64 a_5, Value.int IntKind.i64 a_6]]
 w58 fun (e59 : Ending) (w60 : World) =>
 ∃ (x61 : Int),
 ∃ (x62 : Int),
 ∃ (x63 : Int),
 ∃ (x64 : Int),
 ∃ (b65 : Bool),
 e59 =
 Ending.returned
 (Value.tuple
 #[Value.agg #[Value.int IntKind.i64 x61, Value.int IntKind.i64 x62, Value.int IntKind.i64 x63, Value.int IntKind.i64 x64],
 Value.bool b65]) ∧
 Keeps [n1, n2, n3, n23] w58 w60 ∧
 ∀ (n66 : Nat),
 w60.heap.size ≤ n66 →
 ((!b65) = true →
 ∀ (w67 : World),
 Evo [n3, n66] w60 w67 →
 Under [n1, n2, n3, n23, n66] w67 →
 R
 (Ending.returned
 (Value.tuple
 #[Value.agg
 #[Value.int IntKind.i64 m_0, Value.int IntKind.i64 m_1, Value.int IntKind.i64 m_2,
 Value.int IntKind.i64 m_3, Value.slice m_4a m_4n m_4c],
 Value.int IntKind.i64 41]))
 w67) ∧
 ((!b65) = false →
 ∀ (w68 : World),
 Evo [n66] w60 w68 →
 Under [n1, n2, n3, n23, n66] w68 →
 Calls Proofs.Try.prog 60
 #[Value.agg
 #[Value.int IntKind.i64 x61, Value.int IntKind.i64 x62, Value.int IntKind.i64 x63, Value.int IntKind.i64 x64]]
 w68 fun (e69 : Ending) (w70 : World) =>
 ∃ (b71 : Bool),
 e69 = Ending.returned (Value.bool b71) ∧
 Keeps [n1, n2, n3, n23, n66] w68 w70 ∧
 ((!b71) = true →
 ∀ (w72 : World),
 Evo [n3] w70 w72 →
 Under [n1, n2, n3, n23, n66] w72 →
 R
 (Ending.returned
 (Value.tuple
 #[Value.agg
 #[Value.int IntKind.i64 m_0, Value.int IntKind.i64 m_1, Value.int IntKind.i64 m_2,
 Value.int IntKind.i64 m_3, Value.slice m_4a m_4n m_4c],
 Value.int IntKind.i64 41]))
 w72) ∧
 ((!b71) = false →
 ∀ (w73 : World),
 Evo [n23] w70 w73 →
 Under [n1, n2, n3, n23, n66] w73 →
 Calls Proofs.Try.prog 61
 #[Value.agg
 #[Value.int IntKind.i64 m_0, Value.int IntKind.i64 m_1, Value.int IntKind.i64 m_2,
 Value.int IntKind.i64 m_3, Value.slice m_4a m_4n m_4c],
 Value.int IntKind.i64 x7,
 Value.agg
 #[Value.int IntKind.i64 x16, Value.int IntKind.i64 x17, Value.int IntKind.i64 x61,
 Value.int IntKind.i64 x62, Value.int IntKind.i64 x63, Value.int IntKind.i64 x64,
 Value.bool b22]]
 w73 fun (e74 : Ending) (w75 : World) =>
 ∃ (x76 : Int),
 ∃ (x77 : Int),
 ∃ (x78 : Int),
 ∃ (x79 : Int),
 ∃ (a80 : Option Addr),
 ∃ (n81 : Nat),
 ∃ (n82 : Nat),
 e74 =
 Ending.returned
 (Value.agg
 #[Value.int IntKind.i64 x76, Value.int IntKind.i64 x77,
 Value.int IntKind.i64 x78, Value.int IntKind.i64 x79,
 Value.slice a80 n81 n82]) ∧
 Keeps [n1, n2, n3, n23, n66] w73 w75 ∧
 ∀ (w83 : World),
 Evo [n3] w75 w83 →
 Under [n1, n2, n3, n23, n66] w83 →
 R
 (Ending.returned
 (Value.tuple
 #[Value.agg
 #[Value.int IntKind.i64 x76, Value.int IntKind.i64 x77,
 Value.int IntKind.i64 x78, Value.int IntKind.i64 x79,
 Value.slice a80 n81 n82],
 Value.int IntKind.i64 0]))
 w83))) ∧
 ((a_0 == 6) = false →
 ∀ (w84 : World),
 Evo [n23] w6 w84 →
 Under [n1, n2, n3, n23] w84 →
 Calls Proofs.Try.prog 64
 #[Value.agg #[Value.int IntKind.i64 x18, Value.int IntKind.i64 x19, Value.int IntKind.i64 x20, Value.int IntKind.i64 x21],
 Value.agg #[Value.int IntKind.i64 a_3, Value.int IntKind.i64 a_4, Value.int IntKind.i64 a_5, Value.int IntKind.i64 a_6]]
 w84 fun (e85 : Ending) (w86 : World) =>
 ∃ (x87 : Int),
 ∃ (x88 : Int),
 ∃ (x89 : Int),
 ∃ (x90 : Int),
 ∃ (b91 : Bool),
 e85 =
 Ending.returned
 (Value.tuple
 #[Value.agg #[Value.int IntKind.i64 x87, Value.int IntKind.i64 x88, Value.int IntKind.i64 x89, Value.int IntKind.i64 x90],
 Value.bool b91]) ∧
 Keeps [n1, n2, n3, n23] w84 w86 ∧
 ∀ (n92 : Nat),
 w86.heap.size ≤ n92 →
 ((!b91) = true →
 ∀ (w93 : World),
 Evo [n3, n92] w86 w93 →
 Under [n1, n2, n3, n23, n92] w93 →
 R
 (Ending.returned
 (Value.tuple
 #[Value.agg
 #[Value.int IntKind.i64 m_0, Value.int IntKind.i64 m_1, Value.int IntKind.i64 m_2,
 Value.int IntKind.i64 m_3, Value.slice m_4a m_4n m_4c],
 Value.int IntKind.i64 30]))
 w93) ∧
 ((!b91) = false →
 ∀ (w94 : World),
 Evo [n23, n92] w86 w94 →
 Under [n1, n2, n3, n23, n92] w94 →
 Calls Proofs.Try.prog 61
 #[Value.agg
 #[Value.int IntKind.i64 m_0, Value.int IntKind.i64 m_1, Value.int IntKind.i64 m_2, Value.int IntKind.i64 m_3,
 Value.slice m_4a m_4n m_4c],
 Value.int IntKind.i64 x7,
 Value.agg
 #[Value.int IntKind.i64 x16, Value.int IntKind.i64 x17, Value.int IntKind.i64 x87, Value.int IntKind.i64 x88,
 Value.int IntKind.i64 x89, Value.int IntKind.i64 x90, Value.bool b22]]
 w94 fun (e95 : Ending) (w96 : World) =>
 ∃ (x97 : Int),
 ∃ (x98 : Int),
 ∃ (x99 : Int),
 ∃ (x100 : Int),
 ∃ (a101 : Option Addr),
 ∃ (n102 : Nat),
 ∃ (n103 : Nat),
 e95 =
 Ending.returned
 (Value.agg
 #[Value.int IntKind.i64 x97, Value.int IntKind.i64 x98, Value.int IntKind.i64 x99,
 Value.int IntKind.i64 x100, Value.slice a101 n102 n103]) ∧
 Keeps [n1, n2, n3, n23, n92] w94 w96 ∧
 ∀ (w104 : World),
 Evo [n3] w96 w104 →
 Under [n1, n2, n3, n23, n92] w104 →
 R
 (Ending.returned
 (Value.tuple
 #[Value.agg
 #[Value.int IntKind.i64 x97, Value.int IntKind.i64 x98, Value.int IntKind.i64 x99,
 Value.int IntKind.i64 x100, Value.slice a101 n102 n103],
 Value.int IntKind.i64 0]))
 w104)))))))))) ∧
 (decide (a_2 < 1) = false →
 ((a_0 == 0) = true →
 Calls Proofs.Try.prog 60 #[Value.agg #[Value.int IntKind.i64 a_3, Value.int IntKind.i64 a_4, Value.int IntKind.i64 a_5, Value.int IntKind.i64 a_6]] w6 fun (e105 : Ending) (w106 : World) =>
 ∃ (b107 : Bool),
 e105 = Ending.returned (Value.bool b107) ∧
 Keeps [n1, n2, n3] w6 w106 ∧
 ((!b107) = true →
 ∀ (w108 : World),
 Evo [n3] w106 w108 →
 Under [n1, n2, n3] w108 →
 R
 (Ending.returned
 (Value.tuple
 #[Value.agg #[Value.int IntKind.i64 m_0, Value.int IntKind.i64 m_1, Value.int IntKind.i64 m_2, Value.int IntKind.i64 m_3, Value.slice m_4a m_4n m_4c], Value.int IntKind.i64 41]))
 w108) ∧
 ((!b107) = false →
 ∀ (w109 : World),
 Evo [n3] w106 w109 →
 Under [n1, n2, n3] w109 →
 R
 (Ending.returned
 (Value.tuple
 #[Value.agg #[Value.int IntKind.i64 a_3, Value.int IntKind.i64 a_4, Value.int IntKind.i64 a_5, Value.int IntKind.i64 a_6, Value.slice m_4a m_4n m_4c], Value.int IntKind.i64 0]))
 w109)) ∧
 ((a_0 == 0) = false →
 ((a_0 == 1) = true →
 (decide (a_2 > 1000) = true →
 ∀ (w110 : World),
 Evo [n3] w6 w110 →
 Under [n1, n2, n3] w110 →
 R
 (Ending.returned
 (Value.tuple
 #[Value.agg #[Value.int IntKind.i64 m_0, Value.int IntKind.i64 m_1, Value.int IntKind.i64 m_2, Value.int IntKind.i64 m_3, Value.slice m_4a m_4n m_4c], Value.int IntKind.i64 41]))
 w110) ∧
 (decide (a_2 > 1000) = false →
 (decide (x7 ≥ 0) = true →
 ∀ (w111 : World),
 Evo [n3] w6 w111 →
 Under [n1, n2, n3] w111 →
 R
 (Ending.returned
 (Value.tuple
 #[Value.agg #[Value.int IntKind.i64 m_0, Value.int IntKind.i64 m_1, Value.int IntKind.i64 m_2, Value.int IntKind.i64 m_3, Value.slice m_4a m_4n m_4c], Value.int IntKind.i64 42]))
 w111) ∧
 (decide (x7 ≥ 0) = false →
 Calls Proofs.Try.prog 61
 #[Value.agg #[Value.int IntKind.i64 m_0, Value.int IntKind.i64 m_1, Value.int IntKind.i64 m_2, Value.int IntKind.i64 m_3, Value.slice m_4a m_4n m_4c], Value.int IntKind.i64 (-1),
 Value.agg #[Value.int IntKind.i64 a_1, Value.int IntKind.i64 a_2, Value.int IntKind.i64 0, Value.int IntKind.i64 0, Value.int IntKind.i64 0, Value.int IntKind.i64 0, Value.bool true]]
 w6 fun (e112 : Ending) (w113 : World) =>
 ∃ (x114 : Int),
 ∃ (x115 : Int),
 ∃ (x116 : Int),
 ∃ (x117 : Int),
 ∃ (a118 : Option Addr),
 ∃ (n119 : Nat),
 ∃ (n120 : Nat),
 e112 = Ending.returned (Value.agg #[Value.int IntKind.i64 x114, Value.int IntKind.i64 x115, Value.int IntKind.i64 x116, Value.int IntKind.i64 x117, Value.slice a118 n119 n120]) ∧
 Keeps [n1, n2, n3] w6 w113 ∧
 ∀ (w121 : World),
 Evo [n3] w113 w121 →
 Under [n1, n2, n3] w121 →
 R
 (Ending.returned
 (Value.tuple
 #[Value.agg #[Value.int IntKind.i64 x114, Value.int IntKind.i64 x115, Value.int IntKind.i64 x116, Value.int IntKind.i64 x117, Value.slice a118 n119 n120],
 Value.int IntKind.i64 0]))
 w121))) ∧
 ((a_0 == 1) = false →
 (decide (x7 < 0) = true →
 ∀ (w122 : World),
 Evo [n3] w6 w122 →
 Under [n1, n2, n3] w122 →
 R
 (Ending.returned
 (Value.tuple
 #[Value.agg #[Value.int IntKind.i64 m_0, Value.int IntKind.i64 m_1, Value.int IntKind.i64 m_2, Value.int IntKind.i64 m_3, Value.slice m_4a m_4n m_4c], Value.int IntKind.i64 43]))
 w122) ∧
 (decide (x7 < 0) = false →
 ∃ (ad123 : Addr),
 Gives Proofs.Try.prog (Instr.indexAt 52 (Value.slice m_4a m_4n m_4c) (Value.int IntKind.i64 x7)) (Value.pointer (some ad123)) ∧
 ∃ (x124 : Int),
 ∃ (x125 : Int),
 ∃ (x126 : Int),
 ∃ (x127 : Int),
 ∃ (x128 : Int),
 ∃ (x129 : Int),
 ∃ (b130 : Bool),
 Reads Proofs.Try.prog [] (Instr.loadAt 63 (Value.pointer (some ad123))) w6
 (Value.agg
 #[Value.int IntKind.i64 x124, Value.int IntKind.i64 x125, Value.int IntKind.i64 x126, Value.int IntKind.i64 x127, Value.int IntKind.i64 x128, Value.int IntKind.i64 x129,
 Value.bool b130]) ∧
 ∀ (n131 : Nat),
 w6.heap.size ≤ n131 →
 ((a_0 == 2) = true →
 ∀ (w132 : World),
 Evo [n131] w6 w132 →
 Under [n1, n2, n3, n131] w132 →
 Calls Proofs.Try.prog 62
 #[Value.agg #[Value.int IntKind.i64 m_0, Value.int IntKind.i64 m_1, Value.int IntKind.i64 m_2, Value.int IntKind.i64 m_3, Value.slice m_4a m_4n m_4c],
 Value.int IntKind.i64 x7]
 w132 fun (e133 : Ending) (w134 : World) =>
 ∃ (x135 : Int),
 ∃ (x136 : Int),
 ∃ (x137 : Int),
 ∃ (x138 : Int),
 ∃ (a139 : Option Addr),
 ∃ (n140 : Nat),
 ∃ (n141 : Nat),
 e133 =
 Ending.returned
 (Value.agg
 #[Value.int IntKind.i64 x135, Value.int IntKind.i64 x136, Value.int IntKind.i64 x137, Value.int IntKind.i64 x138,
 Value.slice a139 n140 n141]) ∧
 Keeps [n1, n2, n3, n131] w132 w134 ∧
 ∀ (w142 : World),
 Evo [n3] w134 w142 →
 Under [n1, n2, n3, n131] w142 →
 R
 (Ending.returned
 (Value.tuple
 #[Value.agg
 #[Value.int IntKind.i64 x135, Value.int IntKind.i64 x136, Value.int IntKind.i64 x137, Value.int IntKind.i64 x138,
 Value.slice a139 n140 n141],
 Value.int IntKind.i64 0]))
 w142) ∧
 ((a_0 == 2) = false →
 ((a_0 == 3) = true →
 (decide (a_2 > 1000) = true →
 ∀ (w143 : World),
 Evo [n3, n131] w6 w143 →
 Under [n1, n2, n3, n131] w143 →
 R
 (Ending.returned
 (Value.tuple
 #[Value.agg #[Value.int IntKind.i64 m_0, Value.int IntKind.i64 m_1, Value.int IntKind.i64 m_2, Value.int IntKind.i64 m_3, Value.slice m_4a m_4n m_4c],
 Value.int IntKind.i64 41]))
 w143) ∧
 (decide (a_2 > 1000) = false →
 ∀ (w144 : World),
 Evo [n131, n131] w6 w144 →
 Under [n1, n2, n3, n131] w144 →
 Calls Proofs.Try.prog 61
 #[Value.agg #[Value.int IntKind.i64 m_0, Value.int IntKind.i64 m_1, Value.int IntKind.i64 m_2, Value.int IntKind.i64 m_3, Value.slice m_4a m_4n m_4c],
 Value.int IntKind.i64 x7,
 Value.agg
 #[Value.int IntKind.i64 x124, Value.int IntKind.i64 a_2, Value.int IntKind.i64 x126, Value.int IntKind.i64 x127, Value.int IntKind.i64 x128,
 Value.int IntKind.i64 x129, Value.bool b130]]
 w144 fun (e145 : Ending) (w146 : World) =>
 ∃ (x147 : Int),
 ∃ (x148 : Int),
 ∃ (x149 : Int),
 ∃ (x150 : Int),
 ∃ (a151 : Option Addr),
 ∃ (n152 : Nat),
 ∃ (n153 : Nat),
 e145 =
 Ending.returned
 (Value.agg
 #[Value.int IntKind.i64 x147, Value.int IntKind.i64 x148, Value.int IntKind.i64 x149, Value.int IntKind.i64 x150,
 Value.slice a151 n152 n153]) ∧
 Keeps [n1, n2, n3, n131] w144 w146 ∧
 ∀ (w154 : World),
 Evo [n3] w146 w154 →
 Under [n1, n2, n3, n131] w154 →
 R
 (Ending.returned
 (Value.tuple
 #[Value.agg
 #[Value.int IntKind.i64 x147, Value.int IntKind.i64 x148, Value.int IntKind.i64 x149, Value.int IntKind.i64 x150,
 Value.slice a151 n152 n153],
 Value.int IntKind.i64 0]))
 w154)) ∧
 ((a_0 == 3) = false →
 ((a_0 == 4) = true →
 ∀ (w155 : World),
 Evo [n131, n131] w6 w155 →
 Under [n1, n2, n3, n131] w155 →
 Calls Proofs.Try.prog 61
 #[Value.agg #[Value.int IntKind.i64 m_0, Value.int IntKind.i64 m_1, Value.int IntKind.i64 m_2, Value.int IntKind.i64 m_3, Value.slice m_4a m_4n m_4c],
 Value.int IntKind.i64 x7,
 Value.agg
 #[Value.int IntKind.i64 x124, Value.int IntKind.i64 x125, Value.int IntKind.i64 x126, Value.int IntKind.i64 x127, Value.int IntKind.i64 x128,
 Value.int IntKind.i64 x129, Value.bool true]]
 w155 fun (e156 : Ending) (w157 : World) =>
 ∃ (x158 : Int),
 ∃ (x159 : Int),
 ∃ (x160 : Int),
 ∃ (x161 : Int),
 ∃ (a162 : Option Addr),
 ∃ (n163 : Nat),
 ∃ (n164 : Nat),
 e156 =
 Ending.returned
 (Value.agg
 #[Value.int IntKind.i64 x158, Value.int IntKind.i64 x159, Value.int IntKind.i64 x160, Value.int IntKind.i64 x161,
 Value.slice a162 n163 n164]) ∧
 Keeps [n1, n2, n3, n131] w155 w157 ∧
 ∀ (w165 : World),
 Evo [n3] w157 w165 →
 Under [n1, n2, n3, n131] w165 →
 R
 (Ending.returned
 (Value.tuple
 #[Value.agg
 #[Value.int IntKind.i64 x158, Value.int IntKind.i64 x159, Value.int IntKind.i64 x160, Value.int IntKind.i64 x161,
 Value.slice a162 n163 n164],
 Value.int IntKind.i64 0]))
 w165) ∧
 ((a_0 == 4) = false →
 ((a_0 == 5) = true →
 ∀ (w166 : World),
 Evo [n131, n131] w6 w166 →
 Under [n1, n2, n3, n131] w166 →
 Calls Proofs.Try.prog 61
 #[Value.agg #[Value.int IntKind.i64 m_0, Value.int IntKind.i64 m_1, Value.int IntKind.i64 m_2, Value.int IntKind.i64 m_3, Value.slice m_4a m_4n m_4c],
 Value.int IntKind.i64 x7,
 Value.agg
 #[Value.int IntKind.i64 x124, Value.int IntKind.i64 x125, Value.int IntKind.i64 x126, Value.int IntKind.i64 x127, Value.int IntKind.i64 x128,
 Value.int IntKind.i64 x129, Value.bool false]]
 w166 fun (e167 : Ending) (w168 : World) =>
 ∃ (x169 : Int),
 ∃ (x170 : Int),
 ∃ (x171 : Int),
 ∃ (x172 : Int),
 ∃ (a173 : Option Addr),
 ∃ (n174 : Nat),
 ∃ (n175 : Nat),
 e167 =
 Ending.returned
 (Value.agg
 #[Value.int IntKind.i64 x169, Value.int IntKind.i64 x170, Value.int IntKind.i64 x171, Value.int IntKind.i64 x172,
 Value.slice a173 n174 n175]) ∧
 Keeps [n1, n2, n3, n131] w166 w168 ∧
 ∀ (w176 : World),
 Evo [n3] w168 w176 →
 Under [n1, n2, n3, n131] w176 →
 R
 (Ending.returned
 (Value.tuple
 #[Value.agg
 #[Value.int IntKind.i64 x169, Value.int IntKind.i64 x170, Value.int IntKind.i64 x171, Value.int IntKind.i64 x172,
 Value.slice a173 n174 n175],
 Value.int IntKind.i64 0]))
 w176) ∧
 ((a_0 == 5) = false →
 ((a_0 == 6) = true →
 ∀ (w177 : World),
 Evo [n131] w6 w177 →
 Under [n1, n2, n3, n131] w177 →
 Calls Proofs.Try.prog 63
 #[Value.agg #[Value.int IntKind.i64 x126, Value.int IntKind.i64 x127, Value.int IntKind.i64 x128, Value.int IntKind.i64 x129],
 Value.agg #[Value.int IntKind.i64 a_3, Value.int IntKind.i64 a_4, Value.int IntKind.i64 a_5, Value.int IntKind.i64 a_6]]
 w177 fun (e178 : Ending) (w179 : World) =>
 ∃ (x180 : Int),
 ∃ (x181 : Int),
 ∃ (x182 : Int),
 ∃ (x183 : Int),
 ∃ (b184 : Bool),
 e178 =
 Ending.returned
 (Value.tuple
 #[Value.agg #[Value.int IntKind.i64 x180, Value.int IntKind.i64 x181, Value.int IntKind.i64 x182, Value.int IntKind.i64 x183],
 Value.bool b184]) ∧
 Keeps [n1, n2, n3, n131] w177 w179 ∧
 ∀ (n185 : Nat),
 w179.heap.size ≤ n185 →
 ((!b184) = true →
 ∀ (w186 : World),
 Evo [n3, n185] w179 w186 →
 Under [n1, n2, n3, n131, n185] w186 →
 R
 (Ending.returned
 (Value.tuple
 #[Value.agg
 #[Value.int IntKind.i64 m_0, Value.int IntKind.i64 m_1, Value.int IntKind.i64 m_2,
 Value.int IntKind.i64 m_3, Value.slice m_4a m_4n m_4c],
 Value.int IntKind.i64 41]))
 w186) ∧
 ((!b184) = false →
 ∀ (w187 : World),
 Evo [n185] w179 w187 →
 Under [n1, n2, n3, n131, n185] w187 →
 Calls Proofs.Try.prog 60
 #[Value.agg
 #[Value.int IntKind.i64 x180, Value.int IntKind.i64 x181, Value.int IntKind.i64 x182,
 Value.int IntKind.i64 x183]]
 w187 fun (e188 : Ending) (w189 : World) =>
 ∃ (b190 : Bool),
 e188 = Ending.returned (Value.bool b190) ∧
 Keeps [n1, n2, n3, n131, n185] w187 w189 ∧
 ((!b190) = true →
 ∀ (w191 : World),
 Evo [n3] w189 w191 →
 Under [n1, n2, n3, n131, n185] w191 →
 R
 (Ending.returned
 (Value.tuple
 #[Value.agg
 #[Value.int IntKind.i64 m_0, Value.int IntKind.i64 m_1, Value.int IntKind.i64 m_2,
 Value.int IntKind.i64 m_3, Value.slice m_4a m_4n m_4c],
 Value.int IntKind.i64 41]))
 w191) ∧
 ((!b190) = false →
 ∀ (w192 : World),
 Evo [n131] w189 w192 →
 Under [n1, n2, n3, n131, n185] w192 →
 Calls Proofs.Try.prog 61
 #[Value.agg
 #[Value.int IntKind.i64 m_0, Value.int IntKind.i64 m_1, Value.int IntKind.i64 m_2,
 Value.int IntKind.i64 m_3, Value.slice m_4a m_4n m_4c],
 Value.int IntKind.i64 x7,
 Value.agg
 #[Value.int IntKind.i64 x124, Value.int IntKind.i64 x125, Value.int IntKind.i64 x180,
 Value.int IntKind.i64 x181, Value.int IntKind.i64 x182, Value.int IntKind.i64 x183,
 Value.bool b130]]
 w192 fun (e193 : Ending) (w194 : World) =>
 ∃ (x195 : Int),
 ∃ (x196 : Int),
 ∃ (x197 : Int),
 ∃ (x198 : Int),
 ∃ (a199 : Option Addr),
 ∃ (n200 : Nat),
 ∃ (n201 : Nat),
 e193 =
 Ending.returned
 (Value.agg
 #[Value.int IntKind.i64 x195, Value.int IntKind.i64 x196,
 Value.int IntKind.i64 x197, Value.int IntKind.i64 x198,
 Value.slice a199 n200 n201]) ∧
 Keeps [n1, n2, n3, n131, n185] w192 w194 ∧
 ∀ (w202 : World),
 Evo [n3] w194 w202 →
 Under [n1, n2, n3, n131, n185] w202 →
 R
 (Ending.returned
 (Value.tuple
 #[Value.agg
 #[Value.int IntKind.i64 x195, Value.int IntKind.i64 x196,
 Value.int IntKind.i64 x197, Value.int IntKind.i64 x198,
 Value.slice a199 n200 n201],
 Value.int IntKind.i64 0]))
 w202))) ∧
 ((a_0 == 6) = false →
 ∀ (w203 : World),
 Evo [n131] w6 w203 →
 Under [n1, n2, n3, n131] w203 →
 Calls Proofs.Try.prog 64
 #[Value.agg #[Value.int IntKind.i64 x126, Value.int IntKind.i64 x127, Value.int IntKind.i64 x128, Value.int IntKind.i64 x129],
 Value.agg #[Value.int IntKind.i64 a_3, Value.int IntKind.i64 a_4, Value.int IntKind.i64 a_5, Value.int IntKind.i64 a_6]]
 w203 fun (e204 : Ending) (w205 : World) =>
 ∃ (x206 : Int),
 ∃ (x207 : Int),
 ∃ (x208 : Int),
 ∃ (x209 : Int),
 ∃ (b210 : Bool),
 e204 =
 Ending.returned
 (Value.tuple
 #[Value.agg #[Value.int IntKind.i64 x206, Value.int IntKind.i64 x207, Value.int IntKind.i64 x208, Value.int IntKind.i64 x209],
 Value.bool b210]) ∧
 Keeps [n1, n2, n3, n131] w203 w205 ∧
 ∀ (n211 : Nat),
 w205.heap.size ≤ n211 →
 ((!b210) = true →
 ∀ (w212 : World),
 Evo [n3, n211] w205 w212 →
 Under [n1, n2, n3, n131, n211] w212 →
 R
 (Ending.returned
 (Value.tuple
 #[Value.agg
 #[Value.int IntKind.i64 m_0, Value.int IntKind.i64 m_1, Value.int IntKind.i64 m_2,
 Value.int IntKind.i64 m_3, Value.slice m_4a m_4n m_4c],
 Value.int IntKind.i64 30]))
 w212) ∧
 ((!b210) = false →
 ∀ (w213 : World),
 Evo [n131, n211] w205 w213 →
 Under [n1, n2, n3, n131, n211] w213 →
 Calls Proofs.Try.prog 61
 #[Value.agg
 #[Value.int IntKind.i64 m_0, Value.int IntKind.i64 m_1, Value.int IntKind.i64 m_2, Value.int IntKind.i64 m_3,
 Value.slice m_4a m_4n m_4c],
 Value.int IntKind.i64 x7,
 Value.agg
 #[Value.int IntKind.i64 x124, Value.int IntKind.i64 x125, Value.int IntKind.i64 x206,
 Value.int IntKind.i64 x207, Value.int IntKind.i64 x208, Value.int IntKind.i64 x209, Value.bool b130]]
 w213 fun (e214 : Ending) (w215 : World) =>
 ∃ (x216 : Int),
 ∃ (x217 : Int),
 ∃ (x218 : Int),
 ∃ (x219 : Int),
 ∃ (a220 : Option Addr),
 ∃ (n221 : Nat),
 ∃ (n222 : Nat),
 e214 =
 Ending.returned
 (Value.agg
 #[Value.int IntKind.i64 x216, Value.int IntKind.i64 x217, Value.int IntKind.i64 x218,
 Value.int IntKind.i64 x219, Value.slice a220 n221 n222]) ∧
 Keeps [n1, n2, n3, n131, n211] w213 w215 ∧
 ∀ (w223 : World),
 Evo [n3] w215 w223 →
 Under [n1, n2, n3, n131, n211] w223 →
 R
 (Ending.returned
 (Value.tuple
 #[Value.agg
 #[Value.int IntKind.i64 x216, Value.int IntKind.i64 x217,
 Value.int IntKind.i64 x218, Value.int IntKind.i64 x219,
 Value.slice a220 n221 n222],
 Value.int IntKind.i64 0]))
 w223))))))))))
theorem f20_eq (m_0 : Int) (m_1 : Int) (m_2 : Int) (m_3 : Int) (m_4a : Option Addr) (m_4n : Nat) (m_4c : Nat) (a_0 : Int) (a_1 : Int) (a_2 : Int) (a_3 : Int) (a_4 : Int) (a_5 : Int) (a_6 : Int) (w : World) (R : Ending → World → Prop) : (fnF Go.Proofs.Try.prog h20 Go.Proofs.Try.f20 [Value.agg #[Value.int IntKind.i64 m_0, Value.int IntKind.i64 m_1, Value.int IntKind.i64 m_2, Value.int IntKind.i64 m_3, Value.slice m_4a m_4n m_4c],
 Value.agg #[Value.int IntKind.i64 a_0, Value.int IntKind.i64 a_1, Value.int IntKind.i64 a_2, Value.int IntKind.i64 a_3, Value.int IntKind.i64 a_4, Value.int IntKind.i64 a_5, Value.int IntKind.i64 a_6]] w R).den = f20_vc m_0 m_1 m_2 m_3 m_4a m_4n m_4c a_0 a_1 a_2 a_3 a_4 a_5 a_6 w R := by kernel_rfl
theorem f20_calls (m_0 : Int) (m_1 : Int) (m_2 : Int) (m_3 : Int) (m_4a : Option Addr) (m_4n : Nat) (m_4c : Nat) (a_0 : Int) (a_1 : Int) (a_2 : Int) (a_3 : Int) (a_4 : Int) (a_5 : Int) (a_6 : Int) (w : World) (R : Ending → World → Prop) (h : f20_vc m_0 m_1 m_2 m_3 m_4a m_4n m_4c a_0 a_1 a_2 a_3 a_4 a_5 a_6 w R) : Calls Go.Proofs.Try.prog 20 (List.toArray [Value.agg #[Value.int IntKind.i64 m_0, Value.int IntKind.i64 m_1, Value.int IntKind.i64 m_2, Value.int IntKind.i64 m_3, Value.slice m_4a m_4n m_4c],
 Value.agg #[Value.int IntKind.i64 a_0, Value.int IntKind.i64 a_1, Value.int IntKind.i64 a_2, Value.int IntKind.i64 a_3, Value.int IntKind.i64 a_4, Value.int IntKind.i64 a_5, Value.int IntKind.i64 a_6]]) w R :=
 fn_sound (H := h20) (fn := Go.Proofs.Try.f20) (by kernel_rfl) (by kernel_rfl) (by kernel_rfl) ((f20_eq m_0 m_1 m_2 m_3 m_4a m_4n m_4c a_0 a_1 a_2 a_3 a_4 a_5 a_6 w R).mpr h)


/-! (manciple/mancipleref09.M).Order -/
def h21 : Hints := ⟨[1], [32, 40, 45, 54, 66], [12, 19, 26, 48, 61, 35, 57], [(12, [0, 1, 2, 3, 4, 5, 6, 7, 8, 9, 10, 11, 12, 13, 14, 15, 16, 17, 18, 19])], [], [(3, ⟨[(3, .sl), (4, .int .i64)], []⟩), (6, ⟨[(3, .sl), (5, .int .i64)], []⟩), (10, ⟨[(6, .int .i64), (7, .int .i64)], []⟩)], [], [], []⟩
def f21_vc (m_0 : Int) (m_1 : Int) (m_2 : Int) (m_3 : Int) (m_4a : Option Addr) (m_4n : Nat) (m_4c : Nat) (w : World) (R : Ending → World → Prop) : Prop :=
 ∀ (n1 : Nat),
 w.heap.size ≤ n1 →
 ∃ (J2 : (Option Addr × Nat × Nat) × Int × Unit → World → Prop),
 ∃ (J3 : (Option Addr × Nat × Nat) × Int × Unit → World → Nat),
 (∀ (w4 : World), Bel w w4 → Under [n1] w4 → J2 ((none, 0, 0), 0, ()) w4) ∧
 ∀ (a5 : Option Addr) (n6 n7 : Nat) (x8 : Int) (w9 : World),
 J2 ((a5, n6, n7), x8, ()) w9 →
 (decide (x8 < (↑m_4n : Int)) = true →
 ∃ (J10 : (Option Addr × Nat × Nat) × Int × Unit → World → Prop),
 ∃ (J11 : (Option Addr × Nat × Nat) × Int × Unit → World → Nat),
 J10 ((a5, n6, n7), 0, ()) w9 ∧
 ∀ (a12 : Option Addr) (n13 n14 : Nat) (x15 : Int) (w16 : World),
 J10 ((a12, n13, n14), x15, ()) w16 →
 (decide (x15 < (↑m_4n : Int)) = true →
 ∃ (J17 : Int × Int × Unit → World → Prop),
 ∃ (J18 : Int × Int × Unit → World → Nat),
 J17 (0, 0, ()) w16 ∧
 ∀ (x19 x20 : Int) (w21 : World),
 J17 (x19, x20, ()) w21 →
 (decide (x20 < (↑m_4n : Int)) = true →
 ∃ (ad22 : Addr),
 Gives Proofs.Try.prog (Instr.indexAt 52 (Value.slice m_4a m_4n m_4c) (Value.int IntKind.i64 x20)) (Value.pointer (some ad22)) ∧
 ∃ (b23 : Bool),
 Reads Proofs.Try.prog [] (Instr.loadAt 4 (Value.pointer (some (Addr.mk ad22.block (ad22.off + 6) none)))) w21 (Value.bool b23) ∧
 (b23 = true →
 ∃ (ad24 : Addr),
 Gives Proofs.Try.prog (Instr.indexAt 52 (Value.slice m_4a m_4n m_4c) (Value.int IntKind.i64 x20)) (Value.pointer (some ad24)) ∧
 ∃ (x25 : Int),
 ∃ (x26 : Int),
 ∃ (x27 : Int),
 ∃ (x28 : Int),
 ∃ (x29 : Int),
 ∃ (x30 : Int),
 ∃ (b31 : Bool),
 Reads Proofs.Try.prog [] (Instr.loadAt 63 (Value.pointer (some ad24))) w21
 (Value.agg
 #[Value.int IntKind.i64 x25, Value.int IntKind.i64 x26, Value.int IntKind.i64 x27, Value.int IntKind.i64 x28, Value.int IntKind.i64 x29,
 Value.int IntKind.i64 x30, Value.bool b31]) ∧
 ∃ (ad32 : Addr),
 Gives Proofs.Try.prog (Instr.indexAt 52 (Value.slice m_4a m_4n m_4c) (Value.int IntKind.i64 x15)) (Value.pointer (some ad32)) ∧
 ∃ (x33 : Int),
 ∃ (x34 : Int),
 ∃ (x35 : Int),
 ∃ (x36 : Int),
 ∃ (x37 : Int),
 ∃ (x38 : Int),
 ∃ (b39 : Bool),
 Reads Proofs.Try.prog [] (Instr.loadAt 63 (Value.pointer (some ad32))) w21
 (Value.agg
 #[Value.int IntKind.i64 x33, Value.int IntKind.i64 x34, Value.int IntKind.i64 x35, Value.int IntKind.i64 x36, Value.int IntKind.i64 x37,
 Value.int IntKind.i64 x38, Value.bool b39]) ∧
 ∀ (w40 : World),
 Bel w21 w40 →
 Under [n1] w40 →
 Calls Proofs.Try.prog 65
 #[Value.agg
 #[Value.int IntKind.i64 m_0, Value.int IntKind.i64 m_1, Value.int IntKind.i64 m_2, Value.int IntKind.i64 m_3,
 Value.slice m_4a m_4n m_4c],
 Value.agg
 #[Value.int IntKind.i64 x25, Value.int IntKind.i64 x26, Value.int IntKind.i64 x27, Value.int IntKind.i64 x28,
 Value.int IntKind.i64 x29, Value.int IntKind.i64 x30, Value.bool b31],
 Value.agg
 #[Value.int IntKind.i64 x33, Value.int IntKind.i64 x34, Value.int IntKind.i64 x35, Value.int IntKind.i64 x36,
 Value.int IntKind.i64 x37, Value.int IntKind.i64 x38, Value.bool b39]]
 w40 fun (e41 : Ending) (w42 : World) =>
 ∃ (b43 : Bool),
 e41 = Ending.returned (Value.bool b43) ∧
 Keeps [n1] w40 w42 ∧
 Reads Proofs.Try.prog [] (Instr.loadAt 4 (Value.pointer (some (Addr.mk ad22.block (ad22.off + 6) none)))) w42 (Value.bool b23) ∧
 (b43 = true →
 J17 (IntKind.i64.wrap (x19 + 1), IntKind.i64.wrap (x20 + 1), ()) w42 ∧
 J18 (IntKind.i64.wrap (x19 + 1), IntKind.i64.wrap (x20 + 1), ()) w42 < J18 (x19, x20, ()) w21) ∧
 (b43 = false →
 J17 (x19, IntKind.i64.wrap (x20 + 1), ()) w42 ∧ J18 (x19, IntKind.i64.wrap (x20 + 1), ()) w42 < J18 (x19, x20, ()) w21)) ∧
 (b23 = false →
 ∀ (w44 : World), Bel w21 w44 → Under [n1] w44 → J17 (x19, IntKind.i64.wrap (x20 + 1), ()) w44 ∧ J18 (x19, IntKind.i64.wrap (x20 + 1), ()) w44 < J18 (x19, x20, ()) w21)) ∧
 (decide (x20 < (↑m_4n : Int)) = false →
 ∃ (ad45 : Addr),
 Gives Proofs.Try.prog (Instr.indexAt 52 (Value.slice m_4a m_4n m_4c) (Value.int IntKind.i64 x15)) (Value.pointer (some ad45)) ∧
 ∃ (b46 : Bool),
 Reads Proofs.Try.prog [] (Instr.loadAt 4 (Value.pointer (some (Addr.mk ad45.block (ad45.off + 6) none)))) w21 (Value.bool b46) ∧
 (b46 = true →
 ((x19 == x8) = true →
 ∃ (ad47 : Addr),
 Gives Proofs.Try.prog (Instr.indexAt 52 (Value.slice m_4a m_4n m_4c) (Value.int IntKind.i64 x15)) (Value.pointer (some ad47)) ∧
 ∃ (x48 : Int),
 Reads Proofs.Try.prog [] (Instr.loadAt 2 (Value.pointer (some ad47))) w21 (Value.int IntKind.i64 x48) ∧
 OpW Proofs.Try.prog (valueS (Instr.buildSlice 29 1 #[(0, Value.int IntKind.i64 x48)])) w21 fun (v49 : Value) (w50 : World) =>
 ∃ (a51 : Option Addr),
 ∃ (n52 : Nat),
 ∃ (n53 : Nat),
 v49 = Value.slice a51 n52 n53 ∧
 Keeps [n1] w21 w50 ∧
 OpW Proofs.Try.prog (builtin Builtin.append #[29, 29] 29 #[false, false] #[Value.slice a12 n13 n14, Value.slice a51 n52 n53]) w50
 fun (v54 : Value) (w55 : World) =>
 ∃ (a56 : Option Addr),
 ∃ (n57 : Nat),
 ∃ (n58 : Nat),
 v54 = Value.slice a56 n57 n58 ∧
 Keeps [n1] w50 w55 ∧
 J10 ((a56, n57, n58), IntKind.i64.wrap (x15 + 1), ()) w55 ∧
 J11 ((a56, n57, n58), IntKind.i64.wrap (x15 + 1), ()) w55 < J11 ((a12, n13, n14), x15, ()) w16) ∧
 ((x19 == x8) = false →
 J10 ((a12, n13, n14), IntKind.i64.wrap (x15 + 1), ()) w21 ∧ J11 ((a12, n13, n14), IntKind.i64.wrap (x15 + 1), ()) w21 < J11 ((a12, n13, n14), x15, ()) w16)) ∧
 (b46 = false → J10 ((a12, n13, n14), IntKind.i64.wrap (x15 + 1), ()) w21 ∧ J11 ((a12, n13, n14), IntKind.i64.wrap (x15 + 1), ()) w21 < J11 ((a12, n13, n14), x15, ()) w16))) ∧
 (decide (x15 < (↑m_4n : Int)) = false → J2 ((a12, n13, n14), IntKind.i64.wrap (x8 + 1), ()) w16 ∧ J3 ((a12, n13, n14), IntKind.i64.wrap (x8 + 1), ()) w16 < J3 ((a5, n6, n7), x8, ()) w9)) ∧
 (decide (x8 < (↑m_4n : Int)) = false → R (Ending.returned (Value.slice a5 n6 n7)) w9)
theorem f21_eq (m_0 : Int) (m_1 : Int) (m_2 : Int) (m_3 : Int) (m_4a : Option Addr) (m_4n : Nat) (m_4c : Nat) (w : World) (R : Ending → World → Prop) : (fnF Go.Proofs.Try.prog h21 Go.Proofs.Try.f21 [Value.agg #[Value.int IntKind.i64 m_0, Value.int IntKind.i64 m_1, Value.int IntKind.i64 m_2, Value.int IntKind.i64 m_3, Value.slice m_4a m_4n m_4c]] w R).den = f21_vc m_0 m_1 m_2 m_3 m_4a m_4n m_4c w R := by kernel_rfl
theorem f21_calls (m_0 : Int) (m_1 : Int) (m_2 : Int) (m_3 : Int) (m_4a : Option Addr) (m_4n : Nat) (m_4c : Nat) (w : World) (R : Ending → World → Prop) (h : f21_vc m_0 m_1 m_2 m_3 m_4a m_4n m_4c w R) : Calls Go.Proofs.Try.prog 21 (List.toArray [Value.agg #[Value.int IntKind.i64 m_0, Value.int IntKind.i64 m_1, Value.int IntKind.i64 m_2, Value.int IntKind.i64 m_3, Value.slice m_4a m_4n m_4c]]) w R :=
 fn_sound (H := h21) (fn := Go.Proofs.Try.f21) (by kernel_rfl) (by kernel_rfl) (by kernel_rfl) ((f21_eq m_0 m_1 m_2 m_3 m_4a m_4n m_4c w R).mpr h)


/-! (manciple/mancipleref09.M).At -/
def h24 : Hints := ⟨[2], [16], [10, 20], [], [], [(2, ⟨[(5, .int .i64)], []⟩)], [], [], []⟩
def f24_vc (m_0 : Int) (m_1 : Int) (m_2 : Int) (m_3 : Int) (m_4a : Option Addr) (m_4n : Nat) (m_4c : Nat) (id : Int) (w : World) (R : Ending → World → Prop) : Prop :=
 ∀ (n1 : Nat),
 w.heap.size ≤ n1 →
 ∃ (J2 : Int × Unit → World → Prop),
 ∃ (J3 : Int × Unit → World → Nat),
 (∀ (w4 : World), Bel w w4 → Under [n1] w4 → J2 (0, ()) w4) ∧
 ∀ (x5 : Int) (w6 : World),
 J2 (x5, ()) w6 →
 (decide (x5 < (↑m_4n : Int)) = true →
 ∃ (ad7 : Addr),
 Gives Proofs.Try.prog (Instr.indexAt 52 (Value.slice m_4a m_4n m_4c) (Value.int IntKind.i64 x5)) (Value.pointer (some ad7)) ∧
 ∃ (x8 : Int),
 Reads Proofs.Try.prog [] (Instr.loadAt 2 (Value.pointer (some ad7))) w6 (Value.int IntKind.i64 x8) ∧
 ((x8 == id) = true → R (Ending.returned (Value.int IntKind.i64 x5)) w6) ∧ ((x8 == id) = false → J2 (IntKind.i64.wrap (x5 + 1), ()) w6 ∧ J3 (IntKind.i64.wrap (x5 + 1), ()) w6 < J3 (x5, ()) w6)) ∧
 (decide (x5 < (↑m_4n : Int)) = false → R (Ending.returned (Value.int IntKind.i64 (-1))) w6)
theorem f24_eq (m_0 : Int) (m_1 : Int) (m_2 : Int) (m_3 : Int) (m_4a : Option Addr) (m_4n : Nat) (m_4c : Nat) (id : Int) (w : World) (R : Ending → World → Prop) : (fnF Go.Proofs.Try.prog h24 Go.Proofs.Try.f24 [Value.agg #[Value.int IntKind.i64 m_0, Value.int IntKind.i64 m_1, Value.int IntKind.i64 m_2, Value.int IntKind.i64 m_3, Value.slice m_4a m_4n m_4c], Value.int IntKind.i64 id] w R).den = f24_vc m_0 m_1 m_2 m_3 m_4a m_4n m_4c id w R := by kernel_rfl
theorem f24_calls (m_0 : Int) (m_1 : Int) (m_2 : Int) (m_3 : Int) (m_4a : Option Addr) (m_4n : Nat) (m_4c : Nat) (id : Int) (w : World) (R : Ending → World → Prop) (h : f24_vc m_0 m_1 m_2 m_3 m_4a m_4n m_4c id w R) : Calls Go.Proofs.Try.prog 24 (List.toArray [Value.agg #[Value.int IntKind.i64 m_0, Value.int IntKind.i64 m_1, Value.int IntKind.i64 m_2, Value.int IntKind.i64 m_3, Value.slice m_4a m_4n m_4c], Value.int IntKind.i64 id]) w R :=
 fn_sound (H := h24) (fn := Go.Proofs.Try.f24) (by kernel_rfl) (by kernel_rfl) (by kernel_rfl) ((f24_eq m_0 m_1 m_2 m_3 m_4a m_4n m_4c id w R).mpr h)


/-! (manciple/mancipleref09.M).Part -/
def h25 : Hints := ⟨[2, 3, 4, 6], [], [], [], [], [], [], [], []⟩
def f25_vc (m_0 : Int) (m_1 : Int) (m_2 : Int) (m_3 : Int) (m_4a : Option Addr) (m_4n : Nat) (m_4c : Nat) (c_0 : Int) (c_1 : Int) (c_2 : Int) (c_3 : Int) (c_4 : Int) (c_5 : Int) (c_6 : Bool) (w : World) (R : Ending → World → Prop) : Prop :=
 ∀ (n1 : Nat),
 w.heap.size ≤ n1 →
 ∀ (n2 : Nat),
 w.heap.size ≤ n2 →
 ∀ (n3 : Nat),
 w.heap.size ≤ n3 →
 ∀ (w4 : World),
 Bel w w4 →
 Under [n1, n2, n3] w4 →
 Calls Proofs.Try.prog 67
 #[Value.agg #[Value.int IntKind.i64 c_2, Value.int IntKind.i64 c_3, Value.int IntKind.i64 c_4, Value.int IntKind.i64 c_5],
 Value.agg #[Value.int IntKind.i64 m_0, Value.int IntKind.i64 m_1, Value.int IntKind.i64 m_2, Value.int IntKind.i64 m_3]]
 w4 fun (e5 : Ending) (w6 : World) =>
 ∃ (x7 : Int),
 ∃ (x8 : Int),
 ∃ (x9 : Int),
 e5 = Ending.returned (Value.tuple #[Value.int IntKind.i64 x7, Value.agg #[Value.int IntKind.i64 x8, Value.int IntKind.i64 x9]]) ∧
 Keeps [n1, n2, n3] w4 w6 ∧
 ∀ (n10 : Nat), w6.heap.size ≤ n10 → ∀ (w11 : World), Evo [n3, n10] w6 w11 → Under [n1, n2, n3, n10] w11 → R (Ending.returned (Value.agg #[Value.int IntKind.i64 x8, Value.int IntKind.i64 x9])) w11
theorem f25_eq (m_0 : Int) (m_1 : Int) (m_2 : Int) (m_3 : Int) (m_4a : Option Addr) (m_4n : Nat) (m_4c : Nat) (c_0 : Int) (c_1 : Int) (c_2 : Int) (c_3 : Int) (c_4 : Int) (c_5 : Int) (c_6 : Bool) (w : World) (R : Ending → World → Prop) : (fnF Go.Proofs.Try.prog h25 Go.Proofs.Try.f25 [Value.agg #[Value.int IntKind.i64 m_0, Value.int IntKind.i64 m_1, Value.int IntKind.i64 m_2, Value.int IntKind.i64 m_3, Value.slice m_4a m_4n m_4c],
 Value.agg #[Value.int IntKind.i64 c_0, Value.int IntKind.i64 c_1, Value.int IntKind.i64 c_2, Value.int IntKind.i64 c_3, Value.int IntKind.i64 c_4, Value.int IntKind.i64 c_5, Value.bool c_6]] w R).den = f25_vc m_0 m_1 m_2 m_3 m_4a m_4n m_4c c_0 c_1 c_2 c_3 c_4 c_5 c_6 w R := by kernel_rfl
theorem f25_calls (m_0 : Int) (m_1 : Int) (m_2 : Int) (m_3 : Int) (m_4a : Option Addr) (m_4n : Nat) (m_4c : Nat) (c_0 : Int) (c_1 : Int) (c_2 : Int) (c_3 : Int) (c_4 : Int) (c_5 : Int) (c_6 : Bool) (w : World) (R : Ending → World → Prop) (h : f25_vc m_0 m_1 m_2 m_3 m_4a m_4n m_4c c_0 c_1 c_2 c_3 c_4 c_5 c_6 w R) : Calls Go.Proofs.Try.prog 25 (List.toArray [Value.agg #[Value.int IntKind.i64 m_0, Value.int IntKind.i64 m_1, Value.int IntKind.i64 m_2, Value.int IntKind.i64 m_3, Value.slice m_4a m_4n m_4c],
 Value.agg #[Value.int IntKind.i64 c_0, Value.int IntKind.i64 c_1, Value.int IntKind.i64 c_2, Value.int IntKind.i64 c_3, Value.int IntKind.i64 c_4, Value.int IntKind.i64 c_5, Value.bool c_6]]) w R :=
 fn_sound (H := h25) (fn := Go.Proofs.Try.f25) (by kernel_rfl) (by kernel_rfl) (by kernel_rfl) ((f25_eq m_0 m_1 m_2 m_3 m_4a m_4n m_4c c_0 c_1 c_2 c_3 c_4 c_5 c_6 w R).mpr h)


/-! manciple/mancipleref09.Small -/
def h60 : Hints := ⟨[1], [9, 14], [17, 12], [], [(2, 5)], [], [], [], []⟩
def f60_vc (a_0 : Int) (a_1 : Int) (a_2 : Int) (a_3 : Int) (w : World) (R : Ending → World → Prop) : Prop :=
 ∀ (n1 : Nat),
 w.heap.size ≤ n1 →
 (decide (a_0 < 0) = true → ∀ (w2 : World), Bel w w2 → Under [n1] w2 → R (Ending.returned (Value.bool false)) w2) ∧
 (decide (a_0 < 0) = false →
 (decide (a_0 > 9007199254740992) = true → ∀ (w3 : World), Bel w w3 → Under [n1] w3 → R (Ending.returned (Value.bool false)) w3) ∧
 (decide (a_0 > 9007199254740992) = false →
 (decide (a_1 < 0) = true → ∀ (w4 : World), Bel w w4 → Under [n1] w4 → R (Ending.returned (Value.bool false)) w4) ∧
 (decide (a_1 < 0) = false →
 (decide (a_1 > 9007199254740992) = true → ∀ (w5 : World), Bel w w5 → Under [n1] w5 → R (Ending.returned (Value.bool false)) w5) ∧
 (decide (a_1 > 9007199254740992) = false →
 (decide (a_2 < 0) = true → ∀ (w6 : World), Bel w w6 → Under [n1] w6 → R (Ending.returned (Value.bool false)) w6) ∧
 (decide (a_2 < 0) = false →
 (decide (a_2 > 9007199254740992) = true → ∀ (w7 : World), Bel w w7 → Under [n1] w7 → R (Ending.returned (Value.bool false)) w7) ∧
 (decide (a_2 > 9007199254740992) = false →
 (decide (a_3 < 0) = true → ∀ (w8 : World), Bel w w8 → Under [n1] w8 → R (Ending.returned (Value.bool false)) w8) ∧
 (decide (a_3 < 0) = false →
 (decide (a_3 > 9007199254740992) = true → ∀ (w9 : World), Bel w w9 → Under [n1] w9 → R (Ending.returned (Value.bool false)) w9) ∧
 (decide (a_3 > 9007199254740992) = false → ∀ (w10 : World), Bel w w10 → Under [n1] w10 → R (Ending.returned (Value.bool true)) w10))))))))
theorem f60_eq (a_0 : Int) (a_1 : Int) (a_2 : Int) (a_3 : Int) (w : World) (R : Ending → World → Prop) : (fnF Go.Proofs.Try.prog h60 Go.Proofs.Try.f60 [Value.agg #[Value.int IntKind.i64 a_0, Value.int IntKind.i64 a_1, Value.int IntKind.i64 a_2, Value.int IntKind.i64 a_3]] w R).den = f60_vc a_0 a_1 a_2 a_3 w R := by kernel_rfl
theorem f60_calls (a_0 : Int) (a_1 : Int) (a_2 : Int) (a_3 : Int) (w : World) (R : Ending → World → Prop) (h : f60_vc a_0 a_1 a_2 a_3 w R) : Calls Go.Proofs.Try.prog 60 (List.toArray [Value.agg #[Value.int IntKind.i64 a_0, Value.int IntKind.i64 a_1, Value.int IntKind.i64 a_2, Value.int IntKind.i64 a_3]]) w R :=
 fn_sound (H := h60) (fn := Go.Proofs.Try.f60) (by kernel_rfl) (by kernel_rfl) (by kernel_rfl) ((f60_eq a_0 a_1 a_2 a_3 w R).mpr h)


/-! (manciple/mancipleref09.M).with -/
def h61 : Hints := ⟨[3, 5, 6, 7], [33], [16, 21, 39], [(7, [0, 1, 2, 3, 4, 5, 6, 7, 8, 9, 10])], [], [(3, ⟨[(8, .int .i64)], [(7, .cons (.int .i64) (.cons (.int .i64) (.cons (.int .i64) (.cons (.int .i64) (.cons (.sl) (.nil))))))]⟩)], [], [], []⟩
def f61_vc (m_0 : Int) (m_1 : Int) (m_2 : Int) (m_3 : Int) (m_4a : Option Addr) (m_4n : Nat) (m_4c : Nat) (at' : Int) (c_0 : Int) (c_1 : Int) (c_2 : Int) (c_3 : Int) (c_4 : Int) (c_5 : Int) (c_6 : Bool) (w : World) (R : Ending → World → Prop) : Prop :=
 ∀ (n1 : Nat),
 w.heap.size ≤ n1 →
 ∀ (n2 : Nat),
 w.heap.size ≤ n2 →
 ∀ (n3 : Nat),
 w.heap.size ≤ n3 →
 ∀ (n4 : Nat),
 w.heap.size ≤ n4 →
 ∃ (J5 : Int × Int × Int × Int × Int × (Option Addr × Nat × Nat) × Unit → World → Prop),
 ∃ (J6 : Int × Int × Int × Int × Int × (Option Addr × Nat × Nat) × Unit → World → Nat),
 (∀ (w7 : World), Evo [n4] w w7 → Under [n1, n2, n3, n4] w7 → J5 (0, m_0, m_1, m_2, m_3, (none, 0, 0), ()) w7) ∧
 ∀ (x8 x9 x10 x11 x12 : Int) (a13 : Option Addr) (n14 n15 : Nat) (w16 : World),
 J5 (x8, x9, x10, x11, x12, (a13, n14, n15), ()) w16 →
 (decide (x8 < (↑m_4n : Int)) = true →
 ((x8 == at') = true →
 OpW Proofs.Try.prog
 (valueS
 (Instr.buildSlice 52 1
 #[(0, Value.agg #[Value.int IntKind.i64 c_0, Value.int IntKind.i64 c_1, Value.int IntKind.i64 c_2, Value.int IntKind.i64 c_3, Value.int IntKind.i64 c_4, Value.int IntKind.i64 c_5, Value.bool c_6])]))
 w16 fun (v17 : Value) (w18 : World) =>
 ∃ (a19 : Option Addr),
 ∃ (n20 : Nat),
 ∃ (n21 : Nat),
 v17 = Value.slice a19 n20 n21 ∧
 Keeps [n1, n2, n3, n4] w16 w18 ∧
 OpW Proofs.Try.prog (builtin Builtin.append #[52, 52] 52 #[false, false] #[Value.slice a13 n14 n15, Value.slice a19 n20 n21]) w18 fun (v22 : Value) (w23 : World) =>
 ∃ (a24 : Option Addr),
 ∃ (n25 : Nat),
 ∃ (n26 : Nat),
 v22 = Value.slice a24 n25 n26 ∧
 Keeps [n1, n2, n3, n4] w18 w23 ∧
 ∀ (w27 : World),
 Evo [n4] w23 w27 →
 Under [n1, n2, n3, n4] w27 →
 J5 (IntKind.i64.wrap (x8 + 1), x9, x10, x11, x12, (a24, n25, n26), ()) w27 ∧
 J6 (IntKind.i64.wrap (x8 + 1), x9, x10, x11, x12, (a24, n25, n26), ()) w27 < J6 (x8, x9, x10, x11, x12, (a13, n14, n15), ()) w16) ∧
 ((x8 == at') = false →
 ∃ (ad28 : Addr),
 Gives Proofs.Try.prog (Instr.indexAt 52 (Value.slice m_4a m_4n m_4c) (Value.int IntKind.i64 x8)) (Value.pointer (some ad28)) ∧
 ∃ (x29 : Int),
 ∃ (x30 : Int),
 ∃ (x31 : Int),
 ∃ (x32 : Int),
 ∃ (x33 : Int),
 ∃ (x34 : Int),
 ∃ (b35 : Bool),
 Reads Proofs.Try.prog [] (Instr.loadAt 63 (Value.pointer (some ad28))) w16
 (Value.agg
 #[Value.int IntKind.i64 x29, Value.int IntKind.i64 x30, Value.int IntKind.i64 x31, Value.int IntKind.i64 x32, Value.int IntKind.i64 x33, Value.int IntKind.i64 x34, Value.bool b35]) ∧
 ∀ (w36 : World),
 Bel w16 w36 →
 Under [n1, n2, n3, n4] w36 →
 OpW Proofs.Try.prog
 (valueS
 (Instr.buildSlice 52 1
 #[(0,
 Value.agg
 #[Value.int IntKind.i64 x29, Value.int IntKind.i64 x30, Value.int IntKind.i64 x31, Value.int IntKind.i64 x32, Value.int IntKind.i64 x33, Value.int IntKind.i64 x34,
 Value.bool b35])]))
 w36 fun (v37 : Value) (w38 : World) =>
 ∃ (a39 : Option Addr),
 ∃ (n40 : Nat),
 ∃ (n41 : Nat),
 v37 = Value.slice a39 n40 n41 ∧
 Keeps [n1, n2, n3, n4] w36 w38 ∧
 OpW Proofs.Try.prog (builtin Builtin.append #[52, 52] 52 #[false, false] #[Value.slice a13 n14 n15, Value.slice a39 n40 n41]) w38 fun (v42 : Value) (w43 : World) =>
 ∃ (a44 : Option Addr),
 ∃ (n45 : Nat),
 ∃ (n46 : Nat),
 v42 = Value.slice a44 n45 n46 ∧
 Keeps [n1, n2, n3, n4] w38 w43 ∧
 ∀ (w47 : World),
 Evo [n4] w43 w47 →
 Under [n1, n2, n3, n4] w47 →
 J5 (IntKind.i64.wrap (x8 + 1), x9, x10, x11, x12, (a44, n45, n46), ()) w47 ∧
 J6 (IntKind.i64.wrap (x8 + 1), x9, x10, x11, x12, (a44, n45, n46), ()) w47 < J6 (x8, x9, x10, x11, x12, (a13, n14, n15), ()) w16)) ∧
 (decide (x8 < (↑m_4n : Int)) = false →
 (decide (at' < 0) = true →
 OpW Proofs.Try.prog
 (valueS
 (Instr.buildSlice 52 1
 #[(0, Value.agg #[Value.int IntKind.i64 c_0, Value.int IntKind.i64 c_1, Value.int IntKind.i64 c_2, Value.int IntKind.i64 c_3, Value.int IntKind.i64 c_4, Value.int IntKind.i64 c_5, Value.bool c_6])]))
 w16 fun (v48 : Value) (w49 : World) =>
 ∃ (a50 : Option Addr),
 ∃ (n51 : Nat),
 ∃ (n52 : Nat),
 v48 = Value.slice a50 n51 n52 ∧
 Keeps [n1, n2, n3, n4] w16 w49 ∧
 OpW Proofs.Try.prog (builtin Builtin.append #[52, 52] 52 #[false, false] #[Value.slice a13 n14 n15, Value.slice a50 n51 n52]) w49 fun (v53 : Value) (w54 : World) =>
 ∃ (a55 : Option Addr),
 ∃ (n56 : Nat),
 ∃ (n57 : Nat),
 v53 = Value.slice a55 n56 n57 ∧
 Keeps [n1, n2, n3, n4] w49 w54 ∧
 ∀ (w58 : World),
 Evo [n3, n4] w54 w58 →
 Under [n1, n2, n3, n4] w58 →
 R (Ending.returned (Value.agg #[Value.int IntKind.i64 x9, Value.int IntKind.i64 x10, Value.int IntKind.i64 x11, Value.int IntKind.i64 x12, Value.slice a55 n56 n57])) w58) ∧
 (decide (at' < 0) = false →
 ∀ (w59 : World),
 Evo [n3] w16 w59 →
 Under [n1, n2, n3, n4] w59 → R (Ending.returned (Value.agg #[Value.int IntKind.i64 x9, Value.int IntKind.i64 x10, Value.int IntKind.i64 x11, Value.int IntKind.i64 x12, Value.slice a13 n14 n15])) w59))
theorem f61_eq (m_0 : Int) (m_1 : Int) (m_2 : Int) (m_3 : Int) (m_4a : Option Addr) (m_4n : Nat) (m_4c : Nat) (at' : Int) (c_0 : Int) (c_1 : Int) (c_2 : Int) (c_3 : Int) (c_4 : Int) (c_5 : Int) (c_6 : Bool) (w : World) (R : Ending → World → Prop) : (fnF Go.Proofs.Try.prog h61 Go.Proofs.Try.f61 [Value.agg #[Value.int IntKind.i64 m_0, Value.int IntKind.i64 m_1, Value.int IntKind.i64 m_2, Value.int IntKind.i64 m_3, Value.slice m_4a m_4n m_4c], Value.int IntKind.i64 at',
 Value.agg #[Value.int IntKind.i64 c_0, Value.int IntKind.i64 c_1, Value.int IntKind.i64 c_2, Value.int IntKind.i64 c_3, Value.int IntKind.i64 c_4, Value.int IntKind.i64 c_5, Value.bool c_6]] w R).den = f61_vc m_0 m_1 m_2 m_3 m_4a m_4n m_4c at' c_0 c_1 c_2 c_3 c_4 c_5 c_6 w R := by kernel_rfl
theorem f61_calls (m_0 : Int) (m_1 : Int) (m_2 : Int) (m_3 : Int) (m_4a : Option Addr) (m_4n : Nat) (m_4c : Nat) (at' : Int) (c_0 : Int) (c_1 : Int) (c_2 : Int) (c_3 : Int) (c_4 : Int) (c_5 : Int) (c_6 : Bool) (w : World) (R : Ending → World → Prop) (h : f61_vc m_0 m_1 m_2 m_3 m_4a m_4n m_4c at' c_0 c_1 c_2 c_3 c_4 c_5 c_6 w R) : Calls Go.Proofs.Try.prog 61 (List.toArray [Value.agg #[Value.int IntKind.i64 m_0, Value.int IntKind.i64 m_1, Value.int IntKind.i64 m_2, Value.int IntKind.i64 m_3, Value.slice m_4a m_4n m_4c], Value.int IntKind.i64 at',
 Value.agg #[Value.int IntKind.i64 c_0, Value.int IntKind.i64 c_1, Value.int IntKind.i64 c_2, Value.int IntKind.i64 c_3, Value.int IntKind.i64 c_4, Value.int IntKind.i64 c_5, Value.bool c_6]]) w R :=
 fn_sound (H := h61) (fn := Go.Proofs.Try.f61) (by kernel_rfl) (by kernel_rfl) (by kernel_rfl) ((f61_eq m_0 m_1 m_2 m_3 m_4a m_4n m_4c at' c_0 c_1 c_2 c_3 c_4 c_5 c_6 w R).mpr h)


/-! (manciple/mancipleref09.M).without -/
def h62 : Hints := ⟨[2, 4, 5], [25], [14, 19], [(6, [0, 1, 2, 3, 4, 5, 6, 7, 8, 9, 10])], [], [(3, ⟨[(6, .int .i64)], [(5, .cons (.int .i64) (.cons (.int .i64) (.cons (.int .i64) (.cons (.int .i64) (.cons (.sl) (.nil))))))]⟩)], [], [], []⟩
def f62_vc (m_0 : Int) (m_1 : Int) (m_2 : Int) (m_3 : Int) (m_4a : Option Addr) (m_4n : Nat) (m_4c : Nat) (at' : Int) (w : World) (R : Ending → World → Prop) : Prop :=
 ∀ (n1 : Nat),
 w.heap.size ≤ n1 →
 ∀ (n2 : Nat),
 w.heap.size ≤ n2 →
 ∀ (n3 : Nat),
 w.heap.size ≤ n3 →
 ∃ (J4 : Int × Int × Int × Int × Int × (Option Addr × Nat × Nat) × Unit → World → Prop),
 ∃ (J5 : Int × Int × Int × Int × Int × (Option Addr × Nat × Nat) × Unit → World → Nat),
 (∀ (w6 : World), Evo [n3] w w6 → Under [n1, n2, n3] w6 → J4 (0, m_0, m_1, m_2, m_3, (none, 0, 0), ()) w6) ∧
 ∀ (x7 x8 x9 x10 x11 : Int) (a12 : Option Addr) (n13 n14 : Nat) (w15 : World),
 J4 (x7, x8, x9, x10, x11, (a12, n13, n14), ()) w15 →
 (decide (x7 < (↑m_4n : Int)) = true →
 ((x7 != at') = true →
 ∃ (ad16 : Addr),
 Gives Proofs.Try.prog (Instr.indexAt 52 (Value.slice m_4a m_4n m_4c) (Value.int IntKind.i64 x7)) (Value.pointer (some ad16)) ∧
 ∃ (x17 : Int),
 ∃ (x18 : Int),
 ∃ (x19 : Int),
 ∃ (x20 : Int),
 ∃ (x21 : Int),
 ∃ (x22 : Int),
 ∃ (b23 : Bool),
 Reads Proofs.Try.prog [] (Instr.loadAt 63 (Value.pointer (some ad16))) w15
 (Value.agg
 #[Value.int IntKind.i64 x17, Value.int IntKind.i64 x18, Value.int IntKind.i64 x19, Value.int IntKind.i64 x20, Value.int IntKind.i64 x21, Value.int IntKind.i64 x22, Value.bool b23]) ∧
 ∀ (w24 : World),
 Bel w15 w24 →
 Under [n1, n2, n3] w24 →
 OpW Proofs.Try.prog
 (valueS
 (Instr.buildSlice 52 1
 #[(0,
 Value.agg
 #[Value.int IntKind.i64 x17, Value.int IntKind.i64 x18, Value.int IntKind.i64 x19, Value.int IntKind.i64 x20, Value.int IntKind.i64 x21, Value.int IntKind.i64 x22,
 Value.bool b23])]))
 w24 fun (v25 : Value) (w26 : World) =>
 ∃ (a27 : Option Addr),
 ∃ (n28 : Nat),
 ∃ (n29 : Nat),
 v25 = Value.slice a27 n28 n29 ∧
 Keeps [n1, n2, n3] w24 w26 ∧
 OpW Proofs.Try.prog (builtin Builtin.append #[52, 52] 52 #[false, false] #[Value.slice a12 n13 n14, Value.slice a27 n28 n29]) w26 fun (v30 : Value) (w31 : World) =>
 ∃ (a32 : Option Addr),
 ∃ (n33 : Nat),
 ∃ (n34 : Nat),
 v30 = Value.slice a32 n33 n34 ∧
 Keeps [n1, n2, n3] w26 w31 ∧
 ∀ (w35 : World),
 Evo [n3] w31 w35 →
 Under [n1, n2, n3] w35 →
 J4 (IntKind.i64.wrap (x7 + 1), x8, x9, x10, x11, (a32, n33, n34), ()) w35 ∧
 J5 (IntKind.i64.wrap (x7 + 1), x8, x9, x10, x11, (a32, n33, n34), ()) w35 < J5 (x7, x8, x9, x10, x11, (a12, n13, n14), ()) w15) ∧
 ((x7 != at') = false →
 J4 (IntKind.i64.wrap (x7 + 1), x8, x9, x10, x11, (a12, n13, n14), ()) w15 ∧ J5 (IntKind.i64.wrap (x7 + 1), x8, x9, x10, x11, (a12, n13, n14), ()) w15 < J5 (x7, x8, x9, x10, x11, (a12, n13, n14), ()) w15)) ∧
 (decide (x7 < (↑m_4n : Int)) = false →
 ∀ (w36 : World),
 Evo [n2] w15 w36 →
 Under [n1, n2, n3] w36 → R (Ending.returned (Value.agg #[Value.int IntKind.i64 x8, Value.int IntKind.i64 x9, Value.int IntKind.i64 x10, Value.int IntKind.i64 x11, Value.slice a12 n13 n14])) w36)
theorem f62_eq (m_0 : Int) (m_1 : Int) (m_2 : Int) (m_3 : Int) (m_4a : Option Addr) (m_4n : Nat) (m_4c : Nat) (at' : Int) (w : World) (R : Ending → World → Prop) : (fnF Go.Proofs.Try.prog h62 Go.Proofs.Try.f62 [Value.agg #[Value.int IntKind.i64 m_0, Value.int IntKind.i64 m_1, Value.int IntKind.i64 m_2, Value.int IntKind.i64 m_3, Value.slice m_4a m_4n m_4c], Value.int IntKind.i64 at'] w R).den = f62_vc m_0 m_1 m_2 m_3 m_4a m_4n m_4c at' w R := by kernel_rfl
theorem f62_calls (m_0 : Int) (m_1 : Int) (m_2 : Int) (m_3 : Int) (m_4a : Option Addr) (m_4n : Nat) (m_4c : Nat) (at' : Int) (w : World) (R : Ending → World → Prop) (h : f62_vc m_0 m_1 m_2 m_3 m_4a m_4n m_4c at' w R) : Calls Go.Proofs.Try.prog 62 (List.toArray [Value.agg #[Value.int IntKind.i64 m_0, Value.int IntKind.i64 m_1, Value.int IntKind.i64 m_2, Value.int IntKind.i64 m_3, Value.slice m_4a m_4n m_4c], Value.int IntKind.i64 at']) w R :=
 fn_sound (H := h62) (fn := Go.Proofs.Try.f62) (by kernel_rfl) (by kernel_rfl) (by kernel_rfl) ((f62_eq m_0 m_1 m_2 m_3 m_4a m_4n m_4c at' w R).mpr h)


/-! (manciple/mancipleref09.M).ahead -/
def h65 : Hints := ⟨[3, 4, 5], [], [21, 24], [(1, [0, 1, 3, 4, 5, 6, 8, 9, 2, 7, 10, 11])], [], [], [], [], []⟩
def f65_vc (m_0 : Int) (m_1 : Int) (m_2 : Int) (m_3 : Int) (m_4a : Option Addr) (m_4n : Nat) (m_4c : Nat) (a_0 : Int) (a_1 : Int) (a_2 : Int) (a_3 : Int) (a_4 : Int) (a_5 : Int) (a_6 : Bool) (b_0 : Int) (b_1 : Int) (b_2 : Int) (b_3 : Int) (b_4 : Int) (b_5 : Int) (b_6 : Bool) (w : World) (R : Ending → World → Prop) : Prop :=
 ∀ (n1 : Nat),
 w.heap.size ≤ n1 →
 ∀ (n2 : Nat),
 w.heap.size ≤ n2 →
 ∀ (n3 : Nat),
 w.heap.size ≤ n3 →
 ∀ (w4 : World),
 Bel w w4 →
 Under [n1, n2, n3] w4 →
 Calls Proofs.Try.prog 25
 #[Value.agg #[Value.int IntKind.i64 m_0, Value.int IntKind.i64 m_1, Value.int IntKind.i64 m_2, Value.int IntKind.i64 m_3, Value.slice m_4a m_4n m_4c],
 Value.agg #[Value.int IntKind.i64 a_0, Value.int IntKind.i64 a_1, Value.int IntKind.i64 a_2, Value.int IntKind.i64 a_3, Value.int IntKind.i64 a_4, Value.int IntKind.i64 a_5, Value.bool a_6]]
 w4 fun (e5 : Ending) (w6 : World) =>
 ∃ (x7 : Int),
 ∃ (x8 : Int),
 e5 = Ending.returned (Value.agg #[Value.int IntKind.i64 x7, Value.int IntKind.i64 x8]) ∧
 Keeps [n1, n2, n3] w4 w6 ∧
 Calls Proofs.Try.prog 25
 #[Value.agg #[Value.int IntKind.i64 m_0, Value.int IntKind.i64 m_1, Value.int IntKind.i64 m_2, Value.int IntKind.i64 m_3, Value.slice m_4a m_4n m_4c],
 Value.agg #[Value.int IntKind.i64 b_0, Value.int IntKind.i64 b_1, Value.int IntKind.i64 b_2, Value.int IntKind.i64 b_3, Value.int IntKind.i64 b_4, Value.int IntKind.i64 b_5, Value.bool b_6]]
 w6 fun (e9 : Ending) (w10 : World) =>
 ∃ (x11 : Int),
 ∃ (x12 : Int),
 e9 = Ending.returned (Value.agg #[Value.int IntKind.i64 x11, Value.int IntKind.i64 x12]) ∧
 Keeps [n1, n2, n3] w6 w10 ∧
 Calls Proofs.Try.prog 94
 #[Value.agg #[Value.int IntKind.i64 x7, Value.int IntKind.i64 x8], Value.int IntKind.i64 a_1, Value.agg #[Value.int IntKind.i64 x11, Value.int IntKind.i64 x12], Value.int IntKind.i64 b_1] w10
 fun (e13 : Ending) (w14 : World) =>
 ∃ (x15 : Int),
 e13 = Ending.returned (Value.int IntKind.i64 x15) ∧
 Keeps [n1, n2, n3] w10 w14 ∧
 (decide (x15 < 0) = true → R (Ending.returned (Value.bool true)) w14) ∧
 (decide (x15 < 0) = false → ((x15 == 0) = true → R (Ending.returned (Value.bool (decide (a_0 < b_0)))) w14) ∧ ((x15 == 0) = false → R (Ending.returned (Value.bool false)) w14))
theorem f65_eq (m_0 : Int) (m_1 : Int) (m_2 : Int) (m_3 : Int) (m_4a : Option Addr) (m_4n : Nat) (m_4c : Nat) (a_0 : Int) (a_1 : Int) (a_2 : Int) (a_3 : Int) (a_4 : Int) (a_5 : Int) (a_6 : Bool) (b_0 : Int) (b_1 : Int) (b_2 : Int) (b_3 : Int) (b_4 : Int) (b_5 : Int) (b_6 : Bool) (w : World) (R : Ending → World → Prop) : (fnF Go.Proofs.Try.prog h65 Go.Proofs.Try.f65 [Value.agg #[Value.int IntKind.i64 m_0, Value.int IntKind.i64 m_1, Value.int IntKind.i64 m_2, Value.int IntKind.i64 m_3, Value.slice m_4a m_4n m_4c],
 Value.agg #[Value.int IntKind.i64 a_0, Value.int IntKind.i64 a_1, Value.int IntKind.i64 a_2, Value.int IntKind.i64 a_3, Value.int IntKind.i64 a_4, Value.int IntKind.i64 a_5, Value.bool a_6],
 Value.agg #[Value.int IntKind.i64 b_0, Value.int IntKind.i64 b_1, Value.int IntKind.i64 b_2, Value.int IntKind.i64 b_3, Value.int IntKind.i64 b_4, Value.int IntKind.i64 b_5, Value.bool b_6]] w R).den = f65_vc m_0 m_1 m_2 m_3 m_4a m_4n m_4c a_0 a_1 a_2 a_3 a_4 a_5 a_6 b_0 b_1 b_2 b_3 b_4 b_5 b_6 w R := by kernel_rfl
theorem f65_calls (m_0 : Int) (m_1 : Int) (m_2 : Int) (m_3 : Int) (m_4a : Option Addr) (m_4n : Nat) (m_4c : Nat) (a_0 : Int) (a_1 : Int) (a_2 : Int) (a_3 : Int) (a_4 : Int) (a_5 : Int) (a_6 : Bool) (b_0 : Int) (b_1 : Int) (b_2 : Int) (b_3 : Int) (b_4 : Int) (b_5 : Int) (b_6 : Bool) (w : World) (R : Ending → World → Prop) (h : f65_vc m_0 m_1 m_2 m_3 m_4a m_4n m_4c a_0 a_1 a_2 a_3 a_4 a_5 a_6 b_0 b_1 b_2 b_3 b_4 b_5 b_6 w R) : Calls Go.Proofs.Try.prog 65 (List.toArray [Value.agg #[Value.int IntKind.i64 m_0, Value.int IntKind.i64 m_1, Value.int IntKind.i64 m_2, Value.int IntKind.i64 m_3, Value.slice m_4a m_4n m_4c],
 Value.agg #[Value.int IntKind.i64 a_0, Value.int IntKind.i64 a_1, Value.int IntKind.i64 a_2, Value.int IntKind.i64 a_3, Value.int IntKind.i64 a_4, Value.int IntKind.i64 a_5, Value.bool a_6],
 Value.agg #[Value.int IntKind.i64 b_0, Value.int IntKind.i64 b_1, Value.int IntKind.i64 b_2, Value.int IntKind.i64 b_3, Value.int IntKind.i64 b_4, Value.int IntKind.i64 b_5, Value.bool b_6]]) w R :=
 fn_sound (H := h65) (fn := Go.Proofs.Try.f65) (by kernel_rfl) (by kernel_rfl) (by kernel_rfl) ((f65_eq m_0 m_1 m_2 m_3 m_4a m_4n m_4c a_0 a_1 a_2 a_3 a_4 a_5 a_6 b_0 b_1 b_2 b_3 b_4 b_5 b_6 w R).mpr h)

end Vcs

/- The document's sorter: At, Part, Small, with, without, ahead. -/
set_option maxRecDepth 20000
set_option maxHeartbeats 1000000
namespace Go.Vc.S
open Go Go.Vc Go.RowKit Go.Proofs Go.Vc.T Vcs

variable {w W W' W1 : World} {M N : Nat → Prop} {gs ds : List Nat} {T n : Ar4} {m m0 m1 : List (Int × Cl)} {id : Int} {c : Cl} {a : Option Addr} {ln lc : Nat}

abbrev rcE (x : Int × Cl) : List Value := [.int .i64 x.1, .int .i64 x.2.w, .int .i64 x.2.s.1, .int .i64 x.2.s.2.1, .int .i64 x.2.s.2.2.1, .int .i64 x.2.s.2.2.2, .bool x.2.aw]
abbrev rcV (x : Int × Cl) : Value := .agg #[.int .i64 x.1, .int .i64 x.2.w, .int .i64 x.2.s.1, .int .i64 x.2.s.2.1, .int .i64 x.2.s.2.2.1, .int .i64 x.2.s.2.2.2, .bool x.2.aw]
abbrev mV (T : Ar4) (s : Value) : Value := .agg #[.int .i64 T.1, .int .i64 T.2.1, .int .i64 T.2.2.1, .int .i64 T.2.2.2, s]
theorem midx_first {α : Type} {k : Int} : ∀ {m : List (Int × α)} {i : Nat} {x : Int × α}, (∀ y ∈ m.take i, y.1 ≠ k) → m[i]? = some x → x.1 = k → midx k m = some i
  | [], i, x, _, h, _ => by simp at h
  | y :: m, 0, x, _, h, e => by
    simp at h
    subst h
    unfold midx
    rw [if_pos e.symm]
  | y :: m, i + 1, x, h1, h, e => by
    unfold midx
    rw [if_neg (fun e2 => h1 y (by simp) e2.symm), midx_first (i := i) (fun z hz => h1 z (by simp [hz])) (by simpa using h) e]
    rfl
theorem midx_no {α : Type} {k : Int} : ∀ {m : List (Int × α)}, (∀ y ∈ m, y.1 ≠ k) → midx k m = none
  | [], _ => rfl
  | y :: m, h => by
    unfold midx
    rw [if_neg (fun e2 => h y (by simp) e2.symm), midx_no fun z hz => h z (by simp [hz])]
    rfl
def atI {α : Type} (k : Int) (m : List (Int × α)) : Int := match midx k m with
  | some i => i
  | none => -1
theorem c24 (w : World) (hs : SlE w 7 rcE m a ln lc) (hl : m.length < 100000) (id : Int) : Ret Try.prog 24 #[mV T (.slice a ln lc), .int .i64 id] w (.int .i64 (atI id m)) := by
  intro R h
  refine f24_calls _ _ _ _ _ _ _ _ w R ?_
  unfold f24_vc
  have hln := hs.1
  refine go_n (At.refl w) fun n1 h1 => ⟨fun s W => At w [n1] W ∧ ∃ i : Nat, s.1 = i ∧ i ≤ ln ∧ ∀ y ∈ m.take i, y.1 ≠ id, fun s _ => ln - s.1.toNat, go_below (At.refl w) fun w4 hA => ⟨hA, 0, rfl, Nat.zero_le _, by simp⟩, ?_⟩
  rintro x5 w6 ⟨hA, i, hi, hil, hno⟩
  simp only at hi
  subst hi
  refine brD (fun hlt => ?_) fun hge => ?_
  · have him : i < m.length := by omega
    obtain ⟨ad, g1, el, _⟩ := elt_at (P := Try.prog) (k := .i64) (t := 52) (hs.call hA.below) (List.getElem?_eq_getElem him) (e := 63) (by kernel_rfl) (by kernel_rfl)
    refine ⟨ad, g1, _, el.one (by kernel_rfl) no_ds, brE (fun he => leaf h hA ?_) fun hne => ?_⟩
    · unfold atI
      rw [midx_first hno (List.getElem?_eq_getElem him) he]
    · have hw : IntKind.i64.wrap ((i : Int) + 1) = ((i + 1 : Nat) : Int) := by rw [wrap_i64 (by omega) (by omega)]; omega
      rw [hw]
      refine ⟨⟨hA, i + 1, rfl, by omega, fun y hy => ?_⟩, by simp only; omega⟩
      rw [List.take_add_one, List.getElem?_eq_getElem him, List.mem_append] at hy
      rcases hy with hy | hy
      · exact hno y hy
      · simp at hy
        rw [hy]; exact hne
  · refine leaf h hA ?_
    rw [List.take_of_length_le (by omega)] at hno
    unfold atI
    rw [midx_no hno]
theorem c25 (w : World) (T : Ar4) (x : Int × Cl) : Ret Try.prog 25 #[mV T (.slice a ln lc), rcV x] w (fracV (domT T x.2.s).1 (domT T x.2.s).2) := by
  intro R h
  refine f25_calls _ _ _ _ _ _ _ _ _ _ _ _ _ _ w R ?_
  unfold f25_vc
  have hA := At.refl w
  refine go_n hA fun n1 h1 => go_n hA fun n2 h2 => go_n hA fun n3 h3 => go_below hA fun w4 hA => ?_
  exact at_call hA (c67 _ _ _ _ _ _ _ _ _) fun w6 hA hk => ⟨_, _, _, rfl, hk, go_n hA fun n10 h10 => go_evo hA (by simp; omega) fun w11 hA => leaf h hA rfl⟩
theorem c60 (a : Ar4) (w : World) : Ret Try.prog 60 #[arT a] w (.bool (decide (sm4 a))) := by
  intro R h
  refine f60_calls _ _ _ _ w R ?_
  unfold f60_vc
  have hA := At.refl w
  have no : ¬ sm4 a → ∀ W, At w [] W → R (.returned (.bool false)) W := fun hn W hA => leaf h hA (by rw [decide_eq_false hn])
  unfold sm4 at no
  refine go_n hA fun n1 _ => ?_
  refine brD (fun h1 => go_below (gs' := [n1]) hA fun _ hA => no (by omega) _ hA.off) (fun h1 => brD (fun h2 => go_below (gs' := [n1]) hA fun _ hA => no (by omega) _ hA.off) (fun h2 => ?_))
  refine brD (fun h3 => go_below (gs' := [n1]) hA fun _ hA => no (by omega) _ hA.off) (fun h3 => brD (fun h4 => go_below (gs' := [n1]) hA fun _ hA => no (by omega) _ hA.off) (fun h4 => ?_))
  refine brD (fun h5 => go_below (gs' := [n1]) hA fun _ hA => no (by omega) _ hA.off) (fun h5 => brD (fun h6 => go_below (gs' := [n1]) hA fun _ hA => no (by omega) _ hA.off) (fun h6 => ?_))
  refine brD (fun h7 => go_below (gs' := [n1]) hA fun _ hA => no (by omega) _ hA.off) (fun h7 => brD (fun h8 => go_below (gs' := [n1]) hA fun _ hA => no (by omega) _ hA.off) (fun h8 => ?_))
  refine go_below (gs' := [n1]) hA fun _ hA => ?_
  exact leaf h hA (by rw [decide_eq_true (show sm4 a by unfold sm4; omega)])
theorem c65 (w : World) (T : Ar4) (x y : Int × Cl) : Ret Try.prog 65 #[mV T (.slice a ln lc), rcV x, rcV y] w (.bool (decide (cfP (plc T x) (plc T y) < 0))) := by
  intro R h
  refine f65_calls _ _ _ _ _ _ _ _ _ _ _ _ _ _ _ _ _ _ _ _ _ w R ?_
  unfold f65_vc
  have hA := At.refl w
  refine go_n hA fun n1 h1 => go_n hA fun n2 h2 => go_n hA fun n3 h3 => go_below hA fun w4 hA => ?_
  refine at_call hA (c25 _ T x) fun w6 hA hk => ⟨_, _, rfl, hk, ?_⟩
  refine at_call hA (c25 _ T y) fun w10 hA hk => ⟨_, _, rfl, hk, ?_⟩
  refine at_call hA (c94 _ _ _ _ _ _ _) fun w14 hA hk => ⟨_, rfl, hk, ?_⟩
  have e : cfP (plc T x) (plc T y) = if sCmp (domT T x.2.s).1 (domT T x.2.s).2 x.2.w (domT T y.2.s).1 (domT T y.2.s).2 y.2.w ≠ 0 then sCmp (domT T x.2.s).1 (domT T x.2.s).2 x.2.w (domT T y.2.s).1 (domT T y.2.s).2 y.2.w else cmpI x.1 y.1 := rfl
  rw [e] at h
  refine brD (fun hlt => leaf h hA ?_) fun hnlt => brE (fun hz => leaf h hA ?_) fun hnz => leaf h hA ?_
  · rw [if_pos (by omega), decide_eq_true hlt]
  · rw [if_neg (fun e => e hz)]
    have : (cmpI x.1 y.1 < 0) = (x.1 < y.1) := propext cmpI_neg
    simp only [this]
  · rw [if_pos hnz, decide_eq_false hnlt]
end Go.Vc.S

/- The document's sorter: with, without. -/
set_option maxRecDepth 20000
set_option maxHeartbeats 1000000
namespace Go.Vc.S
open Go Go.Vc Go.RowKit Go.Proofs Go.Vc.T Vcs

variable {w W W' W1 : World} {M N : Nat → Prop} {gs ds : List Nat} {T n : Ar4} {m m0 m1 : List (Int × Cl)} {id : Int} {c : Cl} {a : Option Addr} {ln lc : Nat}

/-- Returns a sorter of the document, its row new. -/
def RetM (f : FuncId) (args : Array Value) (W : World) (T : Ar4) (l : List (Int × Cl)) : Prop := RetQ Try.prog f args W fun v w' => ∃ s, v = mV T s ∧ w'.ownsRow W.heap.size 63 7 s l.length (l.flatMap rcE)
theorem leafM {R : Ending → World → Prop} {l l' : List (Int × Cl)} {v : Value} (h : ∀ v w', Bel w w' → (∃ s, v = mV T s ∧ w'.ownsRow w.heap.size 63 7 s l.length (l.flatMap rcE)) → R (.returned v) w') (hA : At w gs W) (ho : OwnL w gs W 63 7 rcE v l') (hl : l' = l) : R (.returned (mV T v)) W :=
  h _ _ hA.below ⟨v, rfl, hl ▸ ho.row⟩
def withL (at' : Int) (x : Int × Cl) (m : List (Int × Cl)) : List (Int × Cl) := if at' < 0 then m ++ [x] else m.set at'.toNat x
theorem c61 (w : World) (T : Ar4) (hs : SlE w 7 rcE m a ln lc) (hl : m.length < 100000) (at' : Int) (x : Int × Cl) : RetM 61 #[mV T (.slice a ln lc), .int .i64 at', rcV x] w T (withL at' x m) := by
  intro R h
  refine f61_calls _ _ _ _ _ _ _ _ _ _ _ _ _ _ _ w R ?_
  unfold f61_vc
  have hln := hs.1
  refine go_n (At.refl w) fun n1 h1 => go_n (At.refl w) fun n2 h2 => go_n (At.refl w) fun n3 h3 => go_n (At.refl w) fun n4 h4 => ?_
  have hQ : ∃ Q : List (Int × Cl), Q = (if at' < 0 then m else m.set at'.toNat x) ∧ Q.length = m.length := ⟨_, rfl, by split <;> simp⟩
  obtain ⟨Q, hQ, hQl⟩ := hQ
  refine ⟨fun s W => At w [n1, n2, n3, n4] W ∧ ∃ i : Nat, s.1 = i ∧ i ≤ ln ∧ (s.2.1, s.2.2.1, s.2.2.2.1, s.2.2.2.2.1) = T ∧ OwnL w [n1, n2, n3, n4] W 63 7 rcE (.slice s.2.2.2.2.2.1.1 s.2.2.2.2.2.1.2.1 s.2.2.2.2.2.1.2.2) (Q.take i) ∧ s.2.2.2.2.2.1.2.1 = i, fun s _ => ln - s.1.toNat, go_evo (At.refl w) (by simpa using h4) fun w4 hA => ⟨hA, 0, rfl, Nat.zero_le _, rfl, OwnF.nil, rfl⟩, ?_⟩
  rintro x8 x9 x10 x11 x12 a13 n14 n15 w16 ⟨hA, i, hi, hil, hT, ho, hn⟩
  simp only at hi hT ho hn
  subst hi hT
  have hlq : n14 = (Q.take i).length := by rw [List.length_take]; omega
  subst hlq
  have hw : IntKind.i64.wrap ((i : Int) + 1) = ((i + 1 : Nat) : Int) := by rw [wrap_i64 (by omega) (by omega)]; omega
  refine brD (fun hlt => ?_) fun hge => ?_
  · have him : i < m.length := by omega
    have hiq : i < Q.length := by omega
    have tk : ∀ y, Q[i]? = some y → Q.take i ++ [y] = Q.take (i + 1) := fun y hy => by rw [List.take_add_one, hy, Option.toList_some]
    rw [hw]
    have step : ∀ (y : Int × Cl) (W : World) (_ : At w [n1, n2, n3, n4] W) (_ : OwnL w [n1, n2, n3, n4] W 63 7 rcE (.slice a13 (Q.take i).length n15) (Q.take i)) (_ : Q[i]? = some y) (K : Option Addr → Nat → Nat → World → Prop), (∀ a' n' c' w2, At w [n1, n2, n3, n4] w2 → OwnL w [n1, n2, n3, n4] w2 63 7 rcE (.slice a' n' c') (Q.take (i + 1)) → n' = i + 1 → K a' n' c' w2) → OpW Try.prog (valueS (Instr.buildSlice 52 1 #[(0, rcV y)])) W fun v w1 => ∃ a1 n1' c1, v = .slice a1 n1' c1 ∧ Keeps [n1, n2, n3, n4] W w1 ∧ OpW Try.prog (builtin .append #[52, 52] 52 #[false, false] #[.slice a13 (Q.take i).length n15, .slice a1 n1' c1]) w1 fun v w2 => ∃ a2 n2' c2, v = .slice a2 n2' c2 ∧ Keeps [n1, n2, n3, n4] w1 w2 ∧ K a2 n2' c2 w2 := by
      intro y W hA ho hy K hK
      refine opw_push (e' := 63) (bytes := 56) hA ho y (by kernel_rfl) (by kernel_rfl) rfl (fun _ _ => rfl) (by simp [Value.oneCell']) (by rw [List.length_take]; omega) (by decide) fun a2 c2 w2 hA ho _ _ => ?_
      rw [tk y hy] at ho
      refine hK a2 _ c2 w2 hA ?_ (by rw [tk y hy, List.length_take]; omega)
      rw [tk y hy]
      exact ho
    refine brE (fun he => ?_) fun hne => ?_
    · refine step x w16 hA ho (by rw [hQ, if_neg (by omega), ← he]; simp [him]) _ fun a2 n2' c2 w2 hA ho hn' => go_evo_too hA (by simpa using h4) fun w27 hA hb => ?_
      exact ⟨⟨hA, i + 1, rfl, by omega, rfl, ho.evo (by simp) hb, hn'⟩, by simp only; omega⟩
    · have hqi : Q[i]? = some m[i] := by
        rw [hQ]
        split
        · exact List.getElem?_eq_getElem him
        · rw [List.getElem?_set_ne (by omega)]; exact List.getElem?_eq_getElem him
      obtain ⟨ad, g1, el, _⟩ := elt_at (P := Try.prog) (k := .i64) (t := 52) (hs.call hA.below) (List.getElem?_eq_getElem him) (e := 63) (by kernel_rfl) (by kernel_rfl)
      refine ⟨ad, g1, _, _, _, _, _, _, _, el.agg 7 (by kernel_rfl) (by kernel_rfl) (by simp) no_ds, go_below_too hA fun w36 hA hb => ?_⟩
      refine step m[i] w36 hA (ho.call hb) hqi _ fun a2 n2' c2 w2 hA ho hn' => go_evo_too hA (by simpa using h4) fun w27 hA hb => ?_
      exact ⟨⟨hA, i + 1, rfl, by omega, rfl, ho.evo (by simp) hb, hn'⟩, by simp only; omega⟩
  · have hie : i = ln := by omega
    have hQi : Q.take i = Q := List.take_of_length_le (by omega)
    rw [hQi] at ho ⊢
    refine brD (fun hneg => ?_) fun hpos => ?_
    · refine opw_push (e' := 63) (bytes := 56) hA ho x (by kernel_rfl) (by kernel_rfl) rfl (fun _ _ => rfl) (by simp [Value.oneCell']) (by omega) (by decide) fun a2 c2 w2 hA ho _ _ => ?_
      refine go_evo_too hA (by simp; omega) fun w58 hA hb => leafM h hA (ho.evo (by simp) hb) ?_
      rw [hQ, if_pos hneg, withL, if_pos hneg]
    · refine go_evo_too hA (by simpa using h3) fun w58 hA hb => leafM h hA (ho.evo (by simp) hb) ?_
      rw [hQ, if_neg hpos, withL, if_neg hpos]
theorem c62 (w : World) (T : Ar4) (hs : SlE w 7 rcE m a ln lc) (hl : m.length < 100000) (k : Nat) : RetM 62 #[mV T (.slice a ln lc), .int .i64 (k : Int)] w T (m.eraseIdx k) := by
  intro R h
  refine f62_calls _ _ _ _ _ _ _ _ w R ?_
  unfold f62_vc
  have hln := hs.1
  refine go_n (At.refl w) fun n1 h1 => go_n (At.refl w) fun n2 h2 => go_n (At.refl w) fun n3 h3 => ?_
  refine ⟨fun s W => At w [n1, n2, n3] W ∧ ∃ i : Nat, s.1 = i ∧ i ≤ ln ∧ (s.2.1, s.2.2.1, s.2.2.2.1, s.2.2.2.2.1) = T ∧ OwnL w [n1, n2, n3] W 63 7 rcE (.slice s.2.2.2.2.2.1.1 s.2.2.2.2.2.1.2.1 s.2.2.2.2.2.1.2.2) ((m.take i).eraseIdx k) ∧ s.2.2.2.2.2.1.2.1 = ((m.take i).eraseIdx k).length, fun s _ => ln - s.1.toNat, go_evo (At.refl w) (by simpa using h3) fun w4 hA => ⟨hA, 0, rfl, Nat.zero_le _, rfl, by simpa using OwnF.nil, by simp⟩, ?_⟩
  rintro x8 x9 x10 x11 x12 a13 n14 n15 w16 ⟨hA, i, hi, hil, hT, ho, hn⟩
  simp only at hi hT ho hn
  subst hi hT hn
  have hw : IntKind.i64.wrap ((i : Int) + 1) = ((i + 1 : Nat) : Int) := by rw [wrap_i64 (by omega) (by omega)]; omega
  have hel : ((m.take i).eraseIdx k).length ≤ i := by
    rw [List.length_eraseIdx, List.length_take]
    split <;> omega
  refine brD (fun hlt => ?_) fun hge => ?_
  · have him : i < m.length := by omega
    have htk : (m.take i).length = i := by rw [List.length_take]; omega
    have htk1 : m.take (i + 1) = m.take i ++ [m[i]] := by rw [List.take_add_one, List.getElem?_eq_getElem him, Option.toList_some]
    rw [hw]
    refine brN (fun hne => ?_) fun he => ?_
    · obtain ⟨ad, g1, el, _⟩ := elt_at (P := Try.prog) (k := .i64) (t := 52) (hs.call hA.below) (List.getElem?_eq_getElem him) (e := 63) (by kernel_rfl) (by kernel_rfl)
      refine ⟨ad, g1, _, _, _, _, _, _, _, el.agg 7 (by kernel_rfl) (by kernel_rfl) (by simp) no_ds, go_below_too hA fun w36 hA hb => ?_⟩
      refine opw_push (e' := 63) (bytes := 56) hA (ho.call hb) m[i] (by kernel_rfl) (by kernel_rfl) rfl (fun _ _ => rfl) (by simp [Value.oneCell']) (by omega) (by decide) fun a2 c2 w2 hA ho _ _ => ?_
      have e : (m.take i).eraseIdx k ++ [m[i]] = (m.take (i + 1)).eraseIdx k := by
        rw [htk1]
        by_cases hk : k < i
        · rw [List.eraseIdx_append_of_lt_length (by omega)]
        · rw [List.eraseIdx_of_length_le (by omega), List.eraseIdx_of_length_le (by simp; omega)]
      rw [e] at ho ⊢
      refine go_evo_too hA (by simpa using h3) fun w27 hA hb => ?_
      exact ⟨⟨hA, i + 1, rfl, by omega, rfl, ho.evo (by simp) hb, rfl⟩, by simp only; omega⟩
    · have hik : i = k := by omega
      subst hik
      have e : (m.take i).eraseIdx i = (m.take (i + 1)).eraseIdx i := by
        rw [htk1, List.eraseIdx_append_of_length_le (by omega), List.eraseIdx_of_length_le (by omega), htk, Nat.sub_self]
        simp
      rw [e] at ho ⊢
      exact ⟨⟨hA, i + 1, rfl, by omega, rfl, ho, rfl⟩, by simp only; omega⟩
  · have hQi : m.take i = m := List.take_of_length_le (by omega)
    rw [hQi] at ho ⊢
    exact go_evo_too hA (by simpa using h2) fun w58 hA hb => leafM h hA (ho.evo (by simp) hb) rfl
end Go.Vc.S

/- The document's sorter: Do. -/
set_option maxRecDepth 20000
set_option maxHeartbeats 2000000
namespace Go.Vc.S
open Go Go.Vc Go.RowKit Go.Proofs Go.Vc.T Vcs

variable {w W W' W1 : World} {M N : Nat → Prop} {gs ds : List Nat} {T n : Ar4} {m m0 m1 : List (Int × Cl)} {id : Int} {c : Cl} {a : Option Addr} {ln lc : Nat}

/-- What Do returns: the same row, or a new one. -/
def RowQ (w : World) (s0 : Value) (m : List (Int × Cl)) (m' : List (Int × Cl)) (s : Value) (W' : World) : Prop := (s = s0 ∧ m' = m) ∨ W'.ownsRow w.heap.size 63 7 s m'.length (m'.flatMap rcE)
def DoQ (w : World) (s0 : Value) (T : Ar4) (m : List (Int × Cl)) (act : Act) (v : Value) (W' : World) : Prop := ∃ s, v = .tuple #[mV (doD (T, m) act).1.1 s, .int .i64 (doD (T, m) act).2] ∧ RowQ w s0 m (doD (T, m) act).1.2 s W'
theorem fin61 {f : FuncId} {args : Array Value} {n3 : Nat} {l : List (Int × Cl)} {R : Ending → World → Prop} (hA : At w gs W) (hc : RetM f args W T l) (h3 : w.heap.size ≤ n3) (h3g : n3 ∈ gs)
    (hR : ∀ s W', Bel w W' → W'.ownsRow w.heap.size 63 7 s l.length (l.flatMap rcE) → R (.returned (.tuple #[mV T s, .int .i64 0])) W') :
    Calls Try.prog f args W fun e w' => ∃ (x1 x2 x3 x4 : Int) (a1 : Option Addr) (n1 c1 : Nat), e = .returned (.agg #[.int .i64 x1, .int .i64 x2, .int .i64 x3, .int .i64 x4, .slice a1 n1 c1]) ∧ Keeps gs W w' ∧ ∀ w'', Evo [n3] w' w'' → Under gs w'' → R (.returned (.tuple #[.agg #[.int .i64 x1, .int .i64 x2, .int .i64 x3, .int .i64 x4, .slice a1 n1 c1], .int .i64 0])) w'' := by
  refine at_callq hA hc fun v w' hA' hk hb ⟨s, hv, hq⟩ => ?_
  subst hv
  have ho : OwnL w gs w' 63 7 rcE s l := OwnF.ret hA hq rfl rfl
  obtain ⟨a1, c1, rfl, _⟩ := ho.slice fun _ _ => rfl
  refine ⟨_, _, _, _, _, _, _, rfl, hk, fun w'' he hu => ?_⟩
  have hA2 := hA'.evo (gs' := gs) (by simpa using h3) he hu
  exact hR _ _ hA2.below (ho.evo (fun d hd hng => by rw [List.mem_singleton.1 hd] at hng; exact absurd h3g hng) he).row

theorem c20 (w : World) (T : Ar4) (hs : SlE w 7 rcE m a ln lc) (hl : m.length < 100000) (act : Act) : RetQ Try.prog 20 #[mV T (.slice a ln lc), acV act] w (DoQ w (.slice a ln lc) T m act) := by
  obtain ⟨k, id, wt, nn⟩ := act
  intro R h
  refine f20_calls _ _ _ _ _ _ _ _ _ _ _ _ _ _ w R ?_
  unfold f20_vc
  have hA := At.refl w
  refine go_n hA fun n1 h1 => go_n hA fun n2 h2 => go_n hA fun n3 h3 => go_below_too hA fun w4 hA hb4 => ?_
  refine at_callb hA (c24 _ (hs.call hb4) hl id) fun w6 hA hk hb6 => ⟨_, rfl, hk, ?_⟩
  have hs6 := hs.call hA.below
  have keep : ∀ {gs : List Nat} {W : World} (T' : Ar4) (e : Int), doD (T, m) (k, id, wt, nn) = ((T', m), e) → At w gs W → R (.returned (.tuple #[mV T' (.slice a ln lc), .int .i64 e])) W := fun T' e he hA => h _ _ hA.below ⟨_, by rw [he], .inl ⟨rfl, by rw [he]⟩⟩
  have neu : ∀ (l : List (Int × Cl)), doD (T, m) (k, id, wt, nn) = ((T, l), 0) → ∀ s W', Bel w W' → W'.ownsRow w.heap.size 63 7 s l.length (l.flatMap rcE) → R (.returned (.tuple #[mV T s, .int .i64 0])) W' := fun l he s W' hb hq => h _ _ hb ⟨s, by rw [he], .inr (by rw [he]; exact hq)⟩
  have ev3 : ∀ d ∈ [n3], w.heap.size ≤ d := by simpa using h3
  have hn3 : n3 ∈ [n1, n2, n3] := by simp
  have zero : k = 0 → Calls Try.prog 60 #[arT nn] w6 fun e w9 => ∃ b10, e = .returned (.bool b10) ∧ Keeps [n1, n2, n3] w6 w9 ∧ ((!b10) = true → ∀ w11, Evo [n3] w9 w11 → Under [n1, n2, n3] w11 → R (.returned (.tuple #[mV T (.slice a ln lc), .int .i64 41])) w11) ∧ ((!b10) = false → ∀ w12, Evo [n3] w9 w12 → Under [n1, n2, n3] w12 → R (.returned (.tuple #[mV nn (.slice a ln lc), .int .i64 0])) w12) := by
    intro h0
    subst h0
    refine at_call hA (c60 nn _) fun w9 hA hk => ⟨_, rfl, hk, brND (fun hn => go_evo hA ev3 fun w11 hA => keep T 41 ?_ hA) fun hp => go_evo hA ev3 fun w12 hA => keep nn 0 ?_ hA⟩
    · simp only [doD, if_pos, if_neg hn]
    · simp only [doD, if_pos, if_pos hp]
  have hgone : midx id m = none → ¬ k = 0 → ¬ k = 1 → doD (T, m) (k, id, wt, nn) = ((T, m), 43) := by
    intro hx h0 h1
    have hg : mget id m = none := by rw [mget_idx, hx]; rfl
    simp only [doD, if_neg h0, if_neg h1, dropD, turnD, hg, ite_self]
  refine brD (fun hw1 => ?_) fun hw1 => ?_
  · have hheavy : heavy wt = true := by unfold heavy; exact decide_eq_true (.inl hw1)
    refine brE (fun e0 => zero e0) fun e0 => brE (fun e1 => go_evo hA ev3 fun w13 hA => keep T 41 ?_ hA) fun e1 => ?_
    · simp only [doD, if_neg e0, if_pos e1, putD, hheavy, if_true]
    refine brD (fun hneg => go_evo hA ev3 fun w14 hA => keep T 43 ?_ hA) fun hneg => ?_
    · have hx : midx id m = none := by
        unfold atI at hneg
        cases hx : midx id m with
        | none => rfl
        | some i => rw [hx] at hneg; simp only at hneg; omega
      exact hgone hx e0 e1
    obtain ⟨i, hx⟩ : ∃ i, midx id m = some i := by
      unfold atI at hneg
      cases hx : midx id m with
      | none => rw [hx] at hneg; exact absurd (by decide) hneg
      | some i => exact ⟨i, rfl⟩
    obtain ⟨c, hgi⟩ := midx_key hx
    have hg : mget id m = some c := by rw [mget_idx, hx]; simp [hgi]
    have e7 : atI id m = (i : Int) := by unfold atI; rw [hx]
    have hset : ∀ v, mset id v m = withL (i : Int) (id, v) m := fun v => by rw [mset_at hx, withL, if_neg (by omega)]; rfl
    rw [e7]
    obtain ⟨ad, g1, el, _⟩ := elt_at (P := Try.prog) (k := .i64) (t := 52) hs6 hgi (e := 63) (by kernel_rfl) (by kernel_rfl)
    refine ⟨ad, g1, _, _, _, _, _, _, _, el.agg 7 (by kernel_rfl) (by kernel_rfl) (by simp) no_ds, go_n hA fun n23 h23 => ?_⟩
    have ev : ∀ d ∈ [n23], w.heap.size ≤ d := by simpa using h23
    have ev2 : ∀ d ∈ [n23, n23], w.heap.size ≤ d := by simpa using h23
    have ev32 : ∀ d ∈ [n3, n23], w.heap.size ≤ d := by simp; omega
    have tn : ∀ f : Cl → Cl × Int, (f c).2 = 0 → turnD m id f = (withL (i : Int) (id, (f c).1) m, 0) := fun f hz => by
      unfold turnD
      rw [hg]
      simp only [if_pos hz, hset]
    have tn0 : ∀ f : Cl → Cl × Int, (f c).2 ≠ 0 → turnD m id f = (m, (f c).2) := fun f hz => by
      unfold turnD
      rw [hg]
      simp only [if_neg hz]
    refine brE (fun e2 => go_evo hA ev fun w24 hA => ?_) fun e2 => ?_
    · refine fin61 hA (c62 _ T (hs.call hA.below) hl i) h3 (by simp) (neu _ ?_)
      simp only [doD, if_neg e0, if_neg e1, if_pos e2, dropD, hg, mdel_at hx]
    refine brE (fun e3 => go_evo hA ev32 fun w35 hA => keep T 41 ?_ hA) fun e3 => ?_
    · simp only [doD, if_neg e0, if_neg e1, if_neg e2, if_pos e3]
      rw [tn0 (weighF wt) (by unfold weighF; rw [hheavy]; exact (by decide : (41 : Int) ≠ 0))]
      unfold weighF; rw [hheavy]; rfl
    refine brE (fun e4 => go_evo hA ev2 fun w36 hA => ?_) fun e4 => ?_
    · refine fin61 hA (c61 _ T (hs.call hA.below) hl i (id, ⟨c.w, c.s, true⟩)) h3 (by simp) (neu _ ?_)
      simp only [doD, if_neg e0, if_neg e1, if_neg e2, if_neg e3, if_pos e4]
      rw [tn (wakeF true) rfl]; rfl
    refine brE (fun e5 => go_evo hA ev2 fun w36 hA => ?_) fun e5 => ?_
    · refine fin61 hA (c61 _ T (hs.call hA.below) hl i (id, ⟨c.w, c.s, false⟩)) h3 (by simp) (neu _ ?_)
      simp only [doD, if_neg e0, if_neg e1, if_neg e2, if_neg e3, if_neg e4, if_pos e5]
      rw [tn (wakeF false) rfl]; rfl
    refine brE (fun e6 => go_evo hA ev fun w36 hA => ?_) fun e6 => go_evo hA ev fun w36 hA => ?_
    · refine at_call hA (c63 _ _ _ _ _ _ _ _ _) fun w60 hA hk => ?_
      have ed : ∀ q, turnD m id (giveF nn) = q → doD (T, m) (k, id, wt, nn) = ((T, q.1), q.2) := fun q hq => by
        simp only [doD, if_neg e0, if_neg e1, if_neg e2, if_neg e3, if_neg e4, if_neg e5, if_pos e6, hq]
      by_cases hsm : sR4 c.s ∧ sR4 nn ∧ sR4 (ad4 c.s nn)
      · have ef0 : addD c.s nn = some (ad4 c.s nn) := by unfold addD; rw [if_pos hsm]
        unfold sumA
        simp only [if_pos hsm]
        refine ⟨_, _, _, _, _, rfl, hk, go_n hA fun n66 h66 => brB (fun e => by cases e) fun _ => go_evo hA (by simpa using h66) fun w68 hA => ?_⟩
        refine at_call hA (c60 (ad4 c.s nn) _) fun w70 hA hk => ⟨_, rfl, hk, brND (fun hn => go_evo hA ev3 fun w72 hA => keep T 41 ?_ hA) fun hp => go_evo hA ev fun w73 hA => ?_⟩
        · have ef : giveF nn c = (c, 41) := by unfold giveF; rw [ef0]; simp only [if_neg hn]
          rw [ed _ (tn0 (giveF nn) (by rw [ef]; exact (by decide : (41 : Int) ≠ 0))), ef]
        · have ef : giveF nn c = (⟨c.w, ad4 c.s nn, c.aw⟩, 0) := by unfold giveF; rw [ef0]; simp only [if_pos hp]
          refine fin61 hA (c61 _ T (hs.call hA.below) hl i (id, ⟨c.w, ad4 c.s nn, c.aw⟩)) h3 (by simp) (neu _ ?_)
          rw [ed _ (tn (giveF nn) (by rw [ef])), ef]
      · have ef : giveF nn c = (c, 41) := by unfold giveF addD; rw [if_neg hsm]
        unfold sumA
        simp only [if_neg hsm]
        refine ⟨_, _, _, _, _, rfl, hk, go_n hA fun n66 h66 => brB (fun _ => go_evo hA (by simp; omega) fun w68 hA => keep T 41 ?_ hA) fun e => by cases e⟩
        rw [ed _ (tn0 (giveF nn) (by rw [ef]; exact (by decide : (41 : Int) ≠ 0))), ef]
    · refine at_call hA (c64 _ _ _ _ _ _ _ _ _) fun w60 hA hk => ?_
      have ed : ∀ q, turnD m id (takeF nn) = q → doD (T, m) (k, id, wt, nn) = ((T, q.1), q.2) := fun q hq => by
        simp only [doD, if_neg e0, if_neg e1, if_neg e2, if_neg e3, if_neg e4, if_neg e5, if_neg e6, hq]
      by_cases hsm : sH4 c.s nn
      · have ef : takeF nn c = (⟨c.w, sb4 c.s nn, c.aw⟩, 0) := by unfold takeF subD; rw [if_pos hsm]
        unfold sumS
        simp only [if_pos hsm]
        refine ⟨_, _, _, _, _, rfl, hk, go_n hA fun n66 h66 => brB (fun e => by cases e) fun _ => go_evo hA (by simp; omega) fun w68 hA => ?_⟩
        refine fin61 hA (c61 _ T (hs.call hA.below) hl i (id, ⟨c.w, sb4 c.s nn, c.aw⟩)) h3 (by simp) (neu _ ?_)
        rw [ed _ (tn (takeF nn) (by rw [ef])), ef]
      · have ef : takeF nn c = (c, 30) := by unfold takeF subD; rw [if_neg hsm]
        unfold sumS
        simp only [if_neg hsm]
        refine ⟨_, _, _, _, _, rfl, hk, go_n hA fun n66 h66 => brB (fun _ => go_evo hA (by simp; omega) fun w68 hA => keep T 30 ?_ hA) fun e => by cases e⟩
        rw [ed _ (tn0 (takeF nn) (by rw [ef]; exact (by decide : (30 : Int) ≠ 0))), ef]
  · refine brE (fun e0 => zero e0) fun e0 => brE (fun e1 => brD (fun hgt => go_evo hA ev3 fun w13 hA => keep T 41 ?_ hA) fun hngt => brD (fun hge => go_evo hA ev3 fun w13 hA => keep T 42 ?_ hA) fun hlt => ?_) fun e1 => ?_
    · have hheavy : heavy wt = true := by unfold heavy; exact decide_eq_true (.inr hgt)
      simp only [doD, if_neg e0, if_pos e1, putD, hheavy, if_true]
    · have hheavy : heavy wt = false := by unfold heavy; exact decide_eq_false (fun e => e.elim hw1 hngt)
      cases hx : midx id m with
      | none => unfold atI at hge; rw [hx] at hge; exact absurd hge (by decide)
      | some i =>
        obtain ⟨c, hgi⟩ := midx_key hx
        have hg : mget id m = some c := by rw [mget_idx, hx]; simp [hgi]
        simp only [doD, if_neg e0, if_pos e1, putD, hheavy, hg]
        rfl
    · have hheavy : heavy wt = false := by unfold heavy; exact decide_eq_false (fun e => e.elim hw1 hngt)
      cases hx : midx id m with
      | some i => unfold atI at hlt; rw [hx] at hlt; simp only at hlt; omega
      | none =>
        have hg : mget id m = none := by rw [mget_idx, hx]; rfl
        refine fin61 hA (c61 _ T hs6 hl (-1) (id, ⟨wt, (0, 0, 0, 0), true⟩)) h3 (by simp) (neu _ ?_)
        simp only [doD, if_neg e0, if_pos e1, putD, hheavy, hg, mset_new hx]
        rfl
    refine brD (fun hneg => go_evo hA ev3 fun w14 hA => keep T 43 ?_ hA) fun hneg => ?_
    · have hx : midx id m = none := by
        unfold atI at hneg
        cases hx : midx id m with
        | none => rfl
        | some i => rw [hx] at hneg; simp only at hneg; omega
      exact hgone hx e0 e1
    obtain ⟨i, hx⟩ : ∃ i, midx id m = some i := by
      unfold atI at hneg
      cases hx : midx id m with
      | none => rw [hx] at hneg; exact absurd (by decide) hneg
      | some i => exact ⟨i, rfl⟩
    obtain ⟨c, hgi⟩ := midx_key hx
    have hg : mget id m = some c := by rw [mget_idx, hx]; simp [hgi]
    have e7 : atI id m = (i : Int) := by unfold atI; rw [hx]
    have hset : ∀ v, mset id v m = withL (i : Int) (id, v) m := fun v => by rw [mset_at hx, withL, if_neg (by omega)]; rfl
    rw [e7]
    obtain ⟨ad, g1, el, _⟩ := elt_at (P := Try.prog) (k := .i64) (t := 52) hs6 hgi (e := 63) (by kernel_rfl) (by kernel_rfl)
    refine ⟨ad, g1, _, _, _, _, _, _, _, el.agg 7 (by kernel_rfl) (by kernel_rfl) (by simp) no_ds, go_n hA fun n23 h23 => ?_⟩
    have ev : ∀ d ∈ [n23], w.heap.size ≤ d := by simpa using h23
    have ev2 : ∀ d ∈ [n23, n23], w.heap.size ≤ d := by simpa using h23
    have ev32 : ∀ d ∈ [n3, n23], w.heap.size ≤ d := by simp; omega
    have tn : ∀ f : Cl → Cl × Int, (f c).2 = 0 → turnD m id f = (withL (i : Int) (id, (f c).1) m, 0) := fun f hz => by
      unfold turnD
      rw [hg]
      simp only [if_pos hz, hset]
    have tn0 : ∀ f : Cl → Cl × Int, (f c).2 ≠ 0 → turnD m id f = (m, (f c).2) := fun f hz => by
      unfold turnD
      rw [hg]
      simp only [if_neg hz]
    refine brE (fun e2 => go_evo hA ev fun w24 hA => ?_) fun e2 => ?_
    · refine fin61 hA (c62 _ T (hs.call hA.below) hl i) h3 (by simp) (neu _ ?_)
      simp only [doD, if_neg e0, if_neg e1, if_pos e2, dropD, hg, mdel_at hx]
    refine brE (fun e3 => brD (fun hgt => go_evo hA ev32 fun w35 hA => keep T 41 ?_ hA) fun hngt => go_evo hA ev2 fun w35 hA => ?_) fun e3 => ?_
    · have hheavy : heavy wt = true := by unfold heavy; exact decide_eq_true (.inr hgt)
      simp only [doD, if_neg e0, if_neg e1, if_neg e2, if_pos e3]
      rw [tn0 (weighF wt) (by unfold weighF; rw [hheavy]; exact (by decide : (41 : Int) ≠ 0))]
      unfold weighF; rw [hheavy]; rfl
    · have hheavy : heavy wt = false := by unfold heavy; exact decide_eq_false (fun e => e.elim hw1 hngt)
      have ef : weighF wt c = (⟨wt, c.s, c.aw⟩, 0) := by unfold weighF; rw [hheavy]; rfl
      refine fin61 hA (c61 _ T (hs.call hA.below) hl i (id, ⟨wt, c.s, c.aw⟩)) h3 (by simp) (neu _ ?_)
      simp only [doD, if_neg e0, if_neg e1, if_neg e2, if_pos e3]
      rw [tn (weighF wt) (by rw [ef]), ef]
    refine brE (fun e4 => go_evo hA ev2 fun w36 hA => ?_) fun e4 => ?_
    · refine fin61 hA (c61 _ T (hs.call hA.below) hl i (id, ⟨c.w, c.s, true⟩)) h3 (by simp) (neu _ ?_)
      simp only [doD, if_neg e0, if_neg e1, if_neg e2, if_neg e3, if_pos e4]
      rw [tn (wakeF true) rfl]; rfl
    refine brE (fun e5 => go_evo hA ev2 fun w36 hA => ?_) fun e5 => ?_
    · refine fin61 hA (c61 _ T (hs.call hA.below) hl i (id, ⟨c.w, c.s, false⟩)) h3 (by simp) (neu _ ?_)
      simp only [doD, if_neg e0, if_neg e1, if_neg e2, if_neg e3, if_neg e4, if_pos e5]
      rw [tn (wakeF false) rfl]; rfl
    refine brE (fun e6 => go_evo hA ev fun w36 hA => ?_) fun e6 => go_evo hA ev fun w36 hA => ?_
    · refine at_call hA (c63 _ _ _ _ _ _ _ _ _) fun w60 hA hk => ?_
      have ed : ∀ q, turnD m id (giveF nn) = q → doD (T, m) (k, id, wt, nn) = ((T, q.1), q.2) := fun q hq => by
        simp only [doD, if_neg e0, if_neg e1, if_neg e2, if_neg e3, if_neg e4, if_neg e5, if_pos e6, hq]
      by_cases hsm : sR4 c.s ∧ sR4 nn ∧ sR4 (ad4 c.s nn)
      · have ef0 : addD c.s nn = some (ad4 c.s nn) := by unfold addD; rw [if_pos hsm]
        unfold sumA
        simp only [if_pos hsm]
        refine ⟨_, _, _, _, _, rfl, hk, go_n hA fun n66 h66 => brB (fun e => by cases e) fun _ => go_evo hA (by simpa using h66) fun w68 hA => ?_⟩
        refine at_call hA (c60 (ad4 c.s nn) _) fun w70 hA hk => ⟨_, rfl, hk, brND (fun hn => go_evo hA ev3 fun w72 hA => keep T 41 ?_ hA) fun hp => go_evo hA ev fun w73 hA => ?_⟩
        · have ef : giveF nn c = (c, 41) := by unfold giveF; rw [ef0]; simp only [if_neg hn]
          rw [ed _ (tn0 (giveF nn) (by rw [ef]; exact (by decide : (41 : Int) ≠ 0))), ef]
        · have ef : giveF nn c = (⟨c.w, ad4 c.s nn, c.aw⟩, 0) := by unfold giveF; rw [ef0]; simp only [if_pos hp]
          refine fin61 hA (c61 _ T (hs.call hA.below) hl i (id, ⟨c.w, ad4 c.s nn, c.aw⟩)) h3 (by simp) (neu _ ?_)
          rw [ed _ (tn (giveF nn) (by rw [ef])), ef]
      · have ef : giveF nn c = (c, 41) := by unfold giveF addD; rw [if_neg hsm]
        unfold sumA
        simp only [if_neg hsm]
        refine ⟨_, _, _, _, _, rfl, hk, go_n hA fun n66 h66 => brB (fun _ => go_evo hA (by simp; omega) fun w68 hA => keep T 41 ?_ hA) fun e => by cases e⟩
        rw [ed _ (tn0 (giveF nn) (by rw [ef]; exact (by decide : (41 : Int) ≠ 0))), ef]
    · refine at_call hA (c64 _ _ _ _ _ _ _ _ _) fun w60 hA hk => ?_
      have ed : ∀ q, turnD m id (takeF nn) = q → doD (T, m) (k, id, wt, nn) = ((T, q.1), q.2) := fun q hq => by
        simp only [doD, if_neg e0, if_neg e1, if_neg e2, if_neg e3, if_neg e4, if_neg e5, if_neg e6, hq]
      by_cases hsm : sH4 c.s nn
      · have ef : takeF nn c = (⟨c.w, sb4 c.s nn, c.aw⟩, 0) := by unfold takeF subD; rw [if_pos hsm]
        unfold sumS
        simp only [if_pos hsm]
        refine ⟨_, _, _, _, _, rfl, hk, go_n hA fun n66 h66 => brB (fun e => by cases e) fun _ => go_evo hA (by simp; omega) fun w68 hA => ?_⟩
        refine fin61 hA (c61 _ T (hs.call hA.below) hl i (id, ⟨c.w, sb4 c.s nn, c.aw⟩)) h3 (by simp) (neu _ ?_)
        rw [ed _ (tn (takeF nn) (by rw [ef])), ef]
      · have ef : takeF nn c = (c, 30) := by unfold takeF subD; rw [if_neg hsm]
        unfold sumS
        simp only [if_neg hsm]
        refine ⟨_, _, _, _, _, rfl, hk, go_n hA fun n66 h66 => brB (fun _ => go_evo hA (by simp; omega) fun w68 hA => keep T 30 ?_ hA) fun e => by cases e⟩
        rw [ed _ (tn0 (takeF nn) (by rw [ef]; exact (by decide : (30 : Int) ≠ 0))), ef]
end Go.Vc.S

/- The document's tiers: At, Part, Role, with. -/
set_option maxRecDepth 20000
set_option maxHeartbeats 1000000
set_option linter.unusedVariables false
namespace Go.Vc.S
open Go Go.Vc Go.RowKit Go.Proofs Go.Vc.T Vcs

variable {w W W' W1 : World} {M N : Nat → Prop} {gs ds : List Nat} {T n : Ar4} {F G : List Fr} {f : Fr} {h : Fr → Fr} {id r : Int} {a : Option Addr} {ln lc : Nat}

abbrev frE (f : Fr) : List Value := [.int .i64 f.fid, .int .i64 f.w, .int .i64 f.role, .int .i64 f.s.1, .int .i64 f.s.2.1, .int .i64 f.s.2.2.1, .int .i64 f.s.2.2.2, .bool f.aw]
abbrev frV (f : Fr) : Value := .agg #[.int .i64 f.fid, .int .i64 f.w, .int .i64 f.role, .int .i64 f.s.1, .int .i64 f.s.2.1, .int .i64 f.s.2.2.1, .int .i64 f.s.2.2.2, .bool f.aw]
def mF (F : List Fr) : List (Int × Fr) := F.map fun f => (f.fid, f)
theorem fget_idx : ∀ {F : List Fr}, fget F id = mget id (mF F)
  | [] => rfl
  | x :: F => by
    have ih := fget_idx (F := F)
    unfold fget mF at *
    rw [List.find?_cons, List.map_cons, mget]
    by_cases e : x.fid = id
    · rw [if_pos e.symm, show decide (x.fid = id) = true by simp [e]]
    · rw [if_neg (fun h => e h.symm), show decide (x.fid = id) = false by simp [e]]
      exact ih
theorem mF_get {i : Nat} (h : F[i]? = some f) : (mF F)[i]? = some (f.fid, f) := by unfold mF; rw [List.getElem?_map, h]; rfl
theorem fidx_some {i : Nat} (h : midx id (mF F) = some i) : ∃ f, F[i]? = some f ∧ f.fid = id ∧ fget F id = some f := by
  obtain ⟨f, hf⟩ := midx_key h
  have h2 := hf
  unfold mF at h2
  rw [List.getElem?_map] at h2
  cases e : F[i]? with
  | none => rw [e] at h2; cases h2
  | some g =>
    rw [e] at h2
    simp only [Option.map_some, Option.some.injEq, Prod.mk.injEq] at h2
    refine ⟨g, rfl, h2.1, ?_⟩
    rw [fget_idx, mget_idx, h, Option.bind_some, mF_get e]
    rfl
theorem fidx_none (h : midx id (mF F) = none) : fget F id = none := by rw [fget_idx, mget_idx, h]; rfl
theorem upd_set : ∀ {F : List Fr} {i : Nat}, (F.map (·.fid)).Nodup → F[i]? = some f → f.fid = id → updF F id h = F.set i (h f)
  | [], i, _, e, _ => by simp at e
  | x :: F, 0, hn, e, hf => by
    simp at e
    subst e
    rw [List.map_cons, List.nodup_cons] at hn
    have : updF F id h = F := upd_none h fun g hg e => hn.1 (List.mem_map.2 ⟨g, hg, e.trans hf.symm⟩)
    unfold updF at *
    rw [List.map_cons, if_pos hf, this]
    rfl
  | x :: F, i + 1, hn, e, hf => by
    rw [List.map_cons, List.nodup_cons] at hn
    have e : F[i]? = some f := by simpa using e
    have hx : x.fid ≠ id := fun hh => hn.1 (List.mem_map.2 ⟨f, List.mem_of_getElem? e, hf.trans hh.symm⟩)
    have := upd_set (i := i) hn.2 e hf
    unfold updF at *
    rw [List.map_cons, if_neg hx, this]
    rfl
theorem del_erase : ∀ {F : List Fr} {i : Nat}, (F.map (·.fid)).Nodup → F[i]? = some f → f.fid = id → delF F id = F.eraseIdx i
  | [], i, _, e, _ => by simp at e
  | x :: F, 0, hn, e, hf => by
    simp at e
    subst e
    rw [List.map_cons, List.nodup_cons] at hn
    have : delF F id = F := del_none fun g hg e => hn.1 (List.mem_map.2 ⟨g, hg, e.trans hf.symm⟩)
    unfold delF at *
    rw [List.filter_cons, if_neg (by simp [hf]), this]
    rfl
  | x :: F, i + 1, hn, e, hf => by
    rw [List.map_cons, List.nodup_cons] at hn
    have e : F[i]? = some f := by simpa using e
    have hx : x.fid ≠ id := fun hh => hn.1 (List.mem_map.2 ⟨f, List.mem_of_getElem? e, hf.trans hh.symm⟩)
    have := del_erase (i := i) hn.2 e hf
    unfold delF at *
    rw [List.filter_cons, if_pos (by simp [hx]), this]
    rfl
def atF (id : Int) (F : List Fr) : Int := atI id (mF F)
theorem c31 (w : World) (hs : SlE w 8 frE F a ln lc) (hl : F.length < 100000) (id : Int) : Ret Try.prog 31 #[mV T (.slice a ln lc), .int .i64 id] w (.int .i64 (atF id F)) := by
  intro R h
  refine f31_calls _ _ _ _ _ _ _ _ w R ?_
  unfold f31_vc
  have hln := hs.1
  refine go_n (At.refl w) fun n1 h1 => ⟨fun s W => At w [n1] W ∧ ∃ i : Nat, s.1 = i ∧ i ≤ ln ∧ ∀ y ∈ (mF F).take i, y.1 ≠ id, fun s _ => ln - s.1.toNat, go_below (At.refl w) fun w4 hA => ⟨hA, 0, rfl, Nat.zero_le _, by simp⟩, ?_⟩
  rintro x5 w6 ⟨hA, i, hi, hil, hno⟩
  simp only at hi
  subst hi
  have hml : (mF F).length = F.length := by unfold mF; rw [List.length_map]
  refine brD (fun hlt => ?_) fun hge => ?_
  · have him : i < F.length := by omega
    have hmi := mF_get (List.getElem?_eq_getElem him)
    obtain ⟨ad, g1, el, _⟩ := elt_at (P := Try.prog) (k := .i64) (t := 69) (hs.call hA.below) (List.getElem?_eq_getElem him) (e := 80) (by kernel_rfl) (by kernel_rfl)
    refine ⟨ad, g1, _, el.one (by kernel_rfl) no_ds, brE (fun he => leaf h hA ?_) fun hne => ?_⟩
    · unfold atF atI
      rw [midx_first hno hmi he]
    · have hw : IntKind.i64.wrap ((i : Int) + 1) = ((i + 1 : Nat) : Int) := by rw [wrap_i64 (by omega) (by omega)]; omega
      rw [hw]
      refine ⟨⟨hA, i + 1, rfl, by omega, fun y hy => ?_⟩, by simp only; omega⟩
      rw [List.take_add_one, hmi, List.mem_append] at hy
      rcases hy with hy | hy
      · exact hno y hy
      · simp at hy
        rw [hy]; exact hne
  · refine leaf h hA ?_
    rw [List.take_of_length_le (by omega)] at hno
    unfold atF atI
    rw [midx_no hno]
theorem c32 (w : World) (T s : Ar4) {sl : Value} (hsl : ∃ a n c, sl = .slice a n c) : Ret Try.prog 32 #[mV T sl, arT s] w (fracV (domT T s).1 (domT T s).2) := by
  obtain ⟨a, ln, lc, rfl⟩ := hsl
  intro R h
  refine f32_calls _ _ _ _ _ _ _ _ _ _ _ w R ?_
  unfold f32_vc
  have hA := At.refl w
  refine go_n hA fun n1 h1 => go_n hA fun n2 h2 => go_n hA fun n3 h3 => go_below hA fun w4 hA => ?_
  exact at_call hA (c67 _ _ _ _ _ _ _ _ _) fun w6 hA hk => ⟨_, _, _, rfl, hk, go_n hA fun n10 h10 => go_evo hA (by simp; omega) fun w11 hA => leaf h hA rfl⟩
/-! ### Role -/
theorem agF_take {φ : Fr → Int} (hp : ∀ f ∈ F, 0 ≤ φ f) (i : Nat) (r : Int) : 0 ≤ agF φ r (F.take i) ∧ agF φ r (F.take i) ≤ agF φ r F := by
  have h1 := (agF_le (φ := φ) (r := r) (F := F.take i) fun f hf => hp f (List.mem_of_mem_take hf)).1
  have h2 := (agF_le (φ := φ) (r := r) (F := F.drop i) fun f hf => hp f (List.mem_of_mem_drop hf)).1
  have h3 := agF_append φ r (F.take i) (F.drop i)
  rw [List.take_append_drop] at h3
  omega
theorem isR_app : isR (F ++ G) r = (isR F r || isR G r) := by unfold isR; rw [List.any_append]
theorem sum_snoc (F : List Fr) (f : Fr) (r : Int) : sumF (F ++ [f]) r = if f.role = r then ad4 (sumF F r) f.s else sumF F r := by
  unfold sumF
  simp only [agF_append, agF]
  split
  · unfold ad4; simp
  · simp
abbrev roleV (F : List Fr) (r : Int) : Value := .tuple #[.int .i64 (wF F r), arT (sumF F r), .bool (isR F r)]
theorem c35 (w : World) (hF : FOk F) (hs : SlE w 8 frE F a ln lc) (hl : F.length < 100000) (r : Int) : Ret Try.prog 35 #[mV T (.slice a ln lc), .int .i64 r] w (roleV F r) := by
  intro R h
  refine f35_calls _ _ _ _ _ _ _ _ w R ?_
  unfold f35_vc
  have hln := hs.1
  refine go_n (At.refl w) fun n1 h1 => go_n (At.refl w) fun n2 h2 => go_n (At.refl w) fun n3 h3 => ?_
  refine ⟨fun s W => At w [n1, n2, n3] W ∧ ∃ i : Nat, s.2.2.1 = i ∧ i ≤ ln ∧ s.1 = wF (F.take i) r ∧ s.2.1 = isR (F.take i) r ∧ (s.2.2.2.1, s.2.2.2.2.1, s.2.2.2.2.2.1, s.2.2.2.2.2.2.1) = sumF (F.take i) r, fun s _ => ln - s.2.2.1.toNat, go_below (At.refl w) fun w6 hA => ⟨hA, 0, rfl, Nat.zero_le _, rfl, rfl, rfl⟩, ?_⟩
  rintro x7 b8 x9 x10 x11 x12 x13 w14 ⟨hA, i, hi, hil, e7, e8, es⟩
  simp only at hi e7 e8 es
  subst hi e7 e8
  have hw : IntKind.i64.wrap ((i : Int) + 1) = ((i + 1 : Nat) : Int) := by rw [wrap_i64 (by omega) (by omega)]; omega
  refine brD (fun hlt => ?_) fun hge => ?_
  · have him : i < F.length := by omega
    obtain ⟨f, hf⟩ : ∃ f, F[i]? = some f := ⟨_, List.getElem?_eq_getElem him⟩
    have hfm := List.mem_of_getElem? hf
    have tk : F.take (i + 1) = F.take i ++ [f] := by rw [List.take_add_one, hf, Option.toList_some]
    obtain ⟨ad, g1, el0, _⟩ := elt_at (P := Try.prog) (k := .i64) (t := 69) hs hf (e := 80) (by kernel_rfl) (by kernel_rfl)
    have el := el0.below hA.below
    rw [hw]
    refine ⟨ad, g1, _, (el.sub (o := 2) (by decide)).one (by kernel_rfl) no_ds, brE (fun he => ?_) fun hne => ?_⟩
    · refine ⟨ad, g1, _, _, _, _, (el.sub (o := 3) (by decide)).agg 4 (by kernel_rfl) (by kernel_rfl) (by simp) no_ds, go_below_too hA fun w22 hA hb22 => ?_⟩
      have p1 := agF_take (φ := (·.s.1)) (fun f hf => (hF.nn f hf).1) (i + 1) r
      have p2 := agF_take (φ := (·.s.2.1)) (fun f hf => (hF.nn f hf).2.1) (i + 1) r
      have p3 := agF_take (φ := (·.s.2.2.1)) (fun f hf => (hF.nn f hf).2.2.1) (i + 1) r
      have p4 := agF_take (φ := (·.s.2.2.2)) (fun f hf => (hF.nn f hf).2.2.2) (i + 1) r
      have q1 := agF_take (φ := (·.s.1)) (fun f hf => (hF.nn f hf).1) i r
      have q2 := agF_take (φ := (·.s.2.1)) (fun f hf => (hF.nn f hf).2.1) i r
      have q3 := agF_take (φ := (·.s.2.2.1)) (fun f hf => (hF.nn f hf).2.2.1) i r
      have q4 := agF_take (φ := (·.s.2.2.2)) (fun f hf => (hF.nn f hf).2.2.2) i r
      have hnn := hF.nn f hfm
      have hsm := hF.sm r
      have hsum := sum_snoc (F.take i) f r
      rw [if_pos he, ← tk] at hsum
      have k1 : (sumF (F.take (i + 1)) r).1 = x10 + f.s.1 := by rw [hsum, ← es]
      have k2 : (sumF (F.take (i + 1)) r).2.1 = x11 + f.s.2.1 := by rw [hsum, ← es]
      have k3 : (sumF (F.take (i + 1)) r).2.2.1 = x12 + f.s.2.2.1 := by rw [hsum, ← es]
      have k4 : (sumF (F.take (i + 1)) r).2.2.2 = x13 + f.s.2.2.2 := by rw [hsum, ← es]
      have j1 : (sumF (F.take i) r).1 = x10 := by rw [← es]
      have j2 : (sumF (F.take i) r).2.1 = x11 := by rw [← es]
      have j3 : (sumF (F.take i) r).2.2.1 = x12 := by rw [← es]
      have j4 : (sumF (F.take i) r).2.2.2 = x13 := by rw [← es]
      unfold sumF at k1 k2 k3 k4 j1 j2 j3 j4
      unfold sm4 sumF at hsm
      simp only at k1 k2 k3 k4 j1 j2 j3 j4 hsm
      refine at_callb hA (c63 _ _ _ _ _ _ _ _ _) fun w24 hA hk hb24 => ?_
      unfold sumA
      rw [if_pos (by unfold sumR; omega)]
      refine ⟨_, _, _, _, _, rfl, hk, ad, g1, _, (((el.below hb22).below hb24).sub (o := 1) (by decide)).one (by kernel_rfl) ((el0.sub (o := 1) (by decide)).far (by simpa using h3)), go_evo hA (by simpa using h3) fun w32 hA => ⟨⟨hA, i + 1, rfl, by omega, ?_, ?_, ?_⟩, by simp only; omega⟩⟩
      · rw [tk, wF_put fun hr => ?_, if_pos he.symm]
        obtain ⟨f', hf', e'⟩ := isR_iff.1 hr
        rw [← e', wF_of (fun a ha b hb => hF.wt a (List.mem_of_mem_take ha) b (List.mem_of_mem_take hb)) hf']
        exact hF.wt f' (List.mem_of_mem_take hf') f hfm e'
      · rw [tk, isR_app]
        simp [isR, he]
      · rw [hsum, ← es]
    · refine ⟨⟨hA, i + 1, rfl, by omega, ?_, ?_, ?_⟩, by simp only; omega⟩
      · rw [tk, wF_put fun hr => ?_, if_neg (fun e => hne e.symm)]
        obtain ⟨f', hf', e'⟩ := isR_iff.1 hr
        rw [← e', wF_of (fun a ha b hb => hF.wt a (List.mem_of_mem_take ha) b (List.mem_of_mem_take hb)) hf']
        exact hF.wt f' (List.mem_of_mem_take hf') f hfm e'
      · rw [tk, isR_app]
        simp [isR, hne]
      · rw [tk, sum_snoc, if_neg hne, ← es]
  · refine go_evo hA (by simpa using h2) fun w33 hA => leaf h hA ?_
    have e : i = F.length := by omega
    rw [e, List.take_length] at es ⊢
    unfold roleV
    rw [← es]
end Go.Vc.S

/- The document's tiers: with, put. -/
set_option maxRecDepth 20000
set_option maxHeartbeats 1000000
set_option linter.unusedVariables false
namespace Go.Vc.S
open Go Go.Vc Go.RowKit Go.Proofs Go.Vc.T Vcs

variable {w W W' W1 : World} {M N : Nat → Prop} {gs ds : List Nat} {T n : Ar4} {m F : List Fr} {f : Fr} {h : Fr → Fr} {id r : Int} {a : Option Addr} {ln lc : Nat}

/-- Returns a tiers of the document, its row new. -/
def RetN (f : FuncId) (args : Array Value) (W : World) (T : Ar4) (l : List Fr) : Prop := RetQ Try.prog f args W fun v w' => ∃ s, v = mV T s ∧ w'.ownsRow W.heap.size 80 8 s l.length (l.flatMap frE)
theorem leafN {R : Ending → World → Prop} {l l' : List Fr} {v : Value} (h : ∀ v w', Bel w w' → (∃ s, v = mV T s ∧ w'.ownsRow w.heap.size 80 8 s l.length (l.flatMap frE)) → R (.returned v) w') (hA : At w gs W) (ho : OwnL w gs W 80 8 frE v l') (hl : l' = l) : R (.returned (mV T v)) W :=
  h _ _ hA.below ⟨v, rfl, hl ▸ ho.row⟩
def withF (at' : Int) (x : Fr) (m : List Fr) : List Fr := if at' < 0 then m ++ [x] else m.set at'.toNat x
theorem c69 (w : World) (T : Ar4) (hs : SlE w 8 frE m a ln lc) (hl : m.length < 100000) (at' : Int) (x : Fr) : RetN 69 #[mV T (.slice a ln lc), .int .i64 at', frV x] w T (withF at' x m) := by
  intro R h
  refine f69_calls _ _ _ _ _ _ _ _ _ _ _ _ _ _ _ _ w R ?_
  unfold f69_vc
  have hln := hs.1
  refine go_n (At.refl w) fun n1 h1 => go_n (At.refl w) fun n2 h2 => go_n (At.refl w) fun n3 h3 => go_n (At.refl w) fun n4 h4 => ?_
  have hQ : ∃ Q : List Fr, Q = (if at' < 0 then m else m.set at'.toNat x) ∧ Q.length = m.length := ⟨_, rfl, by split <;> simp⟩
  obtain ⟨Q, hQ, hQl⟩ := hQ
  refine ⟨fun s W => At w [n1, n2, n3, n4] W ∧ ∃ i : Nat, s.1 = i ∧ i ≤ ln ∧ (s.2.1, s.2.2.1, s.2.2.2.1, s.2.2.2.2.1) = T ∧ OwnL w [n1, n2, n3, n4] W 80 8 frE (.slice s.2.2.2.2.2.1.1 s.2.2.2.2.2.1.2.1 s.2.2.2.2.2.1.2.2) (Q.take i) ∧ s.2.2.2.2.2.1.2.1 = i, fun s _ => ln - s.1.toNat, go_evo (At.refl w) (by simpa using h4) fun w4 hA => ⟨hA, 0, rfl, Nat.zero_le _, rfl, OwnF.nil, rfl⟩, ?_⟩
  rintro x8 x9 x10 x11 x12 a13 n14 n15 w16 ⟨hA, i, hi, hil, hT, ho, hn⟩
  simp only at hi hT ho hn
  subst hi hT
  have hlq : n14 = (Q.take i).length := by rw [List.length_take]; omega
  subst hlq
  have hw : IntKind.i64.wrap ((i : Int) + 1) = ((i + 1 : Nat) : Int) := by rw [wrap_i64 (by omega) (by omega)]; omega
  refine brD (fun hlt => ?_) fun hge => ?_
  · have him : i < m.length := by omega
    have hiq : i < Q.length := by omega
    have tk : ∀ y, Q[i]? = some y → Q.take i ++ [y] = Q.take (i + 1) := fun y hy => by rw [List.take_add_one, hy, Option.toList_some]
    rw [hw]
    have step : ∀ (y : Fr) (W : World) (_ : At w [n1, n2, n3, n4] W) (_ : OwnL w [n1, n2, n3, n4] W 80 8 frE (.slice a13 (Q.take i).length n15) (Q.take i)) (_ : Q[i]? = some y) (K : Option Addr → Nat → Nat → World → Prop), (∀ a' n' c' w2, At w [n1, n2, n3, n4] w2 → OwnL w [n1, n2, n3, n4] w2 80 8 frE (.slice a' n' c') (Q.take (i + 1)) → n' = i + 1 → K a' n' c' w2) → OpW Try.prog (valueS (Instr.buildSlice 69 1 #[(0, frV y)])) W fun v w1 => ∃ a1 n1' c1, v = .slice a1 n1' c1 ∧ Keeps [n1, n2, n3, n4] W w1 ∧ OpW Try.prog (builtin .append #[69, 69] 69 #[false, false] #[.slice a13 (Q.take i).length n15, .slice a1 n1' c1]) w1 fun v w2 => ∃ a2 n2' c2, v = .slice a2 n2' c2 ∧ Keeps [n1, n2, n3, n4] w1 w2 ∧ K a2 n2' c2 w2 := by
      intro y W hA ho hy K hK
      refine opw_push (e' := 80) (bytes := 64) hA ho y (by kernel_rfl) (by kernel_rfl) rfl (fun _ _ => rfl) (by simp [Value.oneCell']) (by rw [List.length_take]; omega) (by decide) fun a2 c2 w2 hA ho _ _ => ?_
      rw [tk y hy] at ho
      refine hK a2 _ c2 w2 hA ?_ (by rw [tk y hy, List.length_take]; omega)
      rw [tk y hy]
      exact ho
    refine brE (fun he => ?_) fun hne => ?_
    · refine step x w16 hA ho (by rw [hQ, if_neg (by omega), ← he]; simp [him]) _ fun a2 n2' c2 w2 hA ho hn' => go_evo_too hA (by simpa using h4) fun w27 hA hb => ?_
      exact ⟨⟨hA, i + 1, rfl, by omega, rfl, ho.evo (by simp) hb, hn'⟩, by simp only; omega⟩
    · have hqi : Q[i]? = some m[i] := by
        rw [hQ]
        split
        · exact List.getElem?_eq_getElem him
        · rw [List.getElem?_set_ne (by omega)]; exact List.getElem?_eq_getElem him
      obtain ⟨ad, g1, el, _⟩ := elt_at (P := Try.prog) (k := .i64) (t := 69) (hs.call hA.below) (List.getElem?_eq_getElem him) (e := 80) (by kernel_rfl) (by kernel_rfl)
      refine ⟨ad, g1, _, _, _, _, _, _, _, _, el.agg 8 (by kernel_rfl) (by kernel_rfl) (by simp) no_ds, go_below_too hA fun w36 hA hb => ?_⟩
      refine step m[i] w36 hA (ho.call hb) hqi _ fun a2 n2' c2 w2 hA ho hn' => go_evo_too hA (by simpa using h4) fun w27 hA hb => ?_
      exact ⟨⟨hA, i + 1, rfl, by omega, rfl, ho.evo (by simp) hb, hn'⟩, by simp only; omega⟩
  · have hie : i = ln := by omega
    have hQi : Q.take i = Q := List.take_of_length_le (by omega)
    rw [hQi] at ho ⊢
    refine brD (fun hneg => ?_) fun hpos => ?_
    · refine opw_push (e' := 80) (bytes := 64) hA ho x (by kernel_rfl) (by kernel_rfl) rfl (fun _ _ => rfl) (by simp [Value.oneCell']) (by omega) (by decide) fun a2 c2 w2 hA ho _ _ => ?_
      refine go_evo_too hA (by simp; omega) fun w58 hA hb => leafN h hA (ho.evo (by simp) hb) ?_
      rw [hQ, if_pos hneg, withF, if_pos hneg]
    · refine go_evo_too hA (by simpa using h3) fun w58 hA hb => leafN h hA (ho.evo (by simp) hb) ?_
      rw [hQ, if_neg hpos, withF, if_neg hpos]
/-- What Do returns: the same row, or a new one. -/
def RowN (w : World) (s0 : Value) (m : List Fr) (m' : List Fr) (s : Value) (W' : World) : Prop := (s = s0 ∧ m' = m) ∨ W'.ownsRow w.heap.size 80 8 s m'.length (m'.flatMap frE)
theorem fin69 {f : FuncId} {args : Array Value} {n3 : Nat} {l : List Fr} {R : Ending → World → Prop} (hA : At w gs W) (hc : RetN f args W T l) (h3 : w.heap.size ≤ n3) (h3g : n3 ∈ gs)
    (hR : ∀ s W', Bel w W' → W'.ownsRow w.heap.size 80 8 s l.length (l.flatMap frE) → R (.returned (.tuple #[mV T s, .int .i64 0])) W') :
    Calls Try.prog f args W fun e w' => ∃ (x1 x2 x3 x4 : Int) (a1 : Option Addr) (n1 c1 : Nat), e = .returned (.agg #[.int .i64 x1, .int .i64 x2, .int .i64 x3, .int .i64 x4, .slice a1 n1 c1]) ∧ Keeps gs W w' ∧ ∀ w'', Evo [n3] w' w'' → Under gs w'' → R (.returned (.tuple #[.agg #[.int .i64 x1, .int .i64 x2, .int .i64 x3, .int .i64 x4, .slice a1 n1 c1], .int .i64 0])) w'' := by
  refine at_callq hA hc fun v w' hA' hk hb ⟨s, hv, hq⟩ => ?_
  subst hv
  have ho : OwnL w gs w' 80 8 frE s l := OwnF.ret hA hq rfl rfl
  obtain ⟨a1, c1, rfl, _⟩ := ho.slice fun _ _ => rfl
  refine ⟨_, _, _, _, _, _, _, rfl, hk, fun w'' he hu => ?_⟩
  have hA2 := hA'.evo (gs' := gs) (by simpa using h3) he hu
  exact hR _ _ hA2.below (ho.evo (fun d hd hng => by rw [List.mem_singleton.1 hd] at hng; exact absurd h3g hng) he).row

/-- What a step of the document's returns: an error, and the same row, or a new one. -/
def StepN (w : World) (s0 : Value) (F : List Fr) (q : (Ar4 × List Fr) × Int) (v : Value) (W' : World) : Prop := ∃ s, v = .tuple #[mV q.1.1 s, .int .i64 q.2] ∧ RowN w s0 F q.1.2 s W'
theorem c68 (w : World) (T : Ar4) (hF : FOk F) (hs : SlE w 8 frE F a ln lc) (hl : F.length < 100000) (x : TA) : RetQ Try.prog 68 #[mV T (.slice a ln lc), taV x] w (StepN w (.slice a ln lc) F ((T, (putT F x.2.1 x.2.2.1 x.2.2.2.1).1), (putT F x.2.1 x.2.2.1 x.2.2.2.1).2)) := by
  obtain ⟨k, id, rl, wt, nn⟩ := x
  intro R h
  refine f68_calls _ _ _ _ _ _ _ _ _ _ _ _ _ _ _ w R ?_
  unfold f68_vc
  simp only at h
  have hA := At.refl w
  refine go_n hA fun n1 h1 => go_n hA fun n2 h2 => go_n hA fun n3 h3 => ?_
  have ev3 : ∀ d ∈ [n3], w.heap.size ≤ d := by simpa using h3
  have keep : ∀ {gs : List Nat} {W : World} (e : Int), putT F id rl wt = (F, e) → At w gs W → R (.returned (.tuple #[mV T (.slice a ln lc), .int .i64 e])) W := fun e he hA => h _ _ hA.below ⟨_, by rw [he], .inl ⟨rfl, by rw [he]⟩⟩
  have bad : (rl < 1 ∨ rl > 32 ∨ wt < 1 ∨ wt > 1000) → putT F id rl wt = (F, 41) := fun hb => by unfold putT; rw [if_pos hb]
  refine brD (fun e1 => go_evo (gs' := [n1, n2, n3]) hA ev3 fun _ hA => keep 41 (bad (.inl e1)) hA) fun e1 => ?_
  refine brD (fun e2 => go_evo (gs' := [n1, n2, n3]) hA ev3 fun _ hA => keep 41 (bad (.inr (.inl e2))) hA) fun e2 => ?_
  refine brD (fun e3 => go_evo (gs' := [n1, n2, n3]) hA ev3 fun _ hA => keep 41 (bad (.inr (.inr (.inl e3)))) hA) fun e3 => ?_
  refine brD (fun e4 => go_evo (gs' := [n1, n2, n3]) hA ev3 fun _ hA => keep 41 (bad (.inr (.inr (.inr e4)))) hA) fun e4 => ?_
  have good : ¬ (rl < 1 ∨ rl > 32 ∨ wt < 1 ∨ wt > 1000) := fun hb => hb.elim e1 fun hb => hb.elim e2 fun hb => hb.elim e3 e4
  refine go_below_too hA fun w8 hA hb8 => ?_
  refine at_callb hA (c31 _ (hs.call hb8) hl id) fun w10 hA hk hb10 => ⟨_, rfl, hk, ?_⟩
  have hs10 := hs.call hA.below
  refine brD (fun e5 => go_evo (gs' := [n1, n2, n3]) hA ev3 fun _ hA => keep 42 ?_ hA) fun e5 => ?_
  · unfold atF atI at e5
    cases hx : midx id (mF F) with
    | none => rw [hx] at e5; exact absurd e5 (by decide)
    | some i =>
      obtain ⟨f, _, _, hg⟩ := fidx_some hx
      unfold putT
      rw [if_neg good, hg]
  have hx : fget F id = none := by
    unfold atF atI at e5
    cases hx : midx id (mF F) with
    | none => exact fidx_none hx
    | some i => rw [hx] at e5; simp only at e5; omega
  refine at_callb hA (c35 _ hF hs10 hl rl) fun w14 hA hk hb14 => ⟨_, _, _, _, _, _, rfl, hk, go_n hA fun n21 h21 => ?_⟩
  have hs14 := hs10.call hb14
  have neu : putT F id rl wt = (withF (-1) ⟨id, rl, wt, (0, 0, 0, 0), true⟩ F, 0) → ∀ s W', Bel w W' → W'.ownsRow w.heap.size 80 8 s (withF (-1) ⟨id, rl, wt, (0, 0, 0, 0), true⟩ F).length ((withF (-1) ⟨id, rl, wt, (0, 0, 0, 0), true⟩ F).flatMap frE) → R (.returned (.tuple #[mV T s, .int .i64 0])) W' := fun he s W' hb hq => h _ _ hb ⟨s, by rw [he], .inr (by rw [he]; exact hq)⟩
  have ok : ¬ (isR F rl = true ∧ wF F rl ≠ wt) → putT F id rl wt = (withF (-1) ⟨id, rl, wt, (0, 0, 0, 0), true⟩ F, 0) := fun hn => by
    unfold putT
    rw [if_neg good, hx]
    simp only [if_neg hn]
    rfl
  refine brB (fun e6 => brN (fun e7 => go_evo hA (by simp; omega) fun w22 hA => keep 22 ?_ hA) (fun e7 => go_evo_too hA (by simpa using h21) fun w23 hA hb => ?_)) (fun e6 => go_evo_too hA (by simpa using h21) fun w23 hA hb => ?_)
  · unfold putT
    rw [if_neg good, hx]
    simp only [if_pos (show isR F rl = true ∧ wF F rl ≠ wt from ⟨e6, e7⟩)]
  · exact fin69 hA (c69 _ T (hs.call hA.below) hl (-1) ⟨id, rl, wt, (0, 0, 0, 0), true⟩) h3 (by simp) (neu (ok fun hh => hh.2 e7))
  · exact fin69 hA (c69 _ T (hs.call hA.below) hl (-1) ⟨id, rl, wt, (0, 0, 0, 0), true⟩) h3 (by simp) (neu (ok fun hh => by rw [e6] at hh; exact absurd hh.1 (by decide)))
end Go.Vc.S

/- The document's tiers: Do. -/
set_option maxRecDepth 20000
set_option maxHeartbeats 2000000
set_option linter.unusedVariables false
namespace Go.Vc.S
open Go Go.Vc Go.RowKit Go.Proofs Go.Vc.T Vcs

variable {w W W' W1 : World} {M N : Nat → Prop} {gs ds : List Nat} {T n : Ar4} {m F : List Fr} {f : Fr} {h : Fr → Fr} {id r : Int} {a : Option Addr} {ln lc : Nat}

/-- Behind a step, its row as one of the caller's. -/
theorem RowN.own {s0 s : Value} {F' : List Fr} (hA : At w gs W) (hq : RowN W s0 F F' s W') : (s = s0 ∧ F' = F) ∨ OwnL w gs W' 80 8 frE s F' := by
  rcases hq with h | h
  · exact .inl h
  · exact .inr (OwnF.ret hA h rfl rfl)
theorem wake_at {on : Bool} {i : Nat} (hn : (F.map (·.fid)).Nodup) (hi : F[i]? = some f) (hf : f.fid = id) (hg : fget F id = some f) : wakeT F id on = (withF (i : Int) ⟨f.fid, f.role, f.w, f.s, on⟩ F, 0) := by
  unfold wakeT withF
  rw [hg, if_neg (by omega)]
  simp only [Int.toNat_natCast]
  rw [upd_set hn hi hf]
theorem giv_at {n : Ar4} {i : Nat} (hn : (F.map (·.fid)).Nodup) (hi : F[i]? = some f) (hf : f.fid = id) (hg : fget F id = some f) (ha : (sR4 (sumF F f.role) ∧ sR4 n ∧ sR4 (ad4 (sumF F f.role) n)) ∧ sm4 (ad4 (sumF F f.role) n)) : giveT F id n = (withF (i : Int) ⟨f.fid, f.role, f.w, ad4 f.s n, f.aw⟩ F, 0) := by
  unfold giveT withF
  rw [hg]
  simp only
  unfold addD
  rw [if_pos ha.1, if_neg (by omega)]
  simp only [if_pos ha.2, Int.toNat_natCast]
  rw [upd_set hn hi hf]
theorem giv_no {n : Ar4} (hg : fget F id = some f) (ha : ¬ ((sR4 (sumF F f.role) ∧ sR4 n ∧ sR4 (ad4 (sumF F f.role) n)) ∧ sm4 (ad4 (sumF F f.role) n))) : giveT F id n = (F, 41) := by
  unfold giveT
  rw [hg]
  simp only
  unfold addD
  by_cases h1 : sR4 (sumF F f.role) ∧ sR4 n ∧ sR4 (ad4 (sumF F f.role) n)
  · rw [if_pos h1]
    simp only
    rw [if_neg fun h2 => ha ⟨h1, h2⟩]
  · rw [if_neg h1]
/-- What a role may have more, each of its frameworks may. -/
theorem giv_own {n : Ar4} (hF : FOk F) (hf : f ∈ F) (ha : (sR4 (sumF F f.role) ∧ sR4 n ∧ sR4 (ad4 (sumF F f.role) n)) ∧ sm4 (ad4 (sumF F f.role) n)) : (sR4 f.s ∧ sR4 n ∧ sR4 (ad4 f.s n)) ∧ sm4 (ad4 f.s n) := by
  have hp := hF.part hf
  have hn := hF.nn f hf
  unfold sR4 sumR sm4 ad4 at *
  simp only at *
  omega
theorem c27 (w : World) (T : Ar4) (hF : FOk F) (hs : SlE w 8 frE F a ln lc) (hl : F.length < 100000) (act : TA) : RetQ Try.prog 27 #[mV T (.slice a ln lc), taV act] w (StepN w (.slice a ln lc) F (doT (T, F) act)) := by
  obtain ⟨k, id, rl, wt, nn⟩ := act
  intro R h
  refine f27_calls _ _ _ _ _ _ _ _ _ _ _ _ _ _ _ w R ?_
  unfold f27_vc
  have hA := At.refl w
  have hln := hs.1
  refine go_n hA fun n1 h1 => go_n hA fun n2 h2 => go_n hA fun n3 h3 => ?_
  have keep : ∀ {gs : List Nat} {W : World} (T' : Ar4) (e : Int), doT (T, F) (k, id, rl, wt, nn) = ((T', F), e) → At w gs W → R (.returned (.tuple #[mV T' (.slice a ln lc), .int .i64 e])) W := fun T' e he hA => h _ _ hA.below ⟨_, by rw [he], .inl ⟨rfl, by rw [he]⟩⟩
  have neu : ∀ (l : List Fr), doT (T, F) (k, id, rl, wt, nn) = ((T, l), 0) → ∀ s W', Bel w W' → W'.ownsRow w.heap.size 80 8 s l.length (l.flatMap frE) → R (.returned (.tuple #[mV T s, .int .i64 0])) W' := fun l he s W' hb hq => h _ _ hb ⟨s, by rw [he], .inr (by rw [he]; exact hq)⟩
  have ev3 : ∀ d ∈ [n3], w.heap.size ≤ d := by simpa using h3
  refine brE (fun e0 => go_below (gs' := [n1, n2, n3]) hA fun w4 hA => ?_) fun e0 => brE (fun e1 => go_below_too (gs' := [n1, n2, n3]) hA fun w10 hA hb10 => ?_) fun e1 => go_below_too (gs' := [n1, n2, n3]) hA fun w22 hA hb22 => ?_
  · refine at_call hA (c60 nn _) fun w9 hA hk => ⟨_, rfl, hk, brND (fun hn => go_evo hA ev3 fun w11 hA => keep T 41 ?_ hA) fun hp => go_evo hA ev3 fun w12 hA => keep nn 0 ?_ hA⟩
    · unfold doT; simp only [if_pos e0, if_neg hn]
    · unfold doT; simp only [if_pos e0, if_pos hp]
  · refine at_callq hA (c68 _ T hF (hs.call hb10) hl (k, id, rl, wt, nn)) fun v w12 hA2 hk hb12 ⟨s, hv, hq⟩ => ?_
    subst hv
    have ed : doT (T, F) (k, id, rl, wt, nn) = ((T, (putT F id rl wt).1), (putT F id rl wt).2) := by unfold doT; simp only [if_neg e0, if_pos e1]
    rcases hq.own hA with ⟨hse, hFe⟩ | ho
    · simp only at hse hFe
      subst hse
      refine ⟨_, _, _, _, _, _, _, _, rfl, hk, go_evo hA2 ev3 fun w21 hA => h _ _ hA.below ⟨_, by rw [ed], .inl ⟨rfl, by rw [ed]; exact hFe⟩⟩⟩
    · obtain ⟨a1, cp, rfl, _⟩ := ho.slice fun _ _ => rfl
      refine ⟨_, _, _, _, _, _, _, _, rfl, hk, go_evo_too hA2 ev3 fun w21 hA hb => h _ _ hA.below ⟨_, by rw [ed], .inr ?_⟩⟩
      rw [ed]
      exact (ho.evo (by simp) hb).row
  refine at_callb hA (c31 _ (hs.call hb22) hl id) fun w24 hA hk hb24 => ⟨_, rfl, hk, ?_⟩
  have hs24 := hs.call hA.below
  refine brD (fun hneg => go_evo hA ev3 fun w14 hA => keep T 43 ?_ hA) fun hneg => ?_
  · have hx : fget F id = none := by
      unfold atF atI at hneg
      cases hx : midx id (mF F) with
      | none => exact fidx_none hx
      | some i => rw [hx] at hneg; simp only at hneg; omega
    unfold doT dropT wakeT giveT takeT
    simp only [if_neg e0, if_neg e1, hx, ite_self]
  obtain ⟨i, hx⟩ : ∃ i, midx id (mF F) = some i := by
    unfold atF atI at hneg
    cases hx : midx id (mF F) with
    | none => rw [hx] at hneg; exact absurd (by decide) hneg
    | some i => exact ⟨i, rfl⟩
  obtain ⟨f, hfi, hfid, hg⟩ := fidx_some hx
  have hfm := List.mem_of_getElem? hfi
  have e7 : atF id F = (i : Int) := by unfold atF atI; rw [hx]
  rw [e7]
  obtain ⟨ad, g1, el, _⟩ := elt_at (P := Try.prog) (k := .i64) (t := 69) hs24 hfi (e := 80) (by kernel_rfl) (by kernel_rfl)
  refine ⟨ad, g1, _, _, _, _, _, _, _, _, el.agg 8 (by kernel_rfl) (by kernel_rfl) (by simp) no_ds, go_n hA fun n36 h36 => ?_⟩
  have ev : ∀ d ∈ [n36], w.heap.size ≤ d := by simpa using h36
  have ev2 : ∀ d ∈ [n36, n36], w.heap.size ≤ d := by simpa using h36
  refine brE (fun e2 => go_n hA fun n37 h37 => ?_) fun e2 => ?_
  · -- dropped
    have ed : doT (T, F) (k, id, rl, wt, nn) = ((T, F.eraseIdx i), 0) := by
      unfold doT dropT
      simp only [if_neg e0, if_neg e1, if_pos e2, hg, del_erase hF.nd hfi hfid]
    refine ⟨fun s W => At w [n1, n2, n3, n36, n37] W ∧ ∃ j : Nat, s.1 = j ∧ j ≤ ln ∧ (s.2.1, s.2.2.1, s.2.2.2.1, s.2.2.2.2.1) = T ∧ OwnL w [n1, n2, n3, n36, n37] W 80 8 frE (.slice s.2.2.2.2.2.1.1 s.2.2.2.2.2.1.2.1 s.2.2.2.2.2.1.2.2) ((F.take j).eraseIdx i) ∧ s.2.2.2.2.2.1.2.1 = ((F.take j).eraseIdx i).length, fun s _ => ln - s.1.toNat, go_evo hA (by simp; omega) fun w4 hA => ⟨hA, 0, rfl, Nat.zero_le _, rfl, by simpa using OwnF.nil, by simp⟩, ?_⟩
    rintro x8 x9 x10 x11 x12 a13 n14 n15 w16 ⟨hA, j, hj, hil, hT, ho, hn⟩
    simp only at hj hT ho hn
    subst hj hT hn
    have hw : IntKind.i64.wrap ((j : Int) + 1) = ((j + 1 : Nat) : Int) := by rw [wrap_i64 (by omega) (by omega)]; omega
    have hel : ((F.take j).eraseIdx i).length ≤ j := by
      rw [List.length_eraseIdx, List.length_take]
      split <;> omega
    refine brD (fun hlt => ?_) fun hge => ?_
    · have him : j < F.length := by omega
      have htk : (F.take j).length = j := by rw [List.length_take]; omega
      have htk1 : F.take (j + 1) = F.take j ++ [F[j]] := by rw [List.take_add_one, List.getElem?_eq_getElem him, Option.toList_some]
      rw [hw]
      refine brN (fun hne => ?_) fun he => ?_
      · obtain ⟨ad, g1, el, _⟩ := elt_at (P := Try.prog) (k := .i64) (t := 69) (hs.call hA.below) (List.getElem?_eq_getElem him) (e := 80) (by kernel_rfl) (by kernel_rfl)
        refine ⟨ad, g1, _, _, _, _, _, _, _, _, el.agg 8 (by kernel_rfl) (by kernel_rfl) (by simp) no_ds, go_below_too hA fun w36 hA hb => ?_⟩
        refine opw_push (e' := 80) (bytes := 64) hA (ho.call hb) F[j] (by kernel_rfl) (by kernel_rfl) rfl (fun _ _ => rfl) (by simp [Value.oneCell']) (by omega) (by decide) fun a2 c2 w2 hA ho _ _ => ?_
        have e : (F.take j).eraseIdx i ++ [F[j]] = (F.take (j + 1)).eraseIdx i := by
          rw [htk1]
          by_cases hk : i < j
          · rw [List.eraseIdx_append_of_lt_length (by omega)]
          · rw [List.eraseIdx_of_length_le (by omega), List.eraseIdx_of_length_le (by simp; omega)]
        rw [e] at ho ⊢
        refine go_evo_too hA (by simpa using h37) fun w27 hA hb => ?_
        exact ⟨⟨hA, j + 1, rfl, by omega, rfl, ho.evo (by simp) hb, rfl⟩, by simp only; omega⟩
      · have hik : j = i := by omega
        subst hik
        have e : (F.take j).eraseIdx j = (F.take (j + 1)).eraseIdx j := by
          rw [htk1, List.eraseIdx_append_of_length_le (by omega), List.eraseIdx_of_length_le (by omega), htk, Nat.sub_self]
          simp
        rw [e] at ho ⊢
        exact ⟨⟨hA, j + 1, rfl, by omega, rfl, ho, rfl⟩, by simp only; omega⟩
    · have hQi : F.take j = F := List.take_of_length_le (by omega)
      rw [hQi] at ho ⊢
      exact go_evo_too hA ev3 fun w58 hA hb => neu _ ed _ _ hA.below (ho.evo (by simp) hb).row
  have hn3 : n3 ∈ [n1, n2, n3] := by simp
  refine brE (fun e3 => go_evo hA ev2 fun w36 hA => ?_) fun e3 => ?_
  · refine fin69 hA (c69 _ T (hs.call hA.below) hl i ⟨f.fid, f.role, f.w, f.s, true⟩) h3 (by simp) (neu _ ?_)
    unfold doT
    simp only [if_neg e0, if_neg e1, if_neg e2, if_pos e3, wake_at hF.nd hfi hfid hg]
  refine brE (fun e4 => go_evo hA ev2 fun w36 hA => ?_) fun e4 => ?_
  · refine fin69 hA (c69 _ T (hs.call hA.below) hl i ⟨f.fid, f.role, f.w, f.s, false⟩) h3 (by simp) (neu _ ?_)
    unfold doT
    simp only [if_neg e0, if_neg e1, if_neg e2, if_neg e3, if_pos e4, wake_at hF.nd hfi hfid hg]
  refine brE (fun e5 => go_evo hA ev fun w94 hA => ?_) fun e5 => go_evo hA ev fun w94 hA => ?_
  · refine at_call hA (c35 _ hF (hs.call hA.below) hl f.role) fun w96 hA hk => ⟨_, _, _, _, _, _, rfl, hk, go_n hA fun n103 h103 => go_evo hA (by simpa using h103) fun w104 hA => ?_⟩
    have gd : ∀ q, giveT F id nn = q → doT (T, F) (k, id, rl, wt, nn) = ((T, q.1), q.2) := fun q hq => by
      unfold doT
      simp only [if_neg e0, if_neg e1, if_neg e2, if_neg e3, if_neg e4, if_pos e5, hq]
    have no : ∀ {gs : List Nat} {W : World}, ¬ ((sR4 (sumF F f.role) ∧ sR4 nn ∧ sR4 (ad4 (sumF F f.role) nn)) ∧ sm4 (ad4 (sumF F f.role) nn)) → At w gs W → R (.returned (.tuple #[mV T (.slice a ln lc), .int .i64 41])) W := fun hh hA => keep T 41 (gd _ (giv_no hg hh)) hA
    refine at_call hA (c63 _ _ _ _ _ _ _ _ _) fun w106 hA hk => ?_
    by_cases hown : sR4 f.s ∧ sR4 nn ∧ sR4 (ad4 f.s nn)
    · unfold sumA
      simp only [if_pos hown]
      refine ⟨_, _, _, _, _, rfl, hk, go_n hA fun n112 h112 => go_evo hA (by simpa using h112) fun w113 hA => ?_⟩
      refine at_call hA (c63 _ _ _ _ _ _ _ _ _) fun w115 hA hk => ?_
      by_cases hall : sR4 (sumF F f.role) ∧ sR4 nn ∧ sR4 (ad4 (sumF F f.role) nn)
      · unfold sumA
        simp only [if_pos hall]
        refine ⟨_, _, _, _, _, rfl, hk, go_n hA fun n121 h121 => brB (fun e => by cases e) fun _ => brB (fun e => by cases e) fun _ => go_evo hA (by simpa using h121) fun w124 hA => ?_⟩
        refine at_call hA (c60 (ad4 f.s nn) _) fun w126 hA hk => ⟨_, rfl, hk, brND (fun hn => go_evo hA ev3 fun w72 hA => no (fun hh => hn (giv_own hF hfm hh).2) hA) fun hp => ?_⟩
        refine at_call hA (c60 (ad4 (sumF F f.role) nn) _) fun w130 hA hk => ⟨_, rfl, hk, brND (fun hn => go_evo hA ev3 fun w72 hA => no (fun hh => hn hh.2) hA) fun hp2 => go_evo hA ev fun w133 hA => ?_⟩
        refine fin69 hA (c69 _ T (hs.call hA.below) hl i ⟨f.fid, f.role, f.w, ad4 f.s nn, f.aw⟩) h3 (by simp) (neu _ ?_)
        rw [gd _ (giv_at hF.nd hfi hfid hg ⟨hall, hp2⟩)]
      · unfold sumA
        simp only [if_neg hall]
        exact ⟨_, _, _, _, _, rfl, hk, go_n hA fun n121 h121 => brB (fun e => by cases e) fun _ => brB (fun _ => go_evo hA (by simp; omega) fun w122 hA => no (fun hh => hall hh.1) hA) fun e => by cases e⟩
    · unfold sumA
      simp only [if_neg hown]
      refine ⟨_, _, _, _, _, rfl, hk, go_n hA fun n112 h112 => go_evo hA (by simpa using h112) fun w113 hA => ?_⟩
      refine at_call hA (c63 _ _ _ _ _ _ _ _ _) fun w115 hA hk => ?_
      have fin : ∀ (x1 x2 x3 x4 : Int) (b : Bool), ∃ (x116 x117 x118 x119 : Int) (b120 : Bool), Ending.returned (pairA x1 x2 x3 x4 b) = Ending.returned (pairA x116 x117 x118 x119 b120) := fun x1 x2 x3 x4 b => ⟨_, _, _, _, _, rfl⟩
      by_cases hall : sR4 (sumF F f.role) ∧ sR4 nn ∧ sR4 (ad4 (sumF F f.role) nn)
      · unfold sumA
        simp only [if_pos hall]
        exact ⟨_, _, _, _, _, rfl, hk, go_n hA fun n121 h121 => brB (fun _ => go_evo hA (by simp; omega) fun w122 hA => no (fun hh => hown (giv_own hF hfm hh).1) hA) fun e => by cases e⟩
      · unfold sumA
        simp only [if_neg hall]
        exact ⟨_, _, _, _, _, rfl, hk, go_n hA fun n121 h121 => brB (fun _ => go_evo hA (by simp; omega) fun w122 hA => no (fun hh => hall hh.1) hA) fun e => by cases e⟩
  · refine at_call hA (c64 _ _ _ _ _ _ _ _ _) fun w60 hA hk => ?_
    have gd : ∀ q, takeT F id nn = q → doT (T, F) (k, id, rl, wt, nn) = ((T, q.1), q.2) := fun q hq => by
      unfold doT
      simp only [if_neg e0, if_neg e1, if_neg e2, if_neg e3, if_neg e4, if_neg e5, hq]
    by_cases hsm : sH4 f.s nn
    · have ef : takeT F id nn = (withF (i : Int) ⟨f.fid, f.role, f.w, sb4 f.s nn, f.aw⟩ F, 0) := by
        unfold takeT withF
        rw [hg]
        unfold subD
        simp only [if_pos hsm]
        rw [if_neg (by omega), Int.toNat_natCast, upd_set hF.nd hfi hfid]
      unfold sumS
      simp only [if_pos hsm]
      refine ⟨_, _, _, _, _, rfl, hk, go_n hA fun n66 h66 => brB (fun e => by cases e) fun _ => go_evo hA (by simp; omega) fun w68 hA => ?_⟩
      refine fin69 hA (c69 _ T (hs.call hA.below) hl i ⟨f.fid, f.role, f.w, sb4 f.s nn, f.aw⟩) h3 (by simp) (neu _ ?_)
      rw [gd _ ef]
    · have ef : takeT F id nn = (F, 30) := by unfold takeT subD; rw [hg]; simp only [if_neg hsm]
      unfold sumS
      simp only [if_neg hsm]
      refine ⟨_, _, _, _, _, rfl, hk, go_n hA fun n66 h66 => brB (fun _ => go_evo hA (by simp; omega) fun w68 hA => keep T 30 ?_ hA) fun e => by cases e⟩
      rw [gd _ ef]
end Go.Vc.S

