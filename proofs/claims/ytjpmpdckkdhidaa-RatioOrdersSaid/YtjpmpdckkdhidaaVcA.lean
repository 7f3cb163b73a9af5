/- The formulas of functions, printed by a program (wip/vc/VcTool.lean): each is what the generator's formula comes to, by the kernel's reckoning; whoever proves one has the function's contract. -/
import Derived.Test.YtjpmpdckkdhidaaVcFn
import Derived.Test.YtjpmpdckkdhidaaProg
set_option maxRecDepth 100000
set_option maxHeartbeats 1000000
set_option linter.unusedVariables false
namespace Vca
open Go Go.Vc Go.RowKit
/-! manciple/manciplelaw02.RatioCmp -/
def h3 : Hints := ⟨[3, 4, 7, 9], [41], [13, 31, 38, 43, 48], [(5, [0, 1, 3, 4, 2, 5, 6, 7, 8, 10, 9, 11, 12, 13, 14, 15, 16, 17, 18, 19, 20, 21, 22, 23, 24, 25, 26, 27])], [], [], []⟩
def f3_vc (a_0 : Int) (a_1 : Int) (b_0 : Int) (b_1 : Int) (la : Option Addr) (ln : Nat) (lc : Nat) (w : World) (R : Ending → World → Prop) : Prop :=
  ∀ (n1 : Nat),
    w.heap.size ≤ n1 →
      ∀ (n2 : Nat),
        w.heap.size ≤ n2 →
          (decide ((↑ln : Int) > 60) = true → ∀ (w3 : World), Below w.heap.size w w3 → Under [n1, n2] w3 → R (Ending.returned (Value.bool true)) w3) ∧
            (decide ((↑ln : Int) > 60) = false →
              ∀ (w4 : World),
                Below w.heap.size w w4 →
                  Under [n1, n2] w4 →
                    Calls Proofs.Try.prog 10 #[Value.slice la ln lc] w4 fun (e5 : Ending) (w6 : World) =>
                      ∃ (x7 : Int),
                        ∃ (x8 : Int),
                          ∃ (x9 : Int),
                            e5 = Ending.returned (Value.tuple #[Value.agg #[Value.int IntKind.i64 x7, Value.int IntKind.i64 x8], Value.int IntKind.i64 x9]) ∧
                              Keeps [n1, n2] w4 w6 ∧
                                ∀ (n10 : Nat),
                                  w6.heap.size ≤ n10 →
                                    ∀ (w11 : World),
                                      Evo [n10] w6 w11 →
                                        Under [n1, n2, n10] w11 →
                                          Calls Proofs.Try.prog 11 #[Value.slice la ln lc] w11 fun (e12 : Ending) (w13 : World) =>
                                            ∃ (x14 : Int),
                                              ∃ (x15 : Int),
                                                ∃ (x16 : Int),
                                                  e12 = Ending.returned (Value.tuple #[Value.agg #[Value.int IntKind.i64 x14, Value.int IntKind.i64 x15], Value.int IntKind.i64 x16]) ∧
                                                    Keeps [n1, n2, n10] w11 w13 ∧
                                                      ∀ (n17 : Nat),
                                                        w13.heap.size ≤ n17 →
                                                          ∀ (w18 : World),
                                                            Evo [n17] w13 w18 →
                                                              Under [n1, n2, n10, n17] w18 →
                                                                Calls Proofs.Try.prog 12 #[Value.agg #[Value.int IntKind.i64 a_0, Value.int IntKind.i64 a_1], Value.agg #[Value.int IntKind.i64 b_0, Value.int IntKind.i64 b_1]] w18
                                                                  fun (e19 : Ending) (w20 : World) =>
                                                                  ∃ (x21 : Int),
                                                                    e19 = Ending.returned (Value.int IntKind.i64 x21) ∧
                                                                      Keeps [n1, n2, n10, n17] w18 w20 ∧
                                                                        Calls Proofs.Try.prog 13 #[Value.agg #[Value.int IntKind.i64 a_0, Value.int IntKind.i64 a_1], Value.agg #[Value.int IntKind.i64 b_0, Value.int IntKind.i64 b_1]] w20
                                                                          fun (e22 : Ending) (w23 : World) =>
                                                                          ∃ (x24 : Int),
                                                                            e22 = Ending.returned (Value.int IntKind.i64 x24) ∧
                                                                              Keeps [n1, n2, n10, n17] w20 w23 ∧
                                                                                ((x21 == x24) = true →
                                                                                    Calls Proofs.Try.prog 14 #[Value.agg #[Value.int IntKind.i64 a_0, Value.int IntKind.i64 a_1]] w23 fun (e25 : Ending) (w26 : World) =>
                                                                                      ∃ (b27 : Bool),
                                                                                        e25 = Ending.returned (Value.bool b27) ∧
                                                                                          Keeps [n1, n2, n10, n17] w23 w26 ∧
                                                                                            Calls Proofs.Try.prog 15 #[Value.agg #[Value.int IntKind.i64 a_0, Value.int IntKind.i64 a_1]] w26 fun (e28 : Ending) (w29 : World) =>
                                                                                              ∃ (b30 : Bool),
                                                                                                e28 = Ending.returned (Value.bool b30) ∧
                                                                                                  Keeps [n1, n2, n10, n17] w26 w29 ∧
                                                                                                    ((b27 == b30) = true →
                                                                                                        ∃ (b31 : Bool),
                                                                                                          Gives Proofs.Try.prog
                                                                                                              (binOpS BinOp.eql 23 (Operand.tmp 39) (Operand.tmp 40) (Value.agg #[Value.int IntKind.i64 x7, Value.int IntKind.i64 x8])
                                                                                                                (Value.agg #[Value.int IntKind.i64 x14, Value.int IntKind.i64 x15]))
                                                                                                              (Value.bool b31) ∧
                                                                                                            (b31 = true →
                                                                                                                ((x9 == x16) = true →
                                                                                                                    Calls Proofs.Try.prog 16 #[] w29 fun (e32 : Ending) (w33 : World) =>
                                                                                                                      ∃ (b34 : Bool),
                                                                                                                        e32 = Ending.returned (Value.bool b34) ∧ Keeps [n1, n2, n10, n17] w29 w33 ∧ R (Ending.returned (Value.bool b34)) w33) ∧
                                                                                                                  ((x9 == x16) = false → R (Ending.returned (Value.bool false)) w29)) ∧
                                                                                                              (b31 = false → R (Ending.returned (Value.bool false)) w29)) ∧
                                                                                                      ((b27 == b30) = false → R (Ending.returned (Value.bool false)) w29)) ∧
                                                                                  ((x21 == x24) = false → R (Ending.returned (Value.bool false)) w23))
theorem f3_eq (a_0 : Int) (a_1 : Int) (b_0 : Int) (b_1 : Int) (la : Option Addr) (ln : Nat) (lc : Nat) (w : World) (R : Ending → World → Prop) : (fnF Go.Proofs.Try.prog h3 Go.Proofs.Try.f3 [Value.agg #[Value.int IntKind.i64 a_0, Value.int IntKind.i64 a_1], Value.agg #[Value.int IntKind.i64 b_0, Value.int IntKind.i64 b_1], Value.slice la ln lc] w R).den = f3_vc a_0 a_1 b_0 b_1 la ln lc w R := by kernel_rfl
theorem f3_calls (a_0 : Int) (a_1 : Int) (b_0 : Int) (b_1 : Int) (la : Option Addr) (ln : Nat) (lc : Nat) (w : World) (R : Ending → World → Prop) (h : f3_vc a_0 a_1 b_0 b_1 la ln lc w R) : Calls Go.Proofs.Try.prog 3 (List.toArray [Value.agg #[Value.int IntKind.i64 a_0, Value.int IntKind.i64 a_1], Value.agg #[Value.int IntKind.i64 b_0, Value.int IntKind.i64 b_1], Value.slice la ln lc]) w R :=
  fn_sound (H := h3) (fn := Go.Proofs.Try.f3) (by kernel_rfl) (by kernel_rfl) (by kernel_rfl) ((f3_eq a_0 a_1 b_0 b_1 la ln lc w R).mpr h)


/-! manciple/manciplelaw02.RatioOrders -/
def h4 : Hints := ⟨[3, 4, 5], [], [30, 64, 25, 33, 37, 41, 45, 49, 52, 55, 58], [(1, [0, 1, 3, 4, 6, 7, 2, 5, 8, 9, 10, 11])], [], [], []⟩
def f4_vc (a_0 : Int) (a_1 : Int) (b_0 : Int) (b_1 : Int) (c_0 : Int) (c_1 : Int) (w : World) (R : Ending → World → Prop) : Prop :=
  ∀ (n1 : Nat),
    w.heap.size ≤ n1 →
      ∀ (n2 : Nat),
        w.heap.size ≤ n2 →
          ∀ (n3 : Nat),
            w.heap.size ≤ n3 →
              ∀ (w4 : World),
                Below w.heap.size w w4 →
                  Under [n1, n2, n3] w4 →
                    Calls Proofs.Try.prog 12 #[Value.agg #[Value.int IntKind.i64 a_0, Value.int IntKind.i64 a_1], Value.agg #[Value.int IntKind.i64 b_0, Value.int IntKind.i64 b_1]] w4 fun (e5 : Ending) (w6 : World) =>
                      ∃ (x7 : Int),
                        e5 = Ending.returned (Value.int IntKind.i64 x7) ∧
                          Keeps [n1, n2, n3] w4 w6 ∧
                            Calls Proofs.Try.prog 12 #[Value.agg #[Value.int IntKind.i64 b_0, Value.int IntKind.i64 b_1], Value.agg #[Value.int IntKind.i64 c_0, Value.int IntKind.i64 c_1]] w6 fun (e8 : Ending) (w9 : World) =>
                              ∃ (x10 : Int),
                                e8 = Ending.returned (Value.int IntKind.i64 x10) ∧
                                  Keeps [n1, n2, n3] w6 w9 ∧
                                    Calls Proofs.Try.prog 12 #[Value.agg #[Value.int IntKind.i64 a_0, Value.int IntKind.i64 a_1], Value.agg #[Value.int IntKind.i64 c_0, Value.int IntKind.i64 c_1]] w9 fun (e11 : Ending) (w12 : World) =>
                                      ∃ (x13 : Int),
                                        e11 = Ending.returned (Value.int IntKind.i64 x13) ∧
                                          Keeps [n1, n2, n3] w9 w12 ∧
                                            Calls Proofs.Try.prog 12 #[Value.agg #[Value.int IntKind.i64 b_0, Value.int IntKind.i64 b_1], Value.agg #[Value.int IntKind.i64 a_0, Value.int IntKind.i64 a_1]] w12
                                              fun (e14 : Ending) (w15 : World) =>
                                              ∃ (x16 : Int),
                                                e14 = Ending.returned (Value.int IntKind.i64 x16) ∧
                                                  Keeps [n1, n2, n3] w12 w15 ∧
                                                    ((x16 != IntKind.i64.wrap (0 - x7)) = true → R (Ending.returned (Value.bool false)) w15) ∧
                                                      ((x16 != IntKind.i64.wrap (0 - x7)) = false →
                                                        Calls Proofs.Try.prog 12 #[Value.agg #[Value.int IntKind.i64 a_0, Value.int IntKind.i64 a_1], Value.agg #[Value.int IntKind.i64 a_0, Value.int IntKind.i64 a_1]] w15
                                                          fun (e17 : Ending) (w18 : World) =>
                                                          ∃ (x19 : Int),
                                                            e17 = Ending.returned (Value.int IntKind.i64 x19) ∧
                                                              Keeps [n1, n2, n3] w15 w18 ∧
                                                                ((x19 != 0) = true → R (Ending.returned (Value.bool false)) w18) ∧
                                                                  ((x19 != 0) = false →
                                                                    Calls Proofs.Try.prog 14 #[Value.agg #[Value.int IntKind.i64 a_0, Value.int IntKind.i64 a_1]] w18 fun (e20 : Ending) (w21 : World) =>
                                                                      ∃ (b22 : Bool),
                                                                        e20 = Ending.returned (Value.bool b22) ∧
                                                                          Keeps [n1, n2, n3] w18 w21 ∧
                                                                            (b22 = true →
                                                                                Calls Proofs.Try.prog 14 #[Value.agg #[Value.int IntKind.i64 b_0, Value.int IntKind.i64 b_1]] w21 fun (e23 : Ending) (w24 : World) =>
                                                                                  ∃ (b25 : Bool),
                                                                                    e23 = Ending.returned (Value.bool b25) ∧
                                                                                      Keeps [n1, n2, n3] w21 w24 ∧
                                                                                        (b25 = true →
                                                                                            Calls Proofs.Try.prog 14 #[Value.agg #[Value.int IntKind.i64 c_0, Value.int IntKind.i64 c_1]] w24 fun (e26 : Ending) (w27 : World) =>
                                                                                              ∃ (b28 : Bool),
                                                                                                e26 = Ending.returned (Value.bool b28) ∧
                                                                                                  Keeps [n1, n2, n3] w24 w27 ∧
                                                                                                    (b28 = true →
                                                                                                        (decide (x7 ≤ 0) = true →
                                                                                                            (decide (x10 ≤ 0) = true →
                                                                                                                (decide (x13 > 0) = true → R (Ending.returned (Value.bool false)) w27) ∧
                                                                                                                  (decide (x13 > 0) = false →
                                                                                                                    ((x13 == 0) = true →
                                                                                                                        (decide (x7 < 0) = true → R (Ending.returned (Value.bool false)) w27) ∧
                                                                                                                          (decide (x7 < 0) = false →
                                                                                                                            (decide (x10 < 0) = true → R (Ending.returned (Value.bool false)) w27) ∧
                                                                                                                              (decide (x10 < 0) = false →
                                                                                                                                Calls Proofs.Try.prog 16 #[] w27 fun (e29 : Ending) (w30 : World) =>
                                                                                                                                  ∃ (b31 : Bool),
                                                                                                                                    e29 = Ending.returned (Value.bool b31) ∧
                                                                                                                                      Keeps [n1, n2, n3] w27 w30 ∧ R (Ending.returned (Value.bool b31)) w30))) ∧
                                                                                                                      ((x13 == 0) = false →
                                                                                                                        Calls Proofs.Try.prog 16 #[] w27 fun (e32 : Ending) (w33 : World) =>
                                                                                                                          ∃ (b34 : Bool),
                                                                                                                            e32 = Ending.returned (Value.bool b34) ∧ Keeps [n1, n2, n3] w27 w33 ∧ R (Ending.returned (Value.bool b34)) w33))) ∧
                                                                                                              (decide (x10 ≤ 0) = false →
                                                                                                                Calls Proofs.Try.prog 16 #[] w27 fun (e35 : Ending) (w36 : World) =>
                                                                                                                  ∃ (b37 : Bool),
                                                                                                                    e35 = Ending.returned (Value.bool b37) ∧ Keeps [n1, n2, n3] w27 w36 ∧ R (Ending.returned (Value.bool b37)) w36)) ∧
                                                                                                          (decide (x7 ≤ 0) = false →
                                                                                                            Calls Proofs.Try.prog 16 #[] w27 fun (e38 : Ending) (w39 : World) =>
                                                                                                              ∃ (b40 : Bool), e38 = Ending.returned (Value.bool b40) ∧ Keeps [n1, n2, n3] w27 w39 ∧ R (Ending.returned (Value.bool b40)) w39)) ∧
                                                                                                      (b28 = false →
                                                                                                        Calls Proofs.Try.prog 16 #[] w27 fun (e41 : Ending) (w42 : World) =>
                                                                                                          ∃ (b43 : Bool), e41 = Ending.returned (Value.bool b43) ∧ Keeps [n1, n2, n3] w27 w42 ∧ R (Ending.returned (Value.bool b43)) w42)) ∧
                                                                                          (b25 = false →
                                                                                            Calls Proofs.Try.prog 16 #[] w24 fun (e44 : Ending) (w45 : World) =>
                                                                                              ∃ (b46 : Bool), e44 = Ending.returned (Value.bool b46) ∧ Keeps [n1, n2, n3] w24 w45 ∧ R (Ending.returned (Value.bool b46)) w45)) ∧
                                                                              (b22 = false →
                                                                                Calls Proofs.Try.prog 16 #[] w21 fun (e47 : Ending) (w48 : World) =>
                                                                                  ∃ (b49 : Bool), e47 = Ending.returned (Value.bool b49) ∧ Keeps [n1, n2, n3] w21 w48 ∧ R (Ending.returned (Value.bool b49)) w48)))
theorem f4_eq (a_0 : Int) (a_1 : Int) (b_0 : Int) (b_1 : Int) (c_0 : Int) (c_1 : Int) (w : World) (R : Ending → World → Prop) : (fnF Go.Proofs.Try.prog h4 Go.Proofs.Try.f4 [Value.agg #[Value.int IntKind.i64 a_0, Value.int IntKind.i64 a_1], Value.agg #[Value.int IntKind.i64 b_0, Value.int IntKind.i64 b_1], Value.agg #[Value.int IntKind.i64 c_0, Value.int IntKind.i64 c_1]] w R).den = f4_vc a_0 a_1 b_0 b_1 c_0 c_1 w R := by kernel_rfl
theorem f4_calls (a_0 : Int) (a_1 : Int) (b_0 : Int) (b_1 : Int) (c_0 : Int) (c_1 : Int) (w : World) (R : Ending → World → Prop) (h : f4_vc a_0 a_1 b_0 b_1 c_0 c_1 w R) : Calls Go.Proofs.Try.prog 4 (List.toArray [Value.agg #[Value.int IntKind.i64 a_0, Value.int IntKind.i64 a_1], Value.agg #[Value.int IntKind.i64 b_0, Value.int IntKind.i64 b_1], Value.agg #[Value.int IntKind.i64 c_0, Value.int IntKind.i64 c_1]]) w R :=
  fn_sound (H := h4) (fn := Go.Proofs.Try.f4) (by kernel_rfl) (by kernel_rfl) (by kernel_rfl) ((f4_eq a_0 a_1 b_0 b_1 c_0 c_1 w R).mpr h)


/-! manciple/manciplelaw02.RatioLow -/
def h5 : Hints := ⟨[2, 5], [19, 62, 69, 78, 85, 91], [16, 71, 20, 24, 29, 34, 40, 46, 54, 58, 65, 74, 81, 88, 94], [], [], [], []⟩
def f5_vc (f_0 : Int) (f_1 : Int) (by' : Int) (w : World) (R : Ending → World → Prop) : Prop :=
  ∀ (n1 : Nat),
    w.heap.size ≤ n1 →
      ∀ (w2 : World),
        Below w.heap.size w w2 →
          Under [n1] w2 →
            Calls Proofs.Try.prog 17 #[Value.agg #[Value.int IntKind.i64 f_0, Value.int IntKind.i64 f_1]] w2 fun (e3 : Ending) (w4 : World) =>
              ∃ (x5 : Int),
                ∃ (x6 : Int),
                  e3 = Ending.returned (Value.agg #[Value.int IntKind.i64 x5, Value.int IntKind.i64 x6]) ∧
                    Keeps [n1] w2 w4 ∧
                      ∀ (n7 : Nat),
                        w4.heap.size ≤ n7 →
                          ∀ (w8 : World),
                            Evo [n7] w4 w8 →
                              Under [n1, n7] w8 →
                                Calls Proofs.Try.prog 18 #[Value.int IntKind.i64 f_0, Value.int IntKind.i64 f_1] w8 fun (e9 : Ending) (w10 : World) =>
                                  ∃ (x11 : Int),
                                    e9 = Ending.returned (Value.int IntKind.i64 x11) ∧
                                      Keeps [n1, n7] w8 w10 ∧
                                        Calls Proofs.Try.prog 14 #[Value.agg #[Value.int IntKind.i64 f_0, Value.int IntKind.i64 f_1]] w10 fun (e12 : Ending) (w13 : World) =>
                                          ∃ (b14 : Bool),
                                            e12 = Ending.returned (Value.bool b14) ∧
                                              Keeps [n1, n7] w10 w13 ∧
                                                ((!b14) = true →
                                                    ∃ (b15 : Bool),
                                                      Gives Proofs.Try.prog
                                                          (binOpS BinOp.eql 23 (Operand.tmp 17) (Operand.tmp 18) (Value.agg #[Value.int IntKind.i64 x5, Value.int IntKind.i64 x6])
                                                            (Value.agg #[Value.int IntKind.i64 0, Value.int IntKind.i64 0]))
                                                          (Value.bool b15) ∧
                                                        (b15 = true →
                                                            (decide (f_0 ≥ 0) = true →
                                                                (decide (f_1 ≥ 0) = true →
                                                                    Calls Proofs.Try.prog 16 #[] w13 fun (e16 : Ending) (w17 : World) =>
                                                                      ∃ (b18 : Bool), e16 = Ending.returned (Value.bool b18) ∧ Keeps [n1, n7] w13 w17 ∧ R (Ending.returned (Value.bool b18)) w17) ∧
                                                                  (decide (f_1 ≥ 0) = false →
                                                                    ((x11 == 0) = true →
                                                                        Calls Proofs.Try.prog 16 #[] w13 fun (e19 : Ending) (w20 : World) =>
                                                                          ∃ (b21 : Bool), e19 = Ending.returned (Value.bool b21) ∧ Keeps [n1, n7] w13 w20 ∧ R (Ending.returned (Value.bool b21)) w20) ∧
                                                                      ((x11 == 0) = false → R (Ending.returned (Value.bool false)) w13))) ∧
                                                              (decide (f_0 ≥ 0) = false →
                                                                ((x11 == 0) = true →
                                                                    Calls Proofs.Try.prog 16 #[] w13 fun (e22 : Ending) (w23 : World) =>
                                                                      ∃ (b24 : Bool), e22 = Ending.returned (Value.bool b24) ∧ Keeps [n1, n7] w13 w23 ∧ R (Ending.returned (Value.bool b24)) w23) ∧
                                                                  ((x11 == 0) = false → R (Ending.returned (Value.bool false)) w13))) ∧
                                                          (b15 = false → R (Ending.returned (Value.bool false)) w13)) ∧
                                                  ((!b14) = false →
                                                    Calls Proofs.Try.prog 14 #[Value.agg #[Value.int IntKind.i64 x5, Value.int IntKind.i64 x6]] w13 fun (e25 : Ending) (w26 : World) =>
                                                      ∃ (b27 : Bool),
                                                        e25 = Ending.returned (Value.bool b27) ∧
                                                          Keeps [n1, n7] w13 w26 ∧
                                                            ((!b27) = true → R (Ending.returned (Value.bool false)) w26) ∧
                                                              ((!b27) = false →
                                                                Calls Proofs.Try.prog 12 #[Value.agg #[Value.int IntKind.i64 f_0, Value.int IntKind.i64 f_1], Value.agg #[Value.int IntKind.i64 x5, Value.int IntKind.i64 x6]] w26
                                                                  fun (e28 : Ending) (w29 : World) =>
                                                                  ∃ (x30 : Int),
                                                                    e28 = Ending.returned (Value.int IntKind.i64 x30) ∧
                                                                      Keeps [n1, n7] w26 w29 ∧
                                                                        ((x30 != 0) = true → R (Ending.returned (Value.bool false)) w29) ∧
                                                                          ((x30 != 0) = false →
                                                                            Calls Proofs.Try.prog 18 #[Value.int IntKind.i64 x5, Value.int IntKind.i64 x6] w29 fun (e31 : Ending) (w32 : World) =>
                                                                              ∃ (x33 : Int),
                                                                                e31 = Ending.returned (Value.int IntKind.i64 x33) ∧
                                                                                  Keeps [n1, n7] w29 w32 ∧
                                                                                    ((x33 != 1) = true → R (Ending.returned (Value.bool false)) w32) ∧
                                                                                      ((x33 != 1) = false →
                                                                                        (decide (x11 < 1) = true → R (Ending.returned (Value.bool false)) w32) ∧
                                                                                          (decide (x11 < 1) = false →
                                                                                            ∃ (x34 : Int),
                                                                                              Gives Proofs.Try.prog (binOpS BinOp.rem 2 (Operand.tmp 60) (Operand.tmp 61) (Value.int IntKind.i64 f_0) (Value.int IntKind.i64 x11))
                                                                                                  (Value.int IntKind.i64 x34) ∧
                                                                                                ((x34 != 0) = true → R (Ending.returned (Value.bool false)) w32) ∧
                                                                                                  ((x34 != 0) = false →
                                                                                                    ∃ (x35 : Int),
                                                                                                      Gives Proofs.Try.prog (binOpS BinOp.rem 2 (Operand.tmp 67) (Operand.tmp 68) (Value.int IntKind.i64 f_1) (Value.int IntKind.i64 x11))
                                                                                                          (Value.int IntKind.i64 x35) ∧
                                                                                                        ((x35 != 0) = true → R (Ending.returned (Value.bool false)) w32) ∧
                                                                                                          ((x35 != 0) = false →
                                                                                                            (decide (by' < 1) = true →
                                                                                                                Calls Proofs.Try.prog 16 #[] w32 fun (e36 : Ending) (w37 : World) =>
                                                                                                                  ∃ (b38 : Bool), e36 = Ending.returned (Value.bool b38) ∧ Keeps [n1, n7] w32 w37 ∧ R (Ending.returned (Value.bool b38)) w37) ∧
                                                                                                              (decide (by' < 1) = false →
                                                                                                                ∃ (x39 : Int),
                                                                                                                  Gives Proofs.Try.prog
                                                                                                                      (binOpS BinOp.rem 2 (Operand.tmp 76) (Operand.tmp 77) (Value.int IntKind.i64 f_0) (Value.int IntKind.i64 by'))
                                                                                                                      (Value.int IntKind.i64 x39) ∧
                                                                                                                    ((x39 != 0) = true →
                                                                                                                        Calls Proofs.Try.prog 16 #[] w32 fun (e40 : Ending) (w41 : World) =>
                                                                                                                          ∃ (b42 : Bool),
                                                                                                                            e40 = Ending.returned (Value.bool b42) ∧ Keeps [n1, n7] w32 w41 ∧ R (Ending.returned (Value.bool b42)) w41) ∧
                                                                                                                      ((x39 != 0) = false →
                                                                                                                        ∃ (x43 : Int),
                                                                                                                          Gives Proofs.Try.prog
                                                                                                                              (binOpS BinOp.rem 2 (Operand.tmp 83) (Operand.tmp 84) (Value.int IntKind.i64 f_1) (Value.int IntKind.i64 by'))
                                                                                                                              (Value.int IntKind.i64 x43) ∧
                                                                                                                            ((x43 != 0) = true →
                                                                                                                                Calls Proofs.Try.prog 16 #[] w32 fun (e44 : Ending) (w45 : World) =>
                                                                                                                                  ∃ (b46 : Bool),
                                                                                                                                    e44 = Ending.returned (Value.bool b46) ∧ Keeps [n1, n7] w32 w45 ∧ R (Ending.returned (Value.bool b46)) w45) ∧
                                                                                                                              ((x43 != 0) = false →
                                                                                                                                ∃ (x47 : Int),
                                                                                                                                  Gives Proofs.Try.prog
                                                                                                                                      (binOpS BinOp.rem 2 (Operand.tmp 89) (Operand.tmp 90) (Value.int IntKind.i64 x11)
                                                                                                                                        (Value.int IntKind.i64 by'))
                                                                                                                                      (Value.int IntKind.i64 x47) ∧
                                                                                                                                    ((x47 == 0) = true →
                                                                                                                                        Calls Proofs.Try.prog 16 #[] w32 fun (e48 : Ending) (w49 : World) =>
                                                                                                                                          ∃ (b50 : Bool),
                                                                                                                                            e48 = Ending.returned (Value.bool b50) ∧
                                                                                                                                              Keeps [n1, n7] w32 w49 ∧ R (Ending.returned (Value.bool b50)) w49) ∧
                                                                                                                                      ((x47 == 0) = false → R (Ending.returned (Value.bool false)) w32)))))))))))
theorem f5_eq (f_0 : Int) (f_1 : Int) (by' : Int) (w : World) (R : Ending → World → Prop) : (fnF Go.Proofs.Try.prog h5 Go.Proofs.Try.f5 [Value.agg #[Value.int IntKind.i64 f_0, Value.int IntKind.i64 f_1], Value.int IntKind.i64 by'] w R).den = f5_vc f_0 f_1 by' w R := by kernel_rfl
theorem f5_calls (f_0 : Int) (f_1 : Int) (by' : Int) (w : World) (R : Ending → World → Prop) (h : f5_vc f_0 f_1 by' w R) : Calls Go.Proofs.Try.prog 5 (List.toArray [Value.agg #[Value.int IntKind.i64 f_0, Value.int IntKind.i64 f_1], Value.int IntKind.i64 by']) w R :=
  fn_sound (H := h5) (fn := Go.Proofs.Try.f5) (by kernel_rfl) (by kernel_rfl) (by kernel_rfl) ((f5_eq f_0 f_1 by' w R).mpr h)


/-! manciple/manciplelaw03.QuantSums -/
def h6 : Hints := ⟨[], [52, 63, 73, 83], [22, 42, 46, 107, 38, 93, 98, 103], [], [], [(8, ⟨[(11, .int .i64)], []⟩)], []⟩
def f6_vc (most : Int) (la : Option Addr) (ln : Nat) (lc : Nat) (n : Int) (w : World) (R : Ending → World → Prop) : Prop :=
  (decide ((↑ln : Int) > 100) = true → R (Ending.returned (Value.bool true)) w) ∧
    (decide ((↑ln : Int) > 100) = false →
      Calls Proofs.Try.prog 19 #[Value.int IntKind.i64 most, Value.slice la ln lc] w fun (e1 : Ending) (w2 : World) =>
        ∃ (x3 : Int),
          ∃ (b4 : Bool),
            e1 = Ending.returned (Value.tuple #[Value.int IntKind.i64 x3, Value.bool b4]) ∧
              Calls Proofs.Try.prog 20 #[Value.int IntKind.i64 most, Value.slice la ln lc] w2 fun (e5 : Ending) (w6 : World) =>
                ∃ (x7 : Int),
                  ∃ (b8 : Bool),
                    e5 = Ending.returned (Value.tuple #[Value.int IntKind.i64 x7, Value.bool b8]) ∧
                      ((x3 != x7) = true → R (Ending.returned (Value.bool false)) w6) ∧
                        ((x3 != x7) = false →
                          ((!b4 == b8) = true → R (Ending.returned (Value.bool false)) w6) ∧
                            ((!b4 == b8) = false →
                              ∃ (J9 : Int × Unit → World → Prop),
                                ∃ (J10 : Int × Unit → World → Nat),
                                  J9 (0, ()) w6 ∧
                                    ∀ (x11 : Int) (w12 : World),
                                      J9 (x11, ()) w12 →
                                        (decide (x11 < (↑ln : Int)) = true →
                                            ∃ (a13 : Option Addr),
                                              Gives Proofs.Try.prog (Instr.indexAt 36 (Value.slice la ln lc) (Value.int IntKind.i64 x11)) (Value.pointer a13) ∧
                                                ∃ (x14 : Int),
                                                  Reads Proofs.Try.prog [] (Instr.loadAt 2 (Value.pointer a13)) w12 (Value.int IntKind.i64 x14) ∧
                                                    Calls Proofs.Try.prog 21 #[Value.int IntKind.i64 x14, Value.int IntKind.i64 n, Value.int IntKind.i64 most] w12 fun (e15 : Ending) (w16 : World) =>
                                                      ∃ (x17 : Int),
                                                        ∃ (b18 : Bool),
                                                          e15 = Ending.returned (Value.tuple #[Value.int IntKind.i64 x17, Value.bool b18]) ∧
                                                            ∃ (a19 : Option Addr),
                                                              Gives Proofs.Try.prog (Instr.indexAt 36 (Value.slice la ln lc) (Value.int IntKind.i64 x11)) (Value.pointer a19) ∧
                                                                ∃ (x20 : Int),
                                                                  Reads Proofs.Try.prog [] (Instr.loadAt 2 (Value.pointer a19)) w16 (Value.int IntKind.i64 x20) ∧
                                                                    OpW Proofs.Try.prog (valueS (Instr.buildSlice 36 2 #[(0, Value.int IntKind.i64 x20), (1, Value.int IntKind.i64 n)])) w16 fun (v21 : Value) (w22 : World) =>
                                                                      ∃ (a23 : Option Addr),
                                                                        ∃ (n24 : Nat),
                                                                          ∃ (n25 : Nat),
                                                                            v21 = Value.slice a23 n24 n25 ∧
                                                                              Calls Proofs.Try.prog 20 #[Value.int IntKind.i64 most, Value.slice a23 n24 n25] w22 fun (e26 : Ending) (w27 : World) =>
                                                                                ∃ (x28 : Int),
                                                                                  ∃ (b29 : Bool),
                                                                                    e26 = Ending.returned (Value.tuple #[Value.int IntKind.i64 x28, Value.bool b29]) ∧
                                                                                      ∃ (a30 : Option Addr),
                                                                                        Gives Proofs.Try.prog (Instr.indexAt 36 (Value.slice la ln lc) (Value.int IntKind.i64 x11)) (Value.pointer a30) ∧
                                                                                          ∃ (x31 : Int),
                                                                                            Reads Proofs.Try.prog [] (Instr.loadAt 2 (Value.pointer a30)) w27 (Value.int IntKind.i64 x31) ∧
                                                                                              Calls Proofs.Try.prog 22 #[Value.int IntKind.i64 x31, Value.int IntKind.i64 n, Value.int IntKind.i64 most] w27 fun (e32 : Ending) (w33 : World) =>
                                                                                                ∃ (x34 : Int),
                                                                                                  ∃ (b35 : Bool),
                                                                                                    e32 = Ending.returned (Value.tuple #[Value.int IntKind.i64 x34, Value.bool b35]) ∧
                                                                                                      ∃ (a36 : Option Addr),
                                                                                                        Gives Proofs.Try.prog (Instr.indexAt 36 (Value.slice la ln lc) (Value.int IntKind.i64 x11)) (Value.pointer a36) ∧
                                                                                                          ∃ (x37 : Int),
                                                                                                            Reads Proofs.Try.prog [] (Instr.loadAt 2 (Value.pointer a36)) w33 (Value.int IntKind.i64 x37) ∧
                                                                                                              Calls Proofs.Try.prog 23 #[Value.int IntKind.i64 x37, Value.int IntKind.i64 n, Value.int IntKind.i64 most] w33
                                                                                                                fun (e38 : Ending) (w39 : World) =>
                                                                                                                ∃ (x40 : Int),
                                                                                                                  ∃ (b41 : Bool),
                                                                                                                    e38 = Ending.returned (Value.tuple #[Value.int IntKind.i64 x40, Value.bool b41]) ∧
                                                                                                                      ((x17 != x28) = true → R (Ending.returned (Value.bool false)) w39) ∧
                                                                                                                        ((x17 != x28) = false →
                                                                                                                          ((!b18 == b29) = true → R (Ending.returned (Value.bool false)) w39) ∧
                                                                                                                            ((!b18 == b29) = false →
                                                                                                                              ((x34 != x40) = true → R (Ending.returned (Value.bool false)) w39) ∧
                                                                                                                                ((x34 != x40) = false →
                                                                                                                                  ((!b35 == b41) = true → R (Ending.returned (Value.bool false)) w39) ∧
                                                                                                                                    ((!b35 == b41) = false →
                                                                                                                                      J9 (IntKind.i64.wrap (x11 + 1), ()) w39 ∧
                                                                                                                                        J10 (IntKind.i64.wrap (x11 + 1), ()) w39 < J10 (x11, ()) w12))))) ∧
                                          (decide (x11 < (↑ln : Int)) = false →
                                            Calls Proofs.Try.prog 24 #[] w12 fun (e42 : Ending) (w43 : World) => ∃ (b44 : Bool), e42 = Ending.returned (Value.bool b44) ∧ R (Ending.returned (Value.bool b44)) w43))))
theorem f6_eq (most : Int) (la : Option Addr) (ln : Nat) (lc : Nat) (n : Int) (w : World) (R : Ending → World → Prop) : (fnF Go.Proofs.Try.prog h6 Go.Proofs.Try.f6 [Value.int IntKind.i64 most, Value.slice la ln lc, Value.int IntKind.i64 n] w R).den = f6_vc most la ln lc n w R := by kernel_rfl
theorem f6_calls (most : Int) (la : Option Addr) (ln : Nat) (lc : Nat) (n : Int) (w : World) (R : Ending → World → Prop) (h : f6_vc most la ln lc n w R) : Calls Go.Proofs.Try.prog 6 (List.toArray [Value.int IntKind.i64 most, Value.slice la ln lc, Value.int IntKind.i64 n]) w R :=
  fn_sound (H := h6) (fn := Go.Proofs.Try.f6) (by kernel_rfl) (by kernel_rfl) (by kernel_rfl) ((f6_eq most la ln lc n w R).mpr h)


/-! manciple/manciplelaw03.QuantTexts -/
def h7 : Hints := ⟨[], [], [12, 53, 26, 35, 41, 46, 48, 55, 61, 64, 69], [], [], [], []⟩
def f7_vc (n : Int) (s : ByteArray) (w : World) (R : Ending → World → Prop) : Prop :=
  (decide ((↑s.size : Int) > 100) = true → R (Ending.returned (Value.bool true)) w) ∧
    (decide ((↑s.size : Int) > 100) = false →
      Calls Proofs.Try.prog 26 #[Value.int IntKind.i64 n] w fun (e1 : Ending) (w2 : World) =>
        ∃ (s3 : ByteArray),
          e1 = Ending.returned (Value.string s3) ∧
            Calls Proofs.Try.prog 25 #[Value.string s3] w2 fun (e4 : Ending) (w5 : World) =>
              ∃ (x6 : Int),
                ∃ (b7 : Bool),
                  e4 = Ending.returned (Value.tuple #[Value.int IntKind.i64 x6, Value.bool b7]) ∧
                    Calls Proofs.Try.prog 25 #[Value.string s] w5 fun (e8 : Ending) (w9 : World) =>
                      ∃ (x10 : Int),
                        ∃ (b11 : Bool),
                          e8 = Ending.returned (Value.tuple #[Value.int IntKind.i64 x10, Value.bool b11]) ∧
                            (decide (n ≥ 0) = true →
                                Calls Proofs.Try.prog 27 #[Value.int IntKind.i64 n] w9 fun (e12 : Ending) (w13 : World) =>
                                  ∃ (s14 : ByteArray),
                                    e12 = Ending.returned (Value.string s14) ∧
                                      Calls Proofs.Try.prog 26 #[Value.int IntKind.i64 n] w13 fun (e15 : Ending) (w16 : World) =>
                                        ∃ (s17 : ByteArray),
                                          e15 = Ending.returned (Value.string s17) ∧
                                            ((!s14.toList == s17.toList) = true → R (Ending.returned (Value.bool false)) w16) ∧
                                              ((!s14.toList == s17.toList) = false →
                                                Calls Proofs.Try.prog 28 #[Value.int IntKind.i64 n] w16 fun (e18 : Ending) (w19 : World) =>
                                                  ∃ (b20 : Bool),
                                                    e18 = Ending.returned (Value.bool b20) ∧
                                                      ((!b20 == decide (n ≤ 9007199254740992)) = true → R (Ending.returned (Value.bool false)) w19) ∧
                                                        ((!b20 == decide (n ≤ 9007199254740992)) = false →
                                                          ((!b7 == decide (n ≤ 9007199254740992)) = true → R (Ending.returned (Value.bool false)) w19) ∧
                                                            ((!b7 == decide (n ≤ 9007199254740992)) = false →
                                                              (b7 = true →
                                                                  ((x6 != n) = true → R (Ending.returned (Value.bool false)) w19) ∧
                                                                    ((x6 != n) = false →
                                                                      (b11 = true →
                                                                          Calls Proofs.Try.prog 26 #[Value.int IntKind.i64 x10] w19 fun (e21 : Ending) (w22 : World) =>
                                                                            ∃ (s23 : ByteArray),
                                                                              e21 = Ending.returned (Value.string s23) ∧
                                                                                ((s23.toList == s.toList) = true →
                                                                                    Calls Proofs.Try.prog 24 #[] w22 fun (e24 : Ending) (w25 : World) =>
                                                                                      ∃ (b26 : Bool), e24 = Ending.returned (Value.bool b26) ∧ R (Ending.returned (Value.bool b26)) w25) ∧
                                                                                  ((s23.toList == s.toList) = false →
                                                                                    ((!b11) = true →
                                                                                        ((x10 == 0) = true →
                                                                                            Calls Proofs.Try.prog 24 #[] w22 fun (e27 : Ending) (w28 : World) =>
                                                                                              ∃ (b29 : Bool), e27 = Ending.returned (Value.bool b29) ∧ R (Ending.returned (Value.bool b29)) w28) ∧
                                                                                          ((x10 == 0) = false → R (Ending.returned (Value.bool false)) w22)) ∧
                                                                                      ((!b11) = false → R (Ending.returned (Value.bool false)) w22))) ∧
                                                                        (b11 = false →
                                                                          ((!b11) = true →
                                                                              ((x10 == 0) = true →
                                                                                  Calls Proofs.Try.prog 24 #[] w19 fun (e30 : Ending) (w31 : World) =>
                                                                                    ∃ (b32 : Bool), e30 = Ending.returned (Value.bool b32) ∧ R (Ending.returned (Value.bool b32)) w31) ∧
                                                                                ((x10 == 0) = false → R (Ending.returned (Value.bool false)) w19)) ∧
                                                                            ((!b11) = false → R (Ending.returned (Value.bool false)) w19)))) ∧
                                                                (b7 = false →
                                                                  (b11 = true →
                                                                      Calls Proofs.Try.prog 26 #[Value.int IntKind.i64 x10] w19 fun (e33 : Ending) (w34 : World) =>
                                                                        ∃ (s35 : ByteArray),
                                                                          e33 = Ending.returned (Value.string s35) ∧
                                                                            ((s35.toList == s.toList) = true →
                                                                                Calls Proofs.Try.prog 24 #[] w34 fun (e36 : Ending) (w37 : World) =>
                                                                                  ∃ (b38 : Bool), e36 = Ending.returned (Value.bool b38) ∧ R (Ending.returned (Value.bool b38)) w37) ∧
                                                                              ((s35.toList == s.toList) = false →
                                                                                ((!b11) = true →
                                                                                    ((x10 == 0) = true →
                                                                                        Calls Proofs.Try.prog 24 #[] w34 fun (e39 : Ending) (w40 : World) =>
                                                                                          ∃ (b41 : Bool), e39 = Ending.returned (Value.bool b41) ∧ R (Ending.returned (Value.bool b41)) w40) ∧
                                                                                      ((x10 == 0) = false → R (Ending.returned (Value.bool false)) w34)) ∧
                                                                                  ((!b11) = false → R (Ending.returned (Value.bool false)) w34))) ∧
                                                                    (b11 = false →
                                                                      ((!b11) = true →
                                                                          ((x10 == 0) = true →
                                                                              Calls Proofs.Try.prog 24 #[] w19 fun (e42 : Ending) (w43 : World) =>
                                                                                ∃ (b44 : Bool), e42 = Ending.returned (Value.bool b44) ∧ R (Ending.returned (Value.bool b44)) w43) ∧
                                                                            ((x10 == 0) = false → R (Ending.returned (Value.bool false)) w19)) ∧
                                                                        ((!b11) = false → R (Ending.returned (Value.bool false)) w19))))))) ∧
                              (decide (n ≥ 0) = false →
                                Calls Proofs.Try.prog 27 #[Value.int IntKind.i64 n] w9 fun (e45 : Ending) (w46 : World) =>
                                  ∃ (s47 : ByteArray),
                                    e45 = Ending.returned (Value.string s47) ∧
                                      Calls Proofs.Try.prog 26 #[Value.int IntKind.i64 n] w46 fun (e48 : Ending) (w49 : World) =>
                                        ∃ (s50 : ByteArray),
                                          e48 = Ending.returned (Value.string s50) ∧
                                            ((!s47.toList == s50.toList) = true → R (Ending.returned (Value.bool false)) w49) ∧
                                              ((!s47.toList == s50.toList) = false →
                                                Calls Proofs.Try.prog 28 #[Value.int IntKind.i64 n] w49 fun (e51 : Ending) (w52 : World) =>
                                                  ∃ (b53 : Bool),
                                                    e51 = Ending.returned (Value.bool b53) ∧
                                                      ((!b53 == false) = true → R (Ending.returned (Value.bool false)) w52) ∧
                                                        ((!b53 == false) = false →
                                                          ((!b7 == false) = true → R (Ending.returned (Value.bool false)) w52) ∧
                                                            ((!b7 == false) = false →
                                                              (b7 = true →
                                                                  ((x6 != n) = true → R (Ending.returned (Value.bool false)) w52) ∧
                                                                    ((x6 != n) = false →
                                                                      (b11 = true →
                                                                          Calls Proofs.Try.prog 26 #[Value.int IntKind.i64 x10] w52 fun (e54 : Ending) (w55 : World) =>
                                                                            ∃ (s56 : ByteArray),
                                                                              e54 = Ending.returned (Value.string s56) ∧
                                                                                ((s56.toList == s.toList) = true →
                                                                                    Calls Proofs.Try.prog 24 #[] w55 fun (e57 : Ending) (w58 : World) =>
                                                                                      ∃ (b59 : Bool), e57 = Ending.returned (Value.bool b59) ∧ R (Ending.returned (Value.bool b59)) w58) ∧
                                                                                  ((s56.toList == s.toList) = false →
                                                                                    ((!b11) = true →
                                                                                        ((x10 == 0) = true →
                                                                                            Calls Proofs.Try.prog 24 #[] w55 fun (e60 : Ending) (w61 : World) =>
                                                                                              ∃ (b62 : Bool), e60 = Ending.returned (Value.bool b62) ∧ R (Ending.returned (Value.bool b62)) w61) ∧
                                                                                          ((x10 == 0) = false → R (Ending.returned (Value.bool false)) w55)) ∧
                                                                                      ((!b11) = false → R (Ending.returned (Value.bool false)) w55))) ∧
                                                                        (b11 = false →
                                                                          ((!b11) = true →
                                                                              ((x10 == 0) = true →
                                                                                  Calls Proofs.Try.prog 24 #[] w52 fun (e63 : Ending) (w64 : World) =>
                                                                                    ∃ (b65 : Bool), e63 = Ending.returned (Value.bool b65) ∧ R (Ending.returned (Value.bool b65)) w64) ∧
                                                                                ((x10 == 0) = false → R (Ending.returned (Value.bool false)) w52)) ∧
                                                                            ((!b11) = false → R (Ending.returned (Value.bool false)) w52)))) ∧
                                                                (b7 = false →
                                                                  (b11 = true →
                                                                      Calls Proofs.Try.prog 26 #[Value.int IntKind.i64 x10] w52 fun (e66 : Ending) (w67 : World) =>
                                                                        ∃ (s68 : ByteArray),
                                                                          e66 = Ending.returned (Value.string s68) ∧
                                                                            ((s68.toList == s.toList) = true →
                                                                                Calls Proofs.Try.prog 24 #[] w67 fun (e69 : Ending) (w70 : World) =>
                                                                                  ∃ (b71 : Bool), e69 = Ending.returned (Value.bool b71) ∧ R (Ending.returned (Value.bool b71)) w70) ∧
                                                                              ((s68.toList == s.toList) = false →
                                                                                ((!b11) = true →
                                                                                    ((x10 == 0) = true →
                                                                                        Calls Proofs.Try.prog 24 #[] w67 fun (e72 : Ending) (w73 : World) =>
                                                                                          ∃ (b74 : Bool), e72 = Ending.returned (Value.bool b74) ∧ R (Ending.returned (Value.bool b74)) w73) ∧
                                                                                      ((x10 == 0) = false → R (Ending.returned (Value.bool false)) w67)) ∧
                                                                                  ((!b11) = false → R (Ending.returned (Value.bool false)) w67))) ∧
                                                                    (b11 = false →
                                                                      ((!b11) = true →
                                                                          ((x10 == 0) = true →
                                                                              Calls Proofs.Try.prog 24 #[] w52 fun (e75 : Ending) (w76 : World) =>
                                                                                ∃ (b77 : Bool), e75 = Ending.returned (Value.bool b77) ∧ R (Ending.returned (Value.bool b77)) w76) ∧
                                                                            ((x10 == 0) = false → R (Ending.returned (Value.bool false)) w52)) ∧
                                                                        ((!b11) = false → R (Ending.returned (Value.bool false)) w52))))))))
theorem f7_eq (n : Int) (s : ByteArray) (w : World) (R : Ending → World → Prop) : (fnF Go.Proofs.Try.prog h7 Go.Proofs.Try.f7 [Value.int IntKind.i64 n, Value.string s] w R).den = f7_vc n s w R := by kernel_rfl
theorem f7_calls (n : Int) (s : ByteArray) (w : World) (R : Ending → World → Prop) (h : f7_vc n s w R) : Calls Go.Proofs.Try.prog 7 (List.toArray [Value.int IntKind.i64 n, Value.string s]) w R :=
  fn_sound (H := h7) (fn := Go.Proofs.Try.f7) (by kernel_rfl) (by kernel_rfl) (by kernel_rfl) ((f7_eq n s w R).mpr h)


/-! manciple/manciplelaw03.QuantBack -/
def h8 : Hints := ⟨[], [], [71, 73, 38, 43, 47, 54, 56, 64, 67, 76, 86, 91, 96, 101], [], [], [], []⟩
def f8_vc (a : Int) (b : Int) (most : Int) (w : World) (R : Ending → World → Prop) : Prop :=
  Calls Proofs.Try.prog 21 #[Value.int IntKind.i64 a, Value.int IntKind.i64 b, Value.int IntKind.i64 most] w fun (e1 : Ending) (w2 : World) =>
    ∃ (x3 : Int),
      ∃ (b4 : Bool),
        e1 = Ending.returned (Value.tuple #[Value.int IntKind.i64 x3, Value.bool b4]) ∧
          Calls Proofs.Try.prog 21 #[Value.int IntKind.i64 b, Value.int IntKind.i64 a, Value.int IntKind.i64 most] w2 fun (e5 : Ending) (w6 : World) =>
            ∃ (x7 : Int),
              ∃ (b8 : Bool),
                e5 = Ending.returned (Value.tuple #[Value.int IntKind.i64 x7, Value.bool b8]) ∧
                  Calls Proofs.Try.prog 29 #[Value.int IntKind.i64 a, Value.int IntKind.i64 b] w6 fun (e9 : Ending) (w10 : World) =>
                    ∃ (x11 : Int),
                      ∃ (b12 : Bool),
                        e9 = Ending.returned (Value.tuple #[Value.int IntKind.i64 x11, Value.bool b12]) ∧
                          ((x3 != x7) = true → R (Ending.returned (Value.bool false)) w10) ∧
                            ((x3 != x7) = false →
                              ((!b4 == b8) = true → R (Ending.returned (Value.bool false)) w10) ∧
                                ((!b4 == b8) = false →
                                  (decide (b ≥ 0) = true →
                                      ((!b12 == decide (b ≤ a)) = true → R (Ending.returned (Value.bool false)) w10) ∧
                                        ((!b12 == decide (b ≤ a)) = false →
                                          (b12 = true →
                                              ((x11 != IntKind.i64.wrap (a - b)) = true → R (Ending.returned (Value.bool false)) w10) ∧
                                                ((x11 != IntKind.i64.wrap (a - b)) = false →
                                                  ((!b12) = true →
                                                      ((x11 != 0) = true → R (Ending.returned (Value.bool false)) w10) ∧
                                                        ((x11 != 0) = false →
                                                          ((!b4) = true →
                                                              ((x3 == 0) = true →
                                                                  Calls Proofs.Try.prog 24 #[] w10 fun (e13 : Ending) (w14 : World) => ∃ (b15 : Bool), e13 = Ending.returned (Value.bool b15) ∧ R (Ending.returned (Value.bool b15)) w14) ∧
                                                                ((x3 == 0) = false → R (Ending.returned (Value.bool false)) w10)) ∧
                                                            ((!b4) = false →
                                                              Calls Proofs.Try.prog 29 #[Value.int IntKind.i64 x3, Value.int IntKind.i64 b] w10 fun (e16 : Ending) (w17 : World) =>
                                                                ∃ (x18 : Int),
                                                                  ∃ (b19 : Bool),
                                                                    e16 = Ending.returned (Value.tuple #[Value.int IntKind.i64 x18, Value.bool b19]) ∧
                                                                      (b19 = true →
                                                                          ((x18 == a) = true →
                                                                              (decide (x3 ≤ most) = true →
                                                                                  (decide (x3 ≥ a) = true →
                                                                                      Calls Proofs.Try.prog 24 #[] w17 fun (e20 : Ending) (w21 : World) =>
                                                                                        ∃ (b22 : Bool), e20 = Ending.returned (Value.bool b22) ∧ R (Ending.returned (Value.bool b22)) w21) ∧
                                                                                    (decide (x3 ≥ a) = false → R (Ending.returned (Value.bool false)) w17)) ∧
                                                                                (decide (x3 ≤ most) = false → R (Ending.returned (Value.bool false)) w17)) ∧
                                                                            ((x18 == a) = false → R (Ending.returned (Value.bool false)) w17)) ∧
                                                                        (b19 = false → R (Ending.returned (Value.bool false)) w17)))) ∧
                                                    ((!b12) = false →
                                                      ((!b4) = true →
                                                          ((x3 == 0) = true →
                                                              Calls Proofs.Try.prog 24 #[] w10 fun (e23 : Ending) (w24 : World) => ∃ (b25 : Bool), e23 = Ending.returned (Value.bool b25) ∧ R (Ending.returned (Value.bool b25)) w24) ∧
                                                            ((x3 == 0) = false → R (Ending.returned (Value.bool false)) w10)) ∧
                                                        ((!b4) = false →
                                                          Calls Proofs.Try.prog 29 #[Value.int IntKind.i64 x3, Value.int IntKind.i64 b] w10 fun (e26 : Ending) (w27 : World) =>
                                                            ∃ (x28 : Int),
                                                              ∃ (b29 : Bool),
                                                                e26 = Ending.returned (Value.tuple #[Value.int IntKind.i64 x28, Value.bool b29]) ∧
                                                                  (b29 = true →
                                                                      ((x28 == a) = true →
                                                                          (decide (x3 ≤ most) = true →
                                                                              (decide (x3 ≥ a) = true →
                                                                                  Calls Proofs.Try.prog 24 #[] w27 fun (e30 : Ending) (w31 : World) =>
                                                                                    ∃ (b32 : Bool), e30 = Ending.returned (Value.bool b32) ∧ R (Ending.returned (Value.bool b32)) w31) ∧
                                                                                (decide (x3 ≥ a) = false → R (Ending.returned (Value.bool false)) w27)) ∧
                                                                            (decide (x3 ≤ most) = false → R (Ending.returned (Value.bool false)) w27)) ∧
                                                                        ((x28 == a) = false → R (Ending.returned (Value.bool false)) w27)) ∧
                                                                    (b29 = false → R (Ending.returned (Value.bool false)) w27))))) ∧
                                            (b12 = false →
                                              ((!b12) = true →
                                                  ((x11 != 0) = true → R (Ending.returned (Value.bool false)) w10) ∧
                                                    ((x11 != 0) = false →
                                                      ((!b4) = true →
                                                          ((x3 == 0) = true →
                                                              Calls Proofs.Try.prog 24 #[] w10 fun (e33 : Ending) (w34 : World) => ∃ (b35 : Bool), e33 = Ending.returned (Value.bool b35) ∧ R (Ending.returned (Value.bool b35)) w34) ∧
                                                            ((x3 == 0) = false → R (Ending.returned (Value.bool false)) w10)) ∧
                                                        ((!b4) = false →
                                                          Calls Proofs.Try.prog 29 #[Value.int IntKind.i64 x3, Value.int IntKind.i64 b] w10 fun (e36 : Ending) (w37 : World) =>
                                                            ∃ (x38 : Int),
                                                              ∃ (b39 : Bool),
                                                                e36 = Ending.returned (Value.tuple #[Value.int IntKind.i64 x38, Value.bool b39]) ∧
                                                                  (b39 = true →
                                                                      ((x38 == a) = true →
                                                                          (decide (x3 ≤ most) = true →
                                                                              (decide (x3 ≥ a) = true →
                                                                                  Calls Proofs.Try.prog 24 #[] w37 fun (e40 : Ending) (w41 : World) =>
                                                                                    ∃ (b42 : Bool), e40 = Ending.returned (Value.bool b42) ∧ R (Ending.returned (Value.bool b42)) w41) ∧
                                                                                (decide (x3 ≥ a) = false → R (Ending.returned (Value.bool false)) w37)) ∧
                                                                            (decide (x3 ≤ most) = false → R (Ending.returned (Value.bool false)) w37)) ∧
                                                                        ((x38 == a) = false → R (Ending.returned (Value.bool false)) w37)) ∧
                                                                    (b39 = false → R (Ending.returned (Value.bool false)) w37)))) ∧
                                                ((!b12) = false →
                                                  ((!b4) = true →
                                                      ((x3 == 0) = true →
                                                          Calls Proofs.Try.prog 24 #[] w10 fun (e43 : Ending) (w44 : World) => ∃ (b45 : Bool), e43 = Ending.returned (Value.bool b45) ∧ R (Ending.returned (Value.bool b45)) w44) ∧
                                                        ((x3 == 0) = false → R (Ending.returned (Value.bool false)) w10)) ∧
                                                    ((!b4) = false →
                                                      Calls Proofs.Try.prog 29 #[Value.int IntKind.i64 x3, Value.int IntKind.i64 b] w10 fun (e46 : Ending) (w47 : World) =>
                                                        ∃ (x48 : Int),
                                                          ∃ (b49 : Bool),
                                                            e46 = Ending.returned (Value.tuple #[Value.int IntKind.i64 x48, Value.bool b49]) ∧
                                                              (b49 = true →
                                                                  ((x48 == a) = true →
                                                                      (decide (x3 ≤ most) = true →
                                                                          (decide (x3 ≥ a) = true →
                                                                              Calls Proofs.Try.prog 24 #[] w47 fun (e50 : Ending) (w51 : World) =>
                                                                                ∃ (b52 : Bool), e50 = Ending.returned (Value.bool b52) ∧ R (Ending.returned (Value.bool b52)) w51) ∧
                                                                            (decide (x3 ≥ a) = false → R (Ending.returned (Value.bool false)) w47)) ∧
                                                                        (decide (x3 ≤ most) = false → R (Ending.returned (Value.bool false)) w47)) ∧
                                                                    ((x48 == a) = false → R (Ending.returned (Value.bool false)) w47)) ∧
                                                                (b49 = false → R (Ending.returned (Value.bool false)) w47)))))) ∧
                                    (decide (b ≥ 0) = false →
                                      ((!b12 == false) = true → R (Ending.returned (Value.bool false)) w10) ∧
                                        ((!b12 == false) = false →
                                          (b12 = true →
                                              ((x11 != IntKind.i64.wrap (a - b)) = true → R (Ending.returned (Value.bool false)) w10) ∧
                                                ((x11 != IntKind.i64.wrap (a - b)) = false →
                                                  ((!b12) = true →
                                                      ((x11 != 0) = true → R (Ending.returned (Value.bool false)) w10) ∧
                                                        ((x11 != 0) = false →
                                                          ((!b4) = true →
                                                              ((x3 == 0) = true →
                                                                  Calls Proofs.Try.prog 24 #[] w10 fun (e53 : Ending) (w54 : World) => ∃ (b55 : Bool), e53 = Ending.returned (Value.bool b55) ∧ R (Ending.returned (Value.bool b55)) w54) ∧
                                                                ((x3 == 0) = false → R (Ending.returned (Value.bool false)) w10)) ∧
                                                            ((!b4) = false →
                                                              Calls Proofs.Try.prog 29 #[Value.int IntKind.i64 x3, Value.int IntKind.i64 b] w10 fun (e56 : Ending) (w57 : World) =>
                                                                ∃ (x58 : Int),
                                                                  ∃ (b59 : Bool),
                                                                    e56 = Ending.returned (Value.tuple #[Value.int IntKind.i64 x58, Value.bool b59]) ∧
                                                                      (b59 = true →
                                                                          ((x58 == a) = true →
                                                                              (decide (x3 ≤ most) = true →
                                                                                  (decide (x3 ≥ a) = true →
                                                                                      Calls Proofs.Try.prog 24 #[] w57 fun (e60 : Ending) (w61 : World) =>
                                                                                        ∃ (b62 : Bool), e60 = Ending.returned (Value.bool b62) ∧ R (Ending.returned (Value.bool b62)) w61) ∧
                                                                                    (decide (x3 ≥ a) = false → R (Ending.returned (Value.bool false)) w57)) ∧
                                                                                (decide (x3 ≤ most) = false → R (Ending.returned (Value.bool false)) w57)) ∧
                                                                            ((x58 == a) = false → R (Ending.returned (Value.bool false)) w57)) ∧
                                                                        (b59 = false → R (Ending.returned (Value.bool false)) w57)))) ∧
                                                    ((!b12) = false →
                                                      ((!b4) = true →
                                                          ((x3 == 0) = true →
                                                              Calls Proofs.Try.prog 24 #[] w10 fun (e63 : Ending) (w64 : World) => ∃ (b65 : Bool), e63 = Ending.returned (Value.bool b65) ∧ R (Ending.returned (Value.bool b65)) w64) ∧
                                                            ((x3 == 0) = false → R (Ending.returned (Value.bool false)) w10)) ∧
                                                        ((!b4) = false →
                                                          Calls Proofs.Try.prog 29 #[Value.int IntKind.i64 x3, Value.int IntKind.i64 b] w10 fun (e66 : Ending) (w67 : World) =>
                                                            ∃ (x68 : Int),
                                                              ∃ (b69 : Bool),
                                                                e66 = Ending.returned (Value.tuple #[Value.int IntKind.i64 x68, Value.bool b69]) ∧
                                                                  (b69 = true →
                                                                      ((x68 == a) = true →
                                                                          (decide (x3 ≤ most) = true →
                                                                              (decide (x3 ≥ a) = true →
                                                                                  Calls Proofs.Try.prog 24 #[] w67 fun (e70 : Ending) (w71 : World) =>
                                                                                    ∃ (b72 : Bool), e70 = Ending.returned (Value.bool b72) ∧ R (Ending.returned (Value.bool b72)) w71) ∧
                                                                                (decide (x3 ≥ a) = false → R (Ending.returned (Value.bool false)) w67)) ∧
                                                                            (decide (x3 ≤ most) = false → R (Ending.returned (Value.bool false)) w67)) ∧
                                                                        ((x68 == a) = false → R (Ending.returned (Value.bool false)) w67)) ∧
                                                                    (b69 = false → R (Ending.returned (Value.bool false)) w67))))) ∧
                                            (b12 = false →
                                              ((!b12) = true →
                                                  ((x11 != 0) = true → R (Ending.returned (Value.bool false)) w10) ∧
                                                    ((x11 != 0) = false →
                                                      ((!b4) = true →
                                                          ((x3 == 0) = true →
                                                              Calls Proofs.Try.prog 24 #[] w10 fun (e73 : Ending) (w74 : World) => ∃ (b75 : Bool), e73 = Ending.returned (Value.bool b75) ∧ R (Ending.returned (Value.bool b75)) w74) ∧
                                                            ((x3 == 0) = false → R (Ending.returned (Value.bool false)) w10)) ∧
                                                        ((!b4) = false →
                                                          Calls Proofs.Try.prog 29 #[Value.int IntKind.i64 x3, Value.int IntKind.i64 b] w10 fun (e76 : Ending) (w77 : World) =>
                                                            ∃ (x78 : Int),
                                                              ∃ (b79 : Bool),
                                                                e76 = Ending.returned (Value.tuple #[Value.int IntKind.i64 x78, Value.bool b79]) ∧
                                                                  (b79 = true →
                                                                      ((x78 == a) = true →
                                                                          (decide (x3 ≤ most) = true →
                                                                              (decide (x3 ≥ a) = true →
                                                                                  Calls Proofs.Try.prog 24 #[] w77 fun (e80 : Ending) (w81 : World) =>
                                                                                    ∃ (b82 : Bool), e80 = Ending.returned (Value.bool b82) ∧ R (Ending.returned (Value.bool b82)) w81) ∧
                                                                                (decide (x3 ≥ a) = false → R (Ending.returned (Value.bool false)) w77)) ∧
                                                                            (decide (x3 ≤ most) = false → R (Ending.returned (Value.bool false)) w77)) ∧
                                                                        ((x78 == a) = false → R (Ending.returned (Value.bool false)) w77)) ∧
                                                                    (b79 = false → R (Ending.returned (Value.bool false)) w77)))) ∧
                                                ((!b12) = false →
                                                  ((!b4) = true →
                                                      ((x3 == 0) = true →
                                                          Calls Proofs.Try.prog 24 #[] w10 fun (e83 : Ending) (w84 : World) => ∃ (b85 : Bool), e83 = Ending.returned (Value.bool b85) ∧ R (Ending.returned (Value.bool b85)) w84) ∧
                                                        ((x3 == 0) = false → R (Ending.returned (Value.bool false)) w10)) ∧
                                                    ((!b4) = false →
                                                      Calls Proofs.Try.prog 29 #[Value.int IntKind.i64 x3, Value.int IntKind.i64 b] w10 fun (e86 : Ending) (w87 : World) =>
                                                        ∃ (x88 : Int),
                                                          ∃ (b89 : Bool),
                                                            e86 = Ending.returned (Value.tuple #[Value.int IntKind.i64 x88, Value.bool b89]) ∧
                                                              (b89 = true →
                                                                  ((x88 == a) = true →
                                                                      (decide (x3 ≤ most) = true →
                                                                          (decide (x3 ≥ a) = true →
                                                                              Calls Proofs.Try.prog 24 #[] w87 fun (e90 : Ending) (w91 : World) =>
                                                                                ∃ (b92 : Bool), e90 = Ending.returned (Value.bool b92) ∧ R (Ending.returned (Value.bool b92)) w91) ∧
                                                                            (decide (x3 ≥ a) = false → R (Ending.returned (Value.bool false)) w87)) ∧
                                                                        (decide (x3 ≤ most) = false → R (Ending.returned (Value.bool false)) w87)) ∧
                                                                    ((x88 == a) = false → R (Ending.returned (Value.bool false)) w87)) ∧
                                                                (b89 = false → R (Ending.returned (Value.bool false)) w87))))))))
theorem f8_eq (a : Int) (b : Int) (most : Int) (w : World) (R : Ending → World → Prop) : (fnF Go.Proofs.Try.prog h8 Go.Proofs.Try.f8 [Value.int IntKind.i64 a, Value.int IntKind.i64 b, Value.int IntKind.i64 most] w R).den = f8_vc a b most w R := by kernel_rfl
theorem f8_calls (a : Int) (b : Int) (most : Int) (w : World) (R : Ending → World → Prop) (h : f8_vc a b most w R) : Calls Go.Proofs.Try.prog 8 (List.toArray [Value.int IntKind.i64 a, Value.int IntKind.i64 b, Value.int IntKind.i64 most]) w R :=
  fn_sound (H := h8) (fn := Go.Proofs.Try.f8) (by kernel_rfl) (by kernel_rfl) (by kernel_rfl) ((f8_eq a b most w R).mpr h)


/-! manciple/manciplelaw02.RatioTexts -/
def h9 : Hints := ⟨[2, 5, 7], [30], [11, 27, 32, 37], [(5, [0, 2, 1, 3, 4, 5, 6, 7, 8, 9, 10, 11, 12, 13, 14, 15, 16, 17, 18])], [], [], []⟩
def f9_vc (f_0 : Int) (f_1 : Int) (s : ByteArray) (w : World) (R : Ending → World → Prop) : Prop :=
  ∀ (n1 : Nat),
    w.heap.size ≤ n1 →
      (decide ((↑s.size : Int) > 100) = true → ∀ (w2 : World), Below w.heap.size w w2 → Under [n1] w2 → R (Ending.returned (Value.bool true)) w2) ∧
        (decide ((↑s.size : Int) > 100) = false →
          ∀ (w3 : World),
            Below w.heap.size w w3 →
              Under [n1] w3 →
                Calls Proofs.Try.prog 30 #[Value.string s] w3 fun (e4 : Ending) (w5 : World) =>
                  ∃ (x6 : Int),
                    ∃ (x7 : Int),
                      ∃ (b8 : Bool),
                        e4 = Ending.returned (Value.tuple #[Value.agg #[Value.int IntKind.i64 x6, Value.int IntKind.i64 x7], Value.bool b8]) ∧
                          Keeps [n1] w3 w5 ∧
                            ∀ (n9 : Nat),
                              w5.heap.size ≤ n9 →
                                ∀ (w10 : World),
                                  Evo [n9] w5 w10 →
                                    Under [n1, n9] w10 →
                                      Calls Proofs.Try.prog 31 #[Value.string s] w10 fun (e11 : Ending) (w12 : World) =>
                                        ∃ (x13 : Int),
                                          ∃ (x14 : Int),
                                            ∃ (b15 : Bool),
                                              e11 = Ending.returned (Value.tuple #[Value.agg #[Value.int IntKind.i64 x13, Value.int IntKind.i64 x14], Value.bool b15]) ∧
                                                Keeps [n1, n9] w10 w12 ∧
                                                  ∀ (n16 : Nat),
                                                    w12.heap.size ≤ n16 →
                                                      ∀ (w17 : World),
                                                        Evo [n16] w12 w17 →
                                                          Under [n1, n9, n16] w17 →
                                                            Calls Proofs.Try.prog 32 #[Value.agg #[Value.int IntKind.i64 f_0, Value.int IntKind.i64 f_1]] w17 fun (e18 : Ending) (w19 : World) =>
                                                              ∃ (s20 : ByteArray),
                                                                e18 = Ending.returned (Value.string s20) ∧
                                                                  Keeps [n1, n9, n16] w17 w19 ∧
                                                                    Calls Proofs.Try.prog 33 #[Value.agg #[Value.int IntKind.i64 f_0, Value.int IntKind.i64 f_1]] w19 fun (e21 : Ending) (w22 : World) =>
                                                                      ∃ (s23 : ByteArray),
                                                                        e21 = Ending.returned (Value.string s23) ∧
                                                                          Keeps [n1, n9, n16] w19 w22 ∧
                                                                            ((s20.toList == s23.toList) = true →
                                                                                ∃ (b24 : Bool),
                                                                                  Gives Proofs.Try.prog
                                                                                      (binOpS BinOp.eql 23 (Operand.tmp 28) (Operand.tmp 29) (Value.agg #[Value.int IntKind.i64 x6, Value.int IntKind.i64 x7])
                                                                                        (Value.agg #[Value.int IntKind.i64 x13, Value.int IntKind.i64 x14]))
                                                                                      (Value.bool b24) ∧
                                                                                    (b24 = true →
                                                                                        ((b8 == b15) = true →
                                                                                            Calls Proofs.Try.prog 16 #[] w22 fun (e25 : Ending) (w26 : World) =>
                                                                                              ∃ (b27 : Bool), e25 = Ending.returned (Value.bool b27) ∧ Keeps [n1, n9, n16] w22 w26 ∧ R (Ending.returned (Value.bool b27)) w26) ∧
                                                                                          ((b8 == b15) = false → R (Ending.returned (Value.bool false)) w22)) ∧
                                                                                      (b24 = false → R (Ending.returned (Value.bool false)) w22)) ∧
                                                                              ((s20.toList == s23.toList) = false → R (Ending.returned (Value.bool false)) w22))
theorem f9_eq (f_0 : Int) (f_1 : Int) (s : ByteArray) (w : World) (R : Ending → World → Prop) : (fnF Go.Proofs.Try.prog h9 Go.Proofs.Try.f9 [Value.agg #[Value.int IntKind.i64 f_0, Value.int IntKind.i64 f_1], Value.string s] w R).den = f9_vc f_0 f_1 s w R := by kernel_rfl
theorem f9_calls (f_0 : Int) (f_1 : Int) (s : ByteArray) (w : World) (R : Ending → World → Prop) (h : f9_vc f_0 f_1 s w R) : Calls Go.Proofs.Try.prog 9 (List.toArray [Value.agg #[Value.int IntKind.i64 f_0, Value.int IntKind.i64 f_1], Value.string s]) w R :=
  fn_sound (H := h9) (fn := Go.Proofs.Try.f9) (by kernel_rfl) (by kernel_rfl) (by kernel_rfl) ((f9_eq f_0 f_1 s w R).mpr h)


/-! manciple/ratio.Max -/
def h10 : Hints := ⟨[2, 4, 7], [14], [12, 27, 18, 21], [], [], [(3, ⟨[(5, .int .i64), (11, .int .i64)], [(4, .cons (.int .i64) (.cons (.int .i64) (.nil)))]⟩)], []⟩
def f10_vc (la : Option Addr) (ln : Nat) (lc : Nat) (w : World) (R : Ending → World → Prop) : Prop :=
  ∀ (n1 : Nat),
    w.heap.size ≤ n1 →
      ∀ (n2 : Nat),
        w.heap.size ≤ n2 →
          ∃ (J3 : Int × Int × Int × Int × Unit → World → Prop),
            ∃ (J4 : Int × Int × Int × Int × Unit → World → Nat),
              (∀ (w5 : World), Evo [n2] w w5 → Under [n1, n2] w5 → J3 (-1, 0, 0, 0, ()) w5) ∧
                ∀ (x6 x7 x8 x9 : Int) (w10 : World),
                  J3 (x6, x7, x8, x9, ()) w10 →
                    (decide (x7 < (↑ln : Int)) = true →
                        ∃ (a11 : Option Addr),
                          Gives Proofs.Try.prog (Instr.indexAt 24 (Value.slice la ln lc) (Value.int IntKind.i64 x7)) (Value.pointer a11) ∧
                            ∃ (x12 : Int),
                              ∃ (x13 : Int),
                                Reads Proofs.Try.prog [] (Instr.loadAt 23 (Value.pointer a11)) w10 (Value.agg #[Value.int IntKind.i64 x12, Value.int IntKind.i64 x13]) ∧
                                  ∀ (n14 : Nat),
                                    w10.heap.size ≤ n14 →
                                      ∀ (w15 : World),
                                        Evo [n14] w10 w15 →
                                          Under [n1, n2, n14] w15 →
                                            Calls Proofs.Try.prog 14 #[Value.agg #[Value.int IntKind.i64 x12, Value.int IntKind.i64 x13]] w15 fun (e16 : Ending) (w17 : World) =>
                                              ∃ (b18 : Bool),
                                                e16 = Ending.returned (Value.bool b18) ∧
                                                  Keeps [n1, n2, n14] w15 w17 ∧
                                                    (b18 = true →
                                                        (decide (x6 < 0) = true →
                                                            ∀ (w19 : World),
                                                              Evo [n2] w17 w19 →
                                                                Under [n1, n2, n14] w19 → J3 (x7, IntKind.i64.wrap (x7 + 1), x12, x13, ()) w19 ∧ J4 (x7, IntKind.i64.wrap (x7 + 1), x12, x13, ()) w19 < J4 (x6, x7, x8, x9, ()) w10) ∧
                                                          (decide (x6 < 0) = false →
                                                            Calls Proofs.Try.prog 12 #[Value.agg #[Value.int IntKind.i64 x12, Value.int IntKind.i64 x13], Value.agg #[Value.int IntKind.i64 x8, Value.int IntKind.i64 x9]] w17
                                                              fun (e20 : Ending) (w21 : World) =>
                                                              ∃ (x22 : Int),
                                                                e20 = Ending.returned (Value.int IntKind.i64 x22) ∧
                                                                  Keeps [n1, n2, n14] w17 w21 ∧
                                                                    (decide (x22 > 0) = true →
                                                                        ∀ (w23 : World),
                                                                          Evo [n2] w21 w23 →
                                                                            Under [n1, n2, n14] w23 → J3 (x7, IntKind.i64.wrap (x7 + 1), x12, x13, ()) w23 ∧ J4 (x7, IntKind.i64.wrap (x7 + 1), x12, x13, ()) w23 < J4 (x6, x7, x8, x9, ()) w10) ∧
                                                                      (decide (x22 > 0) = false → J3 (x6, IntKind.i64.wrap (x7 + 1), x8, x9, ()) w21 ∧ J4 (x6, IntKind.i64.wrap (x7 + 1), x8, x9, ()) w21 < J4 (x6, x7, x8, x9, ()) w10))) ∧
                                                      (b18 = false → J3 (x6, IntKind.i64.wrap (x7 + 1), x8, x9, ()) w17 ∧ J4 (x6, IntKind.i64.wrap (x7 + 1), x8, x9, ()) w17 < J4 (x6, x7, x8, x9, ()) w10)) ∧
                      (decide (x7 < (↑ln : Int)) = false →
                        ∀ (w24 : World), Evo [n1] w10 w24 → Under [n1, n2] w24 → R (Ending.returned (Value.tuple #[Value.agg #[Value.int IntKind.i64 x8, Value.int IntKind.i64 x9], Value.int IntKind.i64 x6])) w24)
theorem f10_eq (la : Option Addr) (ln : Nat) (lc : Nat) (w : World) (R : Ending → World → Prop) : (fnF Go.Proofs.Try.prog h10 Go.Proofs.Try.f10 [Value.slice la ln lc] w R).den = f10_vc la ln lc w R := by kernel_rfl
theorem f10_calls (la : Option Addr) (ln : Nat) (lc : Nat) (w : World) (R : Ending → World → Prop) (h : f10_vc la ln lc w R) : Calls Go.Proofs.Try.prog 10 (List.toArray [Value.slice la ln lc]) w R :=
  fn_sound (H := h10) (fn := Go.Proofs.Try.f10) (by kernel_rfl) (by kernel_rfl) (by kernel_rfl) ((f10_eq la ln lc w R).mpr h)


/-! manciple/mancipleref02.Max -/
def h11 : Hints := ⟨[2], [14, 23, 27, 39], [9, 32, 35, 17, 20], [(5, [0, 1, 2, 3, 4, 5, 6, 7, 8, 9, 10, 11, 12, 13, 14, 15, 16, 17, 18, 19, 20])], [], [(3, ⟨[(4, .int .i64), (5, .int .i64)], []⟩)], []⟩
def f11_vc (la : Option Addr) (ln : Nat) (lc : Nat) (w : World) (R : Ending → World → Prop) : Prop :=
  ∀ (n1 : Nat),
    w.heap.size ≤ n1 →
      ∃ (J2 : Int × Int × Unit → World → Prop),
        ∃ (J3 : Int × Int × Unit → World → Nat),
          (∀ (w4 : World), Below w.heap.size w w4 → Under [n1] w4 → J2 (-1, 0, ()) w4) ∧
            ∀ (x5 x6 : Int) (w7 : World),
              J2 (x5, x6, ()) w7 →
                (decide (x6 < (↑ln : Int)) = true →
                    ∃ (a8 : Option Addr),
                      Gives Proofs.Try.prog (Instr.indexAt 24 (Value.slice la ln lc) (Value.int IntKind.i64 x6)) (Value.pointer a8) ∧
                        ∃ (x9 : Int),
                          ∃ (x10 : Int),
                            Reads Proofs.Try.prog [] (Instr.loadAt 23 (Value.pointer a8)) w7 (Value.agg #[Value.int IntKind.i64 x9, Value.int IntKind.i64 x10]) ∧
                              ∀ (w11 : World),
                                Below w7.heap.size w7 w11 →
                                  Under [n1] w11 →
                                    Calls Proofs.Try.prog 15 #[Value.agg #[Value.int IntKind.i64 x9, Value.int IntKind.i64 x10]] w11 fun (e12 : Ending) (w13 : World) =>
                                      ∃ (b14 : Bool),
                                        e12 = Ending.returned (Value.bool b14) ∧
                                          Keeps [n1] w11 w13 ∧
                                            (b14 = true →
                                                (decide (x5 < 0) = true → J2 (x6, IntKind.i64.wrap (x6 + 1), ()) w13 ∧ J3 (x6, IntKind.i64.wrap (x6 + 1), ()) w13 < J3 (x5, x6, ()) w7) ∧
                                                  (decide (x5 < 0) = false →
                                                    ∃ (a15 : Option Addr),
                                                      Gives Proofs.Try.prog (Instr.indexAt 24 (Value.slice la ln lc) (Value.int IntKind.i64 x6)) (Value.pointer a15) ∧
                                                        ∃ (x16 : Int),
                                                          ∃ (x17 : Int),
                                                            Reads Proofs.Try.prog [] (Instr.loadAt 23 (Value.pointer a15)) w13 (Value.agg #[Value.int IntKind.i64 x16, Value.int IntKind.i64 x17]) ∧
                                                              ∃ (a18 : Option Addr),
                                                                Gives Proofs.Try.prog (Instr.indexAt 24 (Value.slice la ln lc) (Value.int IntKind.i64 x5)) (Value.pointer a18) ∧
                                                                  ∃ (x19 : Int),
                                                                    ∃ (x20 : Int),
                                                                      Reads Proofs.Try.prog [] (Instr.loadAt 23 (Value.pointer a18)) w13 (Value.agg #[Value.int IntKind.i64 x19, Value.int IntKind.i64 x20]) ∧
                                                                        Calls Proofs.Try.prog 13 #[Value.agg #[Value.int IntKind.i64 x16, Value.int IntKind.i64 x17], Value.agg #[Value.int IntKind.i64 x19, Value.int IntKind.i64 x20]] w13
                                                                          fun (e21 : Ending) (w22 : World) =>
                                                                          ∃ (x23 : Int),
                                                                            e21 = Ending.returned (Value.int IntKind.i64 x23) ∧
                                                                              Keeps [n1] w13 w22 ∧
                                                                                (decide (x23 > 0) = true → J2 (x6, IntKind.i64.wrap (x6 + 1), ()) w22 ∧ J3 (x6, IntKind.i64.wrap (x6 + 1), ()) w22 < J3 (x5, x6, ()) w7) ∧
                                                                                  (decide (x23 > 0) = false → J2 (x5, IntKind.i64.wrap (x6 + 1), ()) w22 ∧ J3 (x5, IntKind.i64.wrap (x6 + 1), ()) w22 < J3 (x5, x6, ()) w7))) ∧
                                              (b14 = false → J2 (x5, IntKind.i64.wrap (x6 + 1), ()) w13 ∧ J3 (x5, IntKind.i64.wrap (x6 + 1), ()) w13 < J3 (x5, x6, ()) w7)) ∧
                  (decide (x6 < (↑ln : Int)) = false →
                    (decide (x5 < 0) = true → ∀ (w24 : World), Evo [n1] w7 w24 → Under [n1] w24 → R (Ending.returned (Value.tuple #[Value.agg #[Value.int IntKind.i64 0, Value.int IntKind.i64 0], Value.int IntKind.i64 (-1)])) w24) ∧
                      (decide (x5 < 0) = false →
                        ∃ (a25 : Option Addr),
                          Gives Proofs.Try.prog (Instr.indexAt 24 (Value.slice la ln lc) (Value.int IntKind.i64 x5)) (Value.pointer a25) ∧
                            ∃ (x26 : Int),
                              ∃ (x27 : Int),
                                Reads Proofs.Try.prog [] (Instr.loadAt 23 (Value.pointer a25)) w7 (Value.agg #[Value.int IntKind.i64 x26, Value.int IntKind.i64 x27]) ∧
                                  ∀ (w28 : World), Evo [n1] w7 w28 → Under [n1] w28 → R (Ending.returned (Value.tuple #[Value.agg #[Value.int IntKind.i64 x26, Value.int IntKind.i64 x27], Value.int IntKind.i64 x5])) w28))
theorem f11_eq (la : Option Addr) (ln : Nat) (lc : Nat) (w : World) (R : Ending → World → Prop) : (fnF Go.Proofs.Try.prog h11 Go.Proofs.Try.f11 [Value.slice la ln lc] w R).den = f11_vc la ln lc w R := by kernel_rfl
theorem f11_calls (la : Option Addr) (ln : Nat) (lc : Nat) (w : World) (R : Ending → World → Prop) (h : f11_vc la ln lc w R) : Calls Go.Proofs.Try.prog 11 (List.toArray [Value.slice la ln lc]) w R :=
  fn_sound (H := h11) (fn := Go.Proofs.Try.f11) (by kernel_rfl) (by kernel_rfl) (by kernel_rfl) ((f11_eq la ln lc w R).mpr h)


/-! manciple/ratio.Cmp -/
def h12 : Hints := ⟨[2, 3], [], [12, 8], [(3, [0, 1, 2, 3, 4, 5, 7, 8, 9, 10, 11, 12, 6, 13, 14, 15])], [], [], []⟩
def f12_vc (a_0 : Int) (a_1 : Int) (b_0 : Int) (b_1 : Int) (w : World) (R : Ending → World → Prop) : Prop :=
  ∀ (n1 : Nat),
    w.heap.size ≤ n1 →
      ∀ (n2 : Nat),
        w.heap.size ≤ n2 →
          ∀ (w3 : World),
            Below w.heap.size w w3 →
              Under [n1, n2] w3 →
                Calls Proofs.Try.prog 14 #[Value.agg #[Value.int IntKind.i64 a_0, Value.int IntKind.i64 a_1]] w3 fun (e4 : Ending) (w5 : World) =>
                  ∃ (b6 : Bool),
                    e4 = Ending.returned (Value.bool b6) ∧
                      Keeps [n1, n2] w3 w5 ∧
                        ((!b6) = true → R (Ending.returned (Value.int IntKind.i64 0)) w5) ∧
                          ((!b6) = false →
                            Calls Proofs.Try.prog 14 #[Value.agg #[Value.int IntKind.i64 b_0, Value.int IntKind.i64 b_1]] w5 fun (e7 : Ending) (w8 : World) =>
                              ∃ (b9 : Bool),
                                e7 = Ending.returned (Value.bool b9) ∧
                                  Keeps [n1, n2] w5 w8 ∧
                                    ((!b9) = true → R (Ending.returned (Value.int IntKind.i64 0)) w8) ∧
                                      ((!b9) = false →
                                        ∀ (w10 : World),
                                          Below w8.heap.size w8 w10 →
                                            Under [n1, n2] w10 →
                                              Calls Proofs.Try.prog 34 #[Value.int IntKind.u64 (IntKind.u64.wrap a_0), Value.int IntKind.u64 (IntKind.u64.wrap b_1)] w10 fun (e11 : Ending) (w12 : World) =>
                                                ∃ (x13 : Int),
                                                  ∃ (x14 : Int),
                                                    e11 = Ending.returned (Value.agg #[Value.int IntKind.u64 x13, Value.int IntKind.u64 x14]) ∧
                                                      Keeps [n1, n2] w10 w12 ∧
                                                        Calls Proofs.Try.prog 34 #[Value.int IntKind.u64 (IntKind.u64.wrap b_0), Value.int IntKind.u64 (IntKind.u64.wrap a_1)] w12 fun (e15 : Ending) (w16 : World) =>
                                                          ∃ (x17 : Int),
                                                            ∃ (x18 : Int),
                                                              e15 = Ending.returned (Value.agg #[Value.int IntKind.u64 x17, Value.int IntKind.u64 x18]) ∧
                                                                Keeps [n1, n2] w12 w16 ∧
                                                                  Calls Proofs.Try.prog 35 #[Value.agg #[Value.int IntKind.u64 x13, Value.int IntKind.u64 x14], Value.agg #[Value.int IntKind.u64 x17, Value.int IntKind.u64 x18]] w16
                                                                    fun (e19 : Ending) (w20 : World) =>
                                                                    ∃ (x21 : Int), e19 = Ending.returned (Value.int IntKind.i64 x21) ∧ Keeps [n1, n2] w16 w20 ∧ R (Ending.returned (Value.int IntKind.i64 x21)) w20))
theorem f12_eq (a_0 : Int) (a_1 : Int) (b_0 : Int) (b_1 : Int) (w : World) (R : Ending → World → Prop) : (fnF Go.Proofs.Try.prog h12 Go.Proofs.Try.f12 [Value.agg #[Value.int IntKind.i64 a_0, Value.int IntKind.i64 a_1], Value.agg #[Value.int IntKind.i64 b_0, Value.int IntKind.i64 b_1]] w R).den = f12_vc a_0 a_1 b_0 b_1 w R := by kernel_rfl
theorem f12_calls (a_0 : Int) (a_1 : Int) (b_0 : Int) (b_1 : Int) (w : World) (R : Ending → World → Prop) (h : f12_vc a_0 a_1 b_0 b_1 w R) : Calls Go.Proofs.Try.prog 12 (List.toArray [Value.agg #[Value.int IntKind.i64 a_0, Value.int IntKind.i64 a_1], Value.agg #[Value.int IntKind.i64 b_0, Value.int IntKind.i64 b_1]]) w R :=
  fn_sound (H := h12) (fn := Go.Proofs.Try.f12) (by kernel_rfl) (by kernel_rfl) (by kernel_rfl) ((f12_eq a_0 a_1 b_0 b_1 w R).mpr h)


/-! manciple/mancipleref02.Cmp -/
def h13 : Hints := ⟨[2, 3], [], [14, 35, 38, 10], [(3, [0, 1, 2, 4, 5, 6, 3, 7, 8, 9]), (4, [0, 1, 2, 4, 5, 6, 3, 7, 8, 9])], [], [], []⟩
def f13_vc (a_0 : Int) (a_1 : Int) (b_0 : Int) (b_1 : Int) (w : World) (R : Ending → World → Prop) : Prop :=
  ∀ (n1 : Nat),
    w.heap.size ≤ n1 →
      ∀ (n2 : Nat),
        w.heap.size ≤ n2 →
          ∀ (w3 : World),
            Below w.heap.size w w3 →
              Under [n1, n2] w3 →
                Calls Proofs.Try.prog 15 #[Value.agg #[Value.int IntKind.i64 a_0, Value.int IntKind.i64 a_1]] w3 fun (e4 : Ending) (w5 : World) =>
                  ∃ (b6 : Bool),
                    e4 = Ending.returned (Value.bool b6) ∧
                      Keeps [n1, n2] w3 w5 ∧
                        ((!b6) = true → R (Ending.returned (Value.int IntKind.i64 0)) w5) ∧
                          ((!b6) = false →
                            Calls Proofs.Try.prog 15 #[Value.agg #[Value.int IntKind.i64 b_0, Value.int IntKind.i64 b_1]] w5 fun (e7 : Ending) (w8 : World) =>
                              ∃ (b9 : Bool),
                                e7 = Ending.returned (Value.bool b9) ∧
                                  Keeps [n1, n2] w5 w8 ∧
                                    ((!b9) = true → R (Ending.returned (Value.int IntKind.i64 0)) w8) ∧
                                      ((!b9) = false →
                                        ∀ (w10 : World),
                                          Below w8.heap.size w8 w10 →
                                            Under [n1, n2] w10 →
                                              Calls Proofs.Try.prog 37 #[Value.int IntKind.u64 0, Value.int IntKind.u64 (IntKind.u64.wrap a_0)] w10 fun (e11 : Ending) (w12 : World) =>
                                                ∃ (a13 : Option Addr),
                                                  ∃ (n14 : Nat),
                                                    ∃ (n15 : Nat),
                                                      e11 = Ending.returned (Value.slice a13 n14 n15) ∧
                                                        Keeps [n1, n2] w10 w12 ∧
                                                          Calls Proofs.Try.prog 37 #[Value.int IntKind.u64 0, Value.int IntKind.u64 (IntKind.u64.wrap b_1)] w12 fun (e16 : Ending) (w17 : World) =>
                                                            ∃ (a18 : Option Addr),
                                                              ∃ (n19 : Nat),
                                                                ∃ (n20 : Nat),
                                                                  e16 = Ending.returned (Value.slice a18 n19 n20) ∧
                                                                    Keeps [n1, n2] w12 w17 ∧
                                                                      Calls Proofs.Try.prog 36 #[Value.slice a13 n14 n15, Value.slice a18 n19 n20] w17 fun (e21 : Ending) (w22 : World) =>
                                                                        ∃ (a23 : Option Addr),
                                                                          ∃ (n24 : Nat),
                                                                            ∃ (n25 : Nat),
                                                                              e21 = Ending.returned (Value.slice a23 n24 n25) ∧
                                                                                Keeps [n1, n2] w17 w22 ∧
                                                                                  ∀ (w26 : World),
                                                                                    Below w22.heap.size w22 w26 →
                                                                                      Under [n1, n2] w26 →
                                                                                        Calls Proofs.Try.prog 37 #[Value.int IntKind.u64 0, Value.int IntKind.u64 (IntKind.u64.wrap b_0)] w26 fun (e27 : Ending) (w28 : World) =>
                                                                                          ∃ (a29 : Option Addr),
                                                                                            ∃ (n30 : Nat),
                                                                                              ∃ (n31 : Nat),
                                                                                                e27 = Ending.returned (Value.slice a29 n30 n31) ∧
                                                                                                  Keeps [n1, n2] w26 w28 ∧
                                                                                                    Calls Proofs.Try.prog 37 #[Value.int IntKind.u64 0, Value.int IntKind.u64 (IntKind.u64.wrap a_1)] w28 fun (e32 : Ending) (w33 : World) =>
                                                                                                      ∃ (a34 : Option Addr),
                                                                                                        ∃ (n35 : Nat),
                                                                                                          ∃ (n36 : Nat),
                                                                                                            e32 = Ending.returned (Value.slice a34 n35 n36) ∧
                                                                                                              Keeps [n1, n2] w28 w33 ∧
                                                                                                                Calls Proofs.Try.prog 36 #[Value.slice a29 n30 n31, Value.slice a34 n35 n36] w33 fun (e37 : Ending) (w38 : World) =>
                                                                                                                  ∃ (a39 : Option Addr),
                                                                                                                    ∃ (n40 : Nat),
                                                                                                                      ∃ (n41 : Nat),
                                                                                                                        e37 = Ending.returned (Value.slice a39 n40 n41) ∧
                                                                                                                          Keeps [n1, n2] w33 w38 ∧
                                                                                                                            Calls Proofs.Try.prog 38 #[Value.slice a23 n24 n25, Value.slice a39 n40 n41] w38 fun (e42 : Ending) (w43 : World) =>
                                                                                                                              ∃ (b44 : Bool),
                                                                                                                                e42 = Ending.returned (Value.bool b44) ∧
                                                                                                                                  Keeps [n1, n2] w38 w43 ∧
                                                                                                                                    (b44 = true → R (Ending.returned (Value.int IntKind.i64 (-1))) w43) ∧
                                                                                                                                      (b44 = false →
                                                                                                                                        Calls Proofs.Try.prog 38 #[Value.slice a39 n40 n41, Value.slice a23 n24 n25] w43
                                                                                                                                          fun (e45 : Ending) (w46 : World) =>
                                                                                                                                          ∃ (b47 : Bool),
                                                                                                                                            e45 = Ending.returned (Value.bool b47) ∧
                                                                                                                                              Keeps [n1, n2] w43 w46 ∧
                                                                                                                                                (b47 = true → R (Ending.returned (Value.int IntKind.i64 1)) w46) ∧
                                                                                                                                                  (b47 = false → R (Ending.returned (Value.int IntKind.i64 0)) w46))))
theorem f13_eq (a_0 : Int) (a_1 : Int) (b_0 : Int) (b_1 : Int) (w : World) (R : Ending → World → Prop) : (fnF Go.Proofs.Try.prog h13 Go.Proofs.Try.f13 [Value.agg #[Value.int IntKind.i64 a_0, Value.int IntKind.i64 a_1], Value.agg #[Value.int IntKind.i64 b_0, Value.int IntKind.i64 b_1]] w R).den = f13_vc a_0 a_1 b_0 b_1 w R := by kernel_rfl
theorem f13_calls (a_0 : Int) (a_1 : Int) (b_0 : Int) (b_1 : Int) (w : World) (R : Ending → World → Prop) (h : f13_vc a_0 a_1 b_0 b_1 w R) : Calls Go.Proofs.Try.prog 13 (List.toArray [Value.agg #[Value.int IntKind.i64 a_0, Value.int IntKind.i64 a_1], Value.agg #[Value.int IntKind.i64 b_0, Value.int IntKind.i64 b_1]]) w R :=
  fn_sound (H := h13) (fn := Go.Proofs.Try.f13) (by kernel_rfl) (by kernel_rfl) (by kernel_rfl) ((f13_eq a_0 a_1 b_0 b_1 w R).mpr h)


/-! manciple/ratio.Right -/
def h14 : Hints := ⟨[1], [], [6], [], [], [], []⟩
def f14_vc (f_0 : Int) (f_1 : Int) (w : World) (R : Ending → World → Prop) : Prop :=
  ∀ (n1 : Nat),
    w.heap.size ≤ n1 →
      (decide (f_0 ≥ 0) = true → ∀ (w2 : World), Below w.heap.size w w2 → Under [n1] w2 → R (Ending.returned (Value.bool (decide (f_1 ≥ 1)))) w2) ∧
        (decide (f_0 ≥ 0) = false → ∀ (w3 : World), Below w.heap.size w w3 → Under [n1] w3 → R (Ending.returned (Value.bool false)) w3)
theorem f14_eq (f_0 : Int) (f_1 : Int) (w : World) (R : Ending → World → Prop) : (fnF Go.Proofs.Try.prog h14 Go.Proofs.Try.f14 [Value.agg #[Value.int IntKind.i64 f_0, Value.int IntKind.i64 f_1]] w R).den = f14_vc f_0 f_1 w R := by kernel_rfl
theorem f14_calls (f_0 : Int) (f_1 : Int) (w : World) (R : Ending → World → Prop) (h : f14_vc f_0 f_1 w R) : Calls Go.Proofs.Try.prog 14 (List.toArray [Value.agg #[Value.int IntKind.i64 f_0, Value.int IntKind.i64 f_1]]) w R :=
  fn_sound (H := h14) (fn := Go.Proofs.Try.f14) (by kernel_rfl) (by kernel_rfl) (by kernel_rfl) ((f14_eq f_0 f_1 w R).mpr h)


/-! manciple/mancipleref02.Right -/
def h15 : Hints := ⟨[1], [], [6], [], [], [], []⟩
def f15_vc (f_0 : Int) (f_1 : Int) (w : World) (R : Ending → World → Prop) : Prop :=
  ∀ (n1 : Nat),
    w.heap.size ≤ n1 →
      (decide (f_0 ≥ 0) = true → ∀ (w2 : World), Below w.heap.size w w2 → Under [n1] w2 → R (Ending.returned (Value.bool (decide (f_1 ≥ 1)))) w2) ∧
        (decide (f_0 ≥ 0) = false → ∀ (w3 : World), Below w.heap.size w w3 → Under [n1] w3 → R (Ending.returned (Value.bool false)) w3)
theorem f15_eq (f_0 : Int) (f_1 : Int) (w : World) (R : Ending → World → Prop) : (fnF Go.Proofs.Try.prog h15 Go.Proofs.Try.f15 [Value.agg #[Value.int IntKind.i64 f_0, Value.int IntKind.i64 f_1]] w R).den = f15_vc f_0 f_1 w R := by kernel_rfl
theorem f15_calls (f_0 : Int) (f_1 : Int) (w : World) (R : Ending → World → Prop) (h : f15_vc f_0 f_1 w R) : Calls Go.Proofs.Try.prog 15 (List.toArray [Value.agg #[Value.int IntKind.i64 f_0, Value.int IntKind.i64 f_1]]) w R :=
  fn_sound (H := h15) (fn := Go.Proofs.Try.f15) (by kernel_rfl) (by kernel_rfl) (by kernel_rfl) ((f15_eq f_0 f_1 w R).mpr h)


/-! manciple/manciplelaw02.works -/
def h16 : Hints := ⟨[1], [19], [15, 21, 25], [], [], [], []⟩
def f16_vc  (w : World) (R : Ending → World → Prop) : Prop :=
  OpW Proofs.Try.prog
    (valueS (Instr.buildSlice 24 3 #[(0, Value.agg #[Value.int IntKind.i64 1, Value.int IntKind.i64 2]), (1, Value.agg #[Value.int IntKind.i64 2, Value.int IntKind.i64 3]), (2, Value.agg #[Value.int IntKind.i64 4, Value.int IntKind.i64 6])]))
    w fun (v1 : Value) (w2 : World) =>
    ∃ (a3 : Option Addr),
      ∃ (n4 : Nat),
        ∃ (n5 : Nat),
          v1 = Value.slice a3 n4 n5 ∧
            Calls Proofs.Try.prog 10 #[Value.slice a3 n4 n5] w2 fun (e6 : Ending) (w7 : World) =>
              ∃ (x8 : Int),
                ∃ (x9 : Int),
                  ∃ (x10 : Int),
                    e6 = Ending.returned (Value.tuple #[Value.agg #[Value.int IntKind.i64 x8, Value.int IntKind.i64 x9], Value.int IntKind.i64 x10]) ∧
                      ∀ (n11 : Nat),
                        w7.heap.size ≤ n11 →
                          ∀ (w12 : World),
                            Evo [n11] w7 w12 →
                              Under [n11] w12 →
                                Calls Proofs.Try.prog 12 #[Value.agg #[Value.int IntKind.i64 2, Value.int IntKind.i64 3], Value.agg #[Value.int IntKind.i64 3, Value.int IntKind.i64 5]] w12 fun (e13 : Ending) (w14 : World) =>
                                  ∃ (x15 : Int),
                                    e13 = Ending.returned (Value.int IntKind.i64 x15) ∧
                                      Keeps [n11] w12 w14 ∧
                                        ((x15 == 1) = true →
                                            Calls Proofs.Try.prog 17 #[Value.agg #[Value.int IntKind.i64 6, Value.int IntKind.i64 4]] w14 fun (e16 : Ending) (w17 : World) =>
                                              ∃ (x18 : Int),
                                                ∃ (x19 : Int),
                                                  e16 = Ending.returned (Value.agg #[Value.int IntKind.i64 x18, Value.int IntKind.i64 x19]) ∧
                                                    Keeps [n11] w14 w17 ∧
                                                      ∃ (b20 : Bool),
                                                        Gives Proofs.Try.prog
                                                            (binOpS BinOp.eql 23 (Operand.tmp 17) (Operand.tmp 18) (Value.agg #[Value.int IntKind.i64 x18, Value.int IntKind.i64 x19])
                                                              (Value.agg #[Value.int IntKind.i64 3, Value.int IntKind.i64 2]))
                                                            (Value.bool b20) ∧
                                                          (b20 = true → ((x10 == 1) = true → R (Ending.returned (Value.bool (x9 == 3))) w17) ∧ ((x10 == 1) = false → R (Ending.returned (Value.bool false)) w17)) ∧
                                                            (b20 = false → R (Ending.returned (Value.bool false)) w17)) ∧
                                          ((x15 == 1) = false → R (Ending.returned (Value.bool false)) w14)
theorem f16_eq  (w : World) (R : Ending → World → Prop) : (fnF Go.Proofs.Try.prog h16 Go.Proofs.Try.f16 [] w R).den = f16_vc  w R := by kernel_rfl
theorem f16_calls  (w : World) (R : Ending → World → Prop) (h : f16_vc  w R) : Calls Go.Proofs.Try.prog 16 (List.toArray []) w R :=
  fn_sound (H := h16) (fn := Go.Proofs.Try.f16) (by kernel_rfl) (by kernel_rfl) (by kernel_rfl) ((f16_eq  w R).mpr h)


/-! manciple/ratio.Low -/
def h17 : Hints := ⟨[1, 2], [16, 20], [6], [(4, [0, 1, 2, 3, 4, 5, 6, 7, 8, 9])], [], [], []⟩
def f17_vc (f_0 : Int) (f_1 : Int) (w : World) (R : Ending → World → Prop) : Prop :=
  ∀ (n1 : Nat),
    w.heap.size ≤ n1 →
      ∀ (n2 : Nat),
        w.heap.size ≤ n2 →
          ∀ (w3 : World),
            Below w.heap.size w w3 →
              Under [n1, n2] w3 →
                Calls Proofs.Try.prog 14 #[Value.agg #[Value.int IntKind.i64 f_0, Value.int IntKind.i64 f_1]] w3 fun (e4 : Ending) (w5 : World) =>
                  ∃ (b6 : Bool),
                    e4 = Ending.returned (Value.bool b6) ∧
                      Keeps [n1, n2] w3 w5 ∧
                        ((!b6) = true → ∀ (w7 : World), Evo [n2] w5 w7 → Under [n1, n2] w7 → R (Ending.returned (Value.agg #[Value.int IntKind.i64 0, Value.int IntKind.i64 0])) w7) ∧
                          ((!b6) = false →
                            Calls Proofs.Try.prog 18 #[Value.int IntKind.i64 f_0, Value.int IntKind.i64 f_1] w5 fun (e8 : Ending) (w9 : World) =>
                              ∃ (x10 : Int),
                                e8 = Ending.returned (Value.int IntKind.i64 x10) ∧
                                  Keeps [n1, n2] w5 w9 ∧
                                    ∃ (x11 : Int),
                                      Gives Proofs.Try.prog (binOpS BinOp.quo 2 (Operand.tmp 14) (Operand.tmp 15) (Value.int IntKind.i64 f_0) (Value.int IntKind.i64 x10)) (Value.int IntKind.i64 x11) ∧
                                        ∃ (x12 : Int),
                                          Gives Proofs.Try.prog (binOpS BinOp.quo 2 (Operand.tmp 18) (Operand.tmp 19) (Value.int IntKind.i64 f_1) (Value.int IntKind.i64 x10)) (Value.int IntKind.i64 x12) ∧
                                            ∀ (w13 : World), Evo [n2] w9 w13 → Under [n1, n2] w13 → R (Ending.returned (Value.agg #[Value.int IntKind.i64 x11, Value.int IntKind.i64 x12])) w13)
theorem f17_eq (f_0 : Int) (f_1 : Int) (w : World) (R : Ending → World → Prop) : (fnF Go.Proofs.Try.prog h17 Go.Proofs.Try.f17 [Value.agg #[Value.int IntKind.i64 f_0, Value.int IntKind.i64 f_1]] w R).den = f17_vc f_0 f_1 w R := by kernel_rfl
theorem f17_calls (f_0 : Int) (f_1 : Int) (w : World) (R : Ending → World → Prop) (h : f17_vc f_0 f_1 w R) : Calls Go.Proofs.Try.prog 17 (List.toArray [Value.agg #[Value.int IntKind.i64 f_0, Value.int IntKind.i64 f_1]]) w R :=
  fn_sound (H := h17) (fn := Go.Proofs.Try.f17) (by kernel_rfl) (by kernel_rfl) (by kernel_rfl) ((f17_eq f_0 f_1 w R).mpr h)


/-! manciple/ratio.Gcd -/
def h18 : Hints := ⟨[], [16], [10, 12, 7], [(4, [0, 1, 2, 3, 4, 5])], [], [(3, ⟨[(0, .int .i64), (1, .int .i64)], []⟩)], []⟩
def f18_vc (a : Int) (b : Int) (w : World) (R : Ending → World → Prop) : Prop :=
  (decide (a < 0) = true → R (Ending.returned (Value.int IntKind.i64 0)) w) ∧
    (decide (a < 0) = false →
      (decide (b < 0) = true → R (Ending.returned (Value.int IntKind.i64 0)) w) ∧
        (decide (b < 0) = false →
          ∃ (J1 : Int × Int × Unit → World → Prop),
            ∃ (J2 : Int × Int × Unit → World → Nat),
              J1 (a, b, ()) w ∧
                ∀ (x3 x4 : Int) (w5 : World),
                  J1 (x3, x4, ()) w5 →
                    (decide (x4 > 0) = true →
                        ∃ (x6 : Int),
                          Gives Proofs.Try.prog (binOpS BinOp.rem 2 (Operand.tmp 14) (Operand.tmp 15) (Value.int IntKind.i64 x3) (Value.int IntKind.i64 x4)) (Value.int IntKind.i64 x6) ∧
                            ∀ (w7 : World), Below w5.heap.size w5 w7 → J1 (x4, x6, ()) w7 ∧ J2 (x4, x6, ()) w7 < J2 (x3, x4, ()) w5) ∧
                      (decide (x4 > 0) = false → R (Ending.returned (Value.int IntKind.i64 x3)) w5)))
theorem f18_eq (a : Int) (b : Int) (w : World) (R : Ending → World → Prop) : (fnF Go.Proofs.Try.prog h18 Go.Proofs.Try.f18 [Value.int IntKind.i64 a, Value.int IntKind.i64 b] w R).den = f18_vc a b w R := by kernel_rfl
theorem f18_calls (a : Int) (b : Int) (w : World) (R : Ending → World → Prop) (h : f18_vc a b w R) : Calls Go.Proofs.Try.prog 18 (List.toArray [Value.int IntKind.i64 a, Value.int IntKind.i64 b]) w R :=
  fn_sound (H := h18) (fn := Go.Proofs.Try.f18) (by kernel_rfl) (by kernel_rfl) (by kernel_rfl) ((f18_eq a b w R).mpr h)


/-! manciple/quant.Sum -/
def h19 : Hints := ⟨[], [15], [10, 14, 25, 19], [], [], [(5, ⟨[(6, .int .i64), (13, .int .i64)], []⟩)], []⟩
def f19_vc (most : Int) (la : Option Addr) (ln : Nat) (lc : Nat) (w : World) (R : Ending → World → Prop) : Prop :=
  (decide (most < 0) = true → R (Ending.returned (Value.tuple #[Value.int IntKind.i64 0, Value.bool false])) w) ∧
    (decide (most < 0) = false →
      ∃ (J1 : Int × Int × Unit → World → Prop),
        ∃ (J2 : Int × Int × Unit → World → Nat),
          J1 (0, 0, ()) w ∧
            ∀ (x3 x4 : Int) (w5 : World),
              J1 (x3, x4, ()) w5 →
                (decide (x4 < (↑ln : Int)) = true →
                    ∃ (a6 : Option Addr),
                      Gives Proofs.Try.prog (Instr.indexAt 36 (Value.slice la ln lc) (Value.int IntKind.i64 x4)) (Value.pointer a6) ∧
                        ∃ (x7 : Int),
                          Reads Proofs.Try.prog [] (Instr.loadAt 2 (Value.pointer a6)) w5 (Value.int IntKind.i64 x7) ∧
                            (decide (x7 < 0) = true → R (Ending.returned (Value.tuple #[Value.int IntKind.i64 0, Value.bool false])) w5) ∧
                              (decide (x7 < 0) = false →
                                (decide (x7 > IntKind.i64.wrap (most - x3)) = true → R (Ending.returned (Value.tuple #[Value.int IntKind.i64 0, Value.bool false])) w5) ∧
                                  (decide (x7 > IntKind.i64.wrap (most - x3)) = false →
                                    J1 (IntKind.i64.wrap (x3 + x7), IntKind.i64.wrap (x4 + 1), ()) w5 ∧ J2 (IntKind.i64.wrap (x3 + x7), IntKind.i64.wrap (x4 + 1), ()) w5 < J2 (x3, x4, ()) w5))) ∧
                  (decide (x4 < (↑ln : Int)) = false → R (Ending.returned (Value.tuple #[Value.int IntKind.i64 x3, Value.bool true])) w5))
theorem f19_eq (most : Int) (la : Option Addr) (ln : Nat) (lc : Nat) (w : World) (R : Ending → World → Prop) : (fnF Go.Proofs.Try.prog h19 Go.Proofs.Try.f19 [Value.int IntKind.i64 most, Value.slice la ln lc] w R).den = f19_vc most la ln lc w R := by kernel_rfl
theorem f19_calls (most : Int) (la : Option Addr) (ln : Nat) (lc : Nat) (w : World) (R : Ending → World → Prop) (h : f19_vc most la ln lc w R) : Calls Go.Proofs.Try.prog 19 (List.toArray [Value.int IntKind.i64 most, Value.slice la ln lc]) w R :=
  fn_sound (H := h19) (fn := Go.Proofs.Try.f19) (by kernel_rfl) (by kernel_rfl) (by kernel_rfl) ((f19_eq most la ln lc w R).mpr h)


/-! manciple/mancipleref03.Sum -/
def h20 : Hints := ⟨[], [17, 27, 35], [12, 31, 39, 20, 24], [], [], [(3, ⟨[(6, .int .i64), (7, .int .i64)], []⟩)], []⟩
def f20_vc (most : Int) (la : Option Addr) (ln : Nat) (lc : Nat) (w : World) (R : Ending → World → Prop) : Prop :=
  ∃ (J1 : Int × Int × Unit → World → Prop),
    ∃ (J2 : Int × Int × Unit → World → Nat),
      J1 (most, 0, ()) w ∧
        ∀ (x3 x4 : Int) (w5 : World),
          J1 (x3, x4, ()) w5 →
            (decide (x4 < (↑ln : Int)) = true →
                ∃ (a6 : Option Addr),
                  Gives Proofs.Try.prog (Instr.indexAt 36 (Value.slice la ln lc) (Value.int IntKind.i64 x4)) (Value.pointer a6) ∧
                    ∃ (x7 : Int),
                      Reads Proofs.Try.prog [] (Instr.loadAt 2 (Value.pointer a6)) w5 (Value.int IntKind.i64 x7) ∧
                        (decide (x7 < 0) = true → R (Ending.returned (Value.tuple #[Value.int IntKind.i64 0, Value.bool false])) w5) ∧
                          (decide (x7 < 0) = false →
                            (decide (x3 < 0) = true → R (Ending.returned (Value.tuple #[Value.int IntKind.i64 0, Value.bool false])) w5) ∧
                              (decide (x3 < 0) = false →
                                ∃ (a8 : Option Addr),
                                  Gives Proofs.Try.prog (Instr.indexAt 36 (Value.slice la ln lc) (Value.int IntKind.i64 x4)) (Value.pointer a8) ∧
                                    ∃ (x9 : Int),
                                      Reads Proofs.Try.prog [] (Instr.loadAt 2 (Value.pointer a8)) w5 (Value.int IntKind.i64 x9) ∧
                                        (decide (x9 > x3) = true → R (Ending.returned (Value.tuple #[Value.int IntKind.i64 0, Value.bool false])) w5) ∧
                                          (decide (x9 > x3) = false →
                                            ∃ (a10 : Option Addr),
                                              Gives Proofs.Try.prog (Instr.indexAt 36 (Value.slice la ln lc) (Value.int IntKind.i64 x4)) (Value.pointer a10) ∧
                                                ∃ (x11 : Int),
                                                  Reads Proofs.Try.prog [] (Instr.loadAt 2 (Value.pointer a10)) w5 (Value.int IntKind.i64 x11) ∧
                                                    J1 (IntKind.i64.wrap (x3 - x11), IntKind.i64.wrap (x4 + 1), ()) w5 ∧ J2 (IntKind.i64.wrap (x3 - x11), IntKind.i64.wrap (x4 + 1), ()) w5 < J2 (x3, x4, ()) w5)))) ∧
              (decide (x4 < (↑ln : Int)) = false →
                (decide (most < 0) = true → R (Ending.returned (Value.tuple #[Value.int IntKind.i64 0, Value.bool false])) w5) ∧
                  (decide (most < 0) = false → R (Ending.returned (Value.tuple #[Value.int IntKind.i64 (IntKind.i64.wrap (most - x3)), Value.bool true])) w5))
theorem f20_eq (most : Int) (la : Option Addr) (ln : Nat) (lc : Nat) (w : World) (R : Ending → World → Prop) : (fnF Go.Proofs.Try.prog h20 Go.Proofs.Try.f20 [Value.int IntKind.i64 most, Value.slice la ln lc] w R).den = f20_vc most la ln lc w R := by kernel_rfl
theorem f20_calls (most : Int) (la : Option Addr) (ln : Nat) (lc : Nat) (w : World) (R : Ending → World → Prop) (h : f20_vc most la ln lc w R) : Calls Go.Proofs.Try.prog 20 (List.toArray [Value.int IntKind.i64 most, Value.slice la ln lc]) w R :=
  fn_sound (H := h20) (fn := Go.Proofs.Try.f20) (by kernel_rfl) (by kernel_rfl) (by kernel_rfl) ((f20_eq most la ln lc w R).mpr h)


/-! manciple/quant.Add -/
def h21 : Hints := ⟨[], [], [], [], [], [], []⟩
def f21_vc (a : Int) (b : Int) (most : Int) (w : World) (R : Ending → World → Prop) : Prop :=
  OpW Proofs.Try.prog (valueS (Instr.buildSlice 36 2 #[(0, Value.int IntKind.i64 a), (1, Value.int IntKind.i64 b)])) w fun (v1 : Value) (w2 : World) =>
    ∃ (a3 : Option Addr),
      ∃ (n4 : Nat),
        ∃ (n5 : Nat),
          v1 = Value.slice a3 n4 n5 ∧
            Calls Proofs.Try.prog 19 #[Value.int IntKind.i64 most, Value.slice a3 n4 n5] w2 fun (e6 : Ending) (w7 : World) =>
              ∃ (x8 : Int), ∃ (b9 : Bool), e6 = Ending.returned (Value.tuple #[Value.int IntKind.i64 x8, Value.bool b9]) ∧ R (Ending.returned (Value.tuple #[Value.int IntKind.i64 x8, Value.bool b9])) w7
theorem f21_eq (a : Int) (b : Int) (most : Int) (w : World) (R : Ending → World → Prop) : (fnF Go.Proofs.Try.prog h21 Go.Proofs.Try.f21 [Value.int IntKind.i64 a, Value.int IntKind.i64 b, Value.int IntKind.i64 most] w R).den = f21_vc a b most w R := by kernel_rfl
theorem f21_calls (a : Int) (b : Int) (most : Int) (w : World) (R : Ending → World → Prop) (h : f21_vc a b most w R) : Calls Go.Proofs.Try.prog 21 (List.toArray [Value.int IntKind.i64 a, Value.int IntKind.i64 b, Value.int IntKind.i64 most]) w R :=
  fn_sound (H := h21) (fn := Go.Proofs.Try.f21) (by kernel_rfl) (by kernel_rfl) (by kernel_rfl) ((f21_eq a b most w R).mpr h)


/-! manciple/quant.Times -/
def h22 : Hints := ⟨[], [25], [28, 10, 14, 18, 21], [], [], [], []⟩
def f22_vc (a : Int) (n : Int) (most : Int) (w : World) (R : Ending → World → Prop) : Prop :=
  (decide (a < 0) = true → R (Ending.returned (Value.tuple #[Value.int IntKind.i64 0, Value.bool false])) w) ∧
    (decide (a < 0) = false →
      (decide (n < 0) = true → R (Ending.returned (Value.tuple #[Value.int IntKind.i64 0, Value.bool false])) w) ∧
        (decide (n < 0) = false →
          (decide (most < 0) = true → R (Ending.returned (Value.tuple #[Value.int IntKind.i64 0, Value.bool false])) w) ∧
            (decide (most < 0) = false →
              (decide (a > 0) = true →
                  ∃ (x1 : Int),
                    Gives Proofs.Try.prog (binOpS BinOp.quo 2 (Operand.tmp 23) (Operand.tmp 24) (Value.int IntKind.i64 most) (Value.int IntKind.i64 a)) (Value.int IntKind.i64 x1) ∧
                      (decide (n > x1) = true → R (Ending.returned (Value.tuple #[Value.int IntKind.i64 0, Value.bool false])) w) ∧
                        (decide (n > x1) = false → R (Ending.returned (Value.tuple #[Value.int IntKind.i64 (IntKind.i64.wrap (a * n)), Value.bool true])) w)) ∧
                (decide (a > 0) = false → R (Ending.returned (Value.tuple #[Value.int IntKind.i64 (IntKind.i64.wrap (a * n)), Value.bool true])) w))))
theorem f22_eq (a : Int) (n : Int) (most : Int) (w : World) (R : Ending → World → Prop) : (fnF Go.Proofs.Try.prog h22 Go.Proofs.Try.f22 [Value.int IntKind.i64 a, Value.int IntKind.i64 n, Value.int IntKind.i64 most] w R).den = f22_vc a n most w R := by kernel_rfl
theorem f22_calls (a : Int) (n : Int) (most : Int) (w : World) (R : Ending → World → Prop) (h : f22_vc a n most w R) : Calls Go.Proofs.Try.prog 22 (List.toArray [Value.int IntKind.i64 a, Value.int IntKind.i64 n, Value.int IntKind.i64 most]) w R :=
  fn_sound (H := h22) (fn := Go.Proofs.Try.f22) (by kernel_rfl) (by kernel_rfl) (by kernel_rfl) ((f22_eq a n most w R).mpr h)


/-! manciple/mancipleref03.Times -/
def h23 : Hints := ⟨[], [25], [28, 10, 14, 18, 21], [], [], [], []⟩
def f23_vc (a : Int) (n : Int) (most : Int) (w : World) (R : Ending → World → Prop) : Prop :=
  (decide (a < 0) = true → R (Ending.returned (Value.tuple #[Value.int IntKind.i64 0, Value.bool false])) w) ∧
    (decide (a < 0) = false →
      (decide (n < 0) = true → R (Ending.returned (Value.tuple #[Value.int IntKind.i64 0, Value.bool false])) w) ∧
        (decide (n < 0) = false →
          (decide (most < 0) = true → R (Ending.returned (Value.tuple #[Value.int IntKind.i64 0, Value.bool false])) w) ∧
            (decide (most < 0) = false →
              (decide (a > 0) = true →
                  ∃ (x1 : Int),
                    Gives Proofs.Try.prog (binOpS BinOp.quo 2 (Operand.tmp 23) (Operand.tmp 24) (Value.int IntKind.i64 most) (Value.int IntKind.i64 a)) (Value.int IntKind.i64 x1) ∧
                      (decide (n > x1) = true → R (Ending.returned (Value.tuple #[Value.int IntKind.i64 0, Value.bool false])) w) ∧
                        (decide (n > x1) = false → R (Ending.returned (Value.tuple #[Value.int IntKind.i64 (IntKind.i64.wrap (a * n)), Value.bool true])) w)) ∧
                (decide (a > 0) = false → R (Ending.returned (Value.tuple #[Value.int IntKind.i64 (IntKind.i64.wrap (a * n)), Value.bool true])) w))))
theorem f23_eq (a : Int) (n : Int) (most : Int) (w : World) (R : Ending → World → Prop) : (fnF Go.Proofs.Try.prog h23 Go.Proofs.Try.f23 [Value.int IntKind.i64 a, Value.int IntKind.i64 n, Value.int IntKind.i64 most] w R).den = f23_vc a n most w R := by kernel_rfl
theorem f23_calls (a : Int) (n : Int) (most : Int) (w : World) (R : Ending → World → Prop) (h : f23_vc a n most w R) : Calls Go.Proofs.Try.prog 23 (List.toArray [Value.int IntKind.i64 a, Value.int IntKind.i64 n, Value.int IntKind.i64 most]) w R :=
  fn_sound (H := h23) (fn := Go.Proofs.Try.f23) (by kernel_rfl) (by kernel_rfl) (by kernel_rfl) ((f23_eq a n most w R).mpr h)


/-! manciple/manciplelaw03.works -/
def h24 : Hints := ⟨[], [], [21, 24, 28, 32, 36], [], [], [], []⟩
def f24_vc  (w : World) (R : Ending → World → Prop) : Prop :=
  Calls Proofs.Try.prog 21 #[Value.int IntKind.i64 3, Value.int IntKind.i64 4, Value.int IntKind.i64 7] w fun (e1 : Ending) (w2 : World) =>
    ∃ (x3 : Int),
      ∃ (b4 : Bool),
        e1 = Ending.returned (Value.tuple #[Value.int IntKind.i64 x3, Value.bool b4]) ∧
          Calls Proofs.Try.prog 21 #[Value.int IntKind.i64 3, Value.int IntKind.i64 4, Value.int IntKind.i64 6] w2 fun (e5 : Ending) (w6 : World) =>
            ∃ (x7 : Int),
              ∃ (b8 : Bool),
                e5 = Ending.returned (Value.tuple #[Value.int IntKind.i64 x7, Value.bool b8]) ∧
                  Calls Proofs.Try.prog 25 #[Value.string (ByteArray.mk #[48, 46, 48, 50, 53])] w6 fun (e9 : Ending) (w10 : World) =>
                    ∃ (x11 : Int),
                      ∃ (b12 : Bool),
                        e9 = Ending.returned (Value.tuple #[Value.int IntKind.i64 x11, Value.bool b12]) ∧
                          ((x3 == 7) = true →
                              (b4 = true →
                                  ((!b8) = true →
                                      Calls Proofs.Try.prog 27 #[Value.int IntKind.i64 1500] w10 fun (e13 : Ending) (w14 : World) =>
                                        ∃ (s15 : ByteArray),
                                          e13 = Ending.returned (Value.string s15) ∧
                                            ((s15.toList == (ByteArray.mk #[49, 46, 53]).toList) = true → ((x11 == 25) = true → R (Ending.returned (Value.bool b12)) w14) ∧ ((x11 == 25) = false → R (Ending.returned (Value.bool false)) w14)) ∧
                                              ((s15.toList == (ByteArray.mk #[49, 46, 53]).toList) = false → R (Ending.returned (Value.bool false)) w14)) ∧
                                    ((!b8) = false → R (Ending.returned (Value.bool false)) w10)) ∧
                                (b4 = false → R (Ending.returned (Value.bool false)) w10)) ∧
                            ((x3 == 7) = false → R (Ending.returned (Value.bool false)) w10)
theorem f24_eq  (w : World) (R : Ending → World → Prop) : (fnF Go.Proofs.Try.prog h24 Go.Proofs.Try.f24 [] w R).den = f24_vc  w R := by kernel_rfl
theorem f24_calls  (w : World) (R : Ending → World → Prop) (h : f24_vc  w R) : Calls Go.Proofs.Try.prog 24 (List.toArray []) w R :=
  fn_sound (H := h24) (fn := Go.Proofs.Try.f24) (by kernel_rfl) (by kernel_rfl) (by kernel_rfl) ((f24_eq  w R).mpr h)


/-! manciple/mancipleref03.Text -/
def h26 : Hints := ⟨[], [21, 29, 31, 34], [11, 18, 23, 8], [], [], [(9, ⟨[(3, .str), (4, .int .i64), (5, .int .i64)], []⟩)], []⟩
def f26_vc (n : Int) (w : World) (R : Ending → World → Prop) : Prop :=
  (decide (n < 0) = true → R (Ending.returned (Value.string (ByteArray.mk #[]))) w) ∧
    (decide (n < 0) = false →
      (decide (n > 9007199254740992) = true → R (Ending.returned (Value.string (ByteArray.mk #[]))) w) ∧
        (decide (n > 9007199254740992) = false →
          Calls Proofs.Try.prog 39 #[Value.int IntKind.i64 (IntKind.i64.wrap (n.tdiv 1000))] w fun (e1 : Ending) (w2 : World) =>
            ∃ (s3 : ByteArray),
              e1 = Ending.returned (Value.string s3) ∧
                ((n.tmod 1000 == 0) = true → R (Ending.returned (Value.string s3)) w2) ∧
                  ((n.tmod 1000 == 0) = false →
                    ∃ (s4 : ByteArray),
                      Gives Proofs.Try.prog (binOpS BinOp.add 9 (Operand.tmp 20) (Operand.const (Value.string (ByteArray.mk #[46]))) (Value.string s3) (Value.string (ByteArray.mk #[46]))) (Value.string s4) ∧
                        ∃ (J5 : ByteArray × Int × Int × Unit → World → Prop),
                          ∃ (J6 : ByteArray × Int × Int × Unit → World → Nat),
                            J5 (s4, n.tmod 1000, 100, ()) w2 ∧
                              ∀ (s7 : ByteArray) (x8 x9 : Int) (w10 : World),
                                J5 (s7, x8, x9, ()) w10 →
                                  (decide (x8 > 0) = true →
                                      ∃ (x11 : Int),
                                        Gives Proofs.Try.prog (binOpS BinOp.quo 2 (Operand.tmp 27) (Operand.tmp 28) (Value.int IntKind.i64 x8) (Value.int IntKind.i64 x9)) (Value.int IntKind.i64 x11) ∧
                                          Calls Proofs.Try.prog 39 #[Value.int IntKind.i64 x11] w10 fun (e12 : Ending) (w13 : World) =>
                                            ∃ (s14 : ByteArray),
                                              e12 = Ending.returned (Value.string s14) ∧
                                                ∃ (s15 : ByteArray),
                                                  Gives Proofs.Try.prog (binOpS BinOp.add 9 (Operand.tmp 26) (Operand.tmp 30) (Value.string s7) (Value.string s14)) (Value.string s15) ∧
                                                    ∃ (x16 : Int),
                                                      Gives Proofs.Try.prog (binOpS BinOp.rem 2 (Operand.tmp 32) (Operand.tmp 33) (Value.int IntKind.i64 x8) (Value.int IntKind.i64 x9)) (Value.int IntKind.i64 x16) ∧
                                                        J5 (s15, x16, IntKind.i64.wrap (x9.tdiv 10), ()) w13 ∧ J6 (s15, x16, IntKind.i64.wrap (x9.tdiv 10), ()) w13 < J6 (s7, x8, x9, ()) w10) ∧
                                    (decide (x8 > 0) = false → R (Ending.returned (Value.string s7)) w10))))
theorem f26_eq (n : Int) (w : World) (R : Ending → World → Prop) : (fnF Go.Proofs.Try.prog h26 Go.Proofs.Try.f26 [Value.int IntKind.i64 n] w R).den = f26_vc n w R := by kernel_rfl
theorem f26_calls (n : Int) (w : World) (R : Ending → World → Prop) (h : f26_vc n w R) : Calls Go.Proofs.Try.prog 26 (List.toArray [Value.int IntKind.i64 n]) w R :=
  fn_sound (H := h26) (fn := Go.Proofs.Try.f26) (by kernel_rfl) (by kernel_rfl) (by kernel_rfl) ((f26_eq n w R).mpr h)


/-! manciple/quant.Text -/
def h27 : Hints := ⟨[], [25, 32], [6, 12, 27], [], [], [(7, ⟨[(3, .sl)], []⟩)], []⟩
def f27_vc (n : Int) (w : World) (R : Ending → World → Prop) : Prop :=
  Calls Proofs.Try.prog 28 #[Value.int IntKind.i64 n] w fun (e1 : Ending) (w2 : World) =>
    ∃ (b3 : Bool),
      e1 = Ending.returned (Value.bool b3) ∧
        ((!b3) = true → R (Ending.returned (Value.string (ByteArray.mk #[]))) w2) ∧
          ((!b3) = false →
            Calls Proofs.Try.prog 40 #[Value.slice none 0 0, Value.int IntKind.i64 (IntKind.i64.wrap (n.tdiv 1000)), Value.int IntKind.i64 1] w2 fun (e4 : Ending) (w5 : World) =>
              ∃ (a6 : Option Addr),
                ∃ (n7 : Nat),
                  ∃ (n8 : Nat),
                    e4 = Ending.returned (Value.slice a6 n7 n8) ∧
                      ((n.tmod 1000 == 0) = true →
                          OpW Proofs.Try.prog (valueS (convert 61 9 (Value.slice a6 n7 n8))) w5 fun (v9 : Value) (w10 : World) => ∃ (s11 : ByteArray), v9 = Value.string s11 ∧ R (Ending.returned (Value.string s11)) w10) ∧
                        ((n.tmod 1000 == 0) = false →
                          OpW Proofs.Try.prog (valueS (Instr.buildSlice 61 1 #[(0, Value.int IntKind.u8 46)])) w5 fun (v12 : Value) (w13 : World) =>
                            ∃ (a14 : Option Addr),
                              ∃ (n15 : Nat),
                                ∃ (n16 : Nat),
                                  v12 = Value.slice a14 n15 n16 ∧
                                    OpW Proofs.Try.prog (builtin Builtin.append #[61, 61] 61 #[false, false] #[Value.slice a6 n7 n8, Value.slice a14 n15 n16]) w13 fun (v17 : Value) (w18 : World) =>
                                      ∃ (a19 : Option Addr),
                                        ∃ (n20 : Nat),
                                          ∃ (n21 : Nat),
                                            v17 = Value.slice a19 n20 n21 ∧
                                              Calls Proofs.Try.prog 40 #[Value.slice a19 n20 n21, Value.int IntKind.i64 (n.tmod 1000), Value.int IntKind.i64 3] w18 fun (e22 : Ending) (w23 : World) =>
                                                ∃ (a24 : Option Addr),
                                                  ∃ (n25 : Nat),
                                                    ∃ (n26 : Nat),
                                                      e22 = Ending.returned (Value.slice a24 n25 n26) ∧
                                                        ∃ (J27 : (Option Addr × Nat × Nat) × Unit → World → Prop),
                                                          ∃ (J28 : (Option Addr × Nat × Nat) × Unit → World → Nat),
                                                            J27 ((a24, n25, n26), ()) w23 ∧
                                                              ∀ (a29 : Option Addr) (n30 n31 : Nat) (w32 : World),
                                                                J27 ((a29, n30, n31), ()) w32 →
                                                                  ∃ (a33 : Option Addr),
                                                                    Gives Proofs.Try.prog (Instr.indexAt 61 (Value.slice a29 n30 n31) (Value.int IntKind.i64 (IntKind.i64.wrap ((↑n30 : Int) - 1)))) (Value.pointer a33) ∧
                                                                      ∃ (x34 : Int),
                                                                        Reads Proofs.Try.prog [] (Instr.loadAt 5 (Value.pointer a33)) w32 (Value.int IntKind.u8 x34) ∧
                                                                          ((x34 == 48) = true →
                                                                              ∃ (a35 : Option Addr),
                                                                                ∃ (n36 : Nat),
                                                                                  ∃ (n37 : Nat),
                                                                                    Gives Proofs.Try.prog (Instr.sliceAt 61 (Value.slice a29 n30 n31) none (some (Value.int IntKind.i64 (IntKind.i64.wrap ((↑n30 : Int) - 1)))) none)
                                                                                        (Value.slice a35 n36 n37) ∧
                                                                                      J27 ((a35, n36, n37), ()) w32 ∧ J28 ((a35, n36, n37), ()) w32 < J28 ((a29, n30, n31), ()) w32) ∧
                                                                            ((x34 == 48) = false →
                                                                              OpW Proofs.Try.prog (valueS (convert 61 9 (Value.slice a29 n30 n31))) w32 fun (v38 : Value) (w39 : World) =>
                                                                                ∃ (s40 : ByteArray), v38 = Value.string s40 ∧ R (Ending.returned (Value.string s40)) w39)))
theorem f27_eq (n : Int) (w : World) (R : Ending → World → Prop) : (fnF Go.Proofs.Try.prog h27 Go.Proofs.Try.f27 [Value.int IntKind.i64 n] w R).den = f27_vc n w R := by kernel_rfl
theorem f27_calls (n : Int) (w : World) (R : Ending → World → Prop) (h : f27_vc n w R) : Calls Go.Proofs.Try.prog 27 (List.toArray [Value.int IntKind.i64 n]) w R :=
  fn_sound (H := h27) (fn := Go.Proofs.Try.f27) (by kernel_rfl) (by kernel_rfl) (by kernel_rfl) ((f27_eq n w R).mpr h)


/-! manciple/quant.Right -/
def h28 : Hints := ⟨[], [], [5], [], [], [], []⟩
def f28_vc (n : Int) (w : World) (R : Ending → World → Prop) : Prop :=
  (decide (n ≥ 0) = true → R (Ending.returned (Value.bool (decide (n ≤ 9007199254740992)))) w) ∧ (decide (n ≥ 0) = false → R (Ending.returned (Value.bool false)) w)
theorem f28_eq (n : Int) (w : World) (R : Ending → World → Prop) : (fnF Go.Proofs.Try.prog h28 Go.Proofs.Try.f28 [Value.int IntKind.i64 n] w R).den = f28_vc n w R := by kernel_rfl
theorem f28_calls (n : Int) (w : World) (R : Ending → World → Prop) (h : f28_vc n w R) : Calls Go.Proofs.Try.prog 28 (List.toArray [Value.int IntKind.i64 n]) w R :=
  fn_sound (H := h28) (fn := Go.Proofs.Try.f28) (by kernel_rfl) (by kernel_rfl) (by kernel_rfl) ((f28_eq n w R).mpr h)


/-! manciple/quant.Sub -/
def h29 : Hints := ⟨[], [], [12, 8], [], [], [], []⟩
def f29_vc (a : Int) (b : Int) (w : World) (R : Ending → World → Prop) : Prop :=
  (decide (b < 0) = true → R (Ending.returned (Value.tuple #[Value.int IntKind.i64 0, Value.bool false])) w) ∧
    (decide (b < 0) = false →
      (decide (b > a) = true → R (Ending.returned (Value.tuple #[Value.int IntKind.i64 0, Value.bool false])) w) ∧
        (decide (b > a) = false → R (Ending.returned (Value.tuple #[Value.int IntKind.i64 (IntKind.i64.wrap (a - b)), Value.bool true])) w))
theorem f29_eq (a : Int) (b : Int) (w : World) (R : Ending → World → Prop) : (fnF Go.Proofs.Try.prog h29 Go.Proofs.Try.f29 [Value.int IntKind.i64 a, Value.int IntKind.i64 b] w R).den = f29_vc a b w R := by kernel_rfl
theorem f29_calls (a : Int) (b : Int) (w : World) (R : Ending → World → Prop) (h : f29_vc a b w R) : Calls Go.Proofs.Try.prog 29 (List.toArray [Value.int IntKind.i64 a, Value.int IntKind.i64 b]) w R :=
  fn_sound (H := h29) (fn := Go.Proofs.Try.f29) (by kernel_rfl) (by kernel_rfl) (by kernel_rfl) ((f29_eq a b w R).mpr h)


/-! manciple/ratio.Parse -/
def h30 : Hints := ⟨[2], [16, 21, 29], [12, 17, 42, 35, 39], [], [], [(2, ⟨[(11, .int .i64)], [(2, .cons (.int .i64) (.cons (.int .i64) (.nil)))]⟩)], []⟩
def f30_vc (s : ByteArray) (w : World) (R : Ending → World → Prop) : Prop :=
  ∀ (n1 : Nat),
    w.heap.size ≤ n1 →
      ∃ (J2 : Int × Int × Int × Unit → World → Prop),
        ∃ (J3 : Int × Int × Int × Unit → World → Nat),
          (∀ (w4 : World), Below w.heap.size w w4 → Under [n1] w4 → J2 (0, 0, 0, ()) w4) ∧
            ∀ (x5 x6 x7 : Int) (w8 : World),
              J2 (x5, x6, x7, ()) w8 →
                (decide (x5 < (↑s.size : Int)) = true →
                    ∃ (x9 : Int),
                      Gives Proofs.Try.prog (Instr.index 9 (Value.string s) (Value.int IntKind.i64 x5)) (Value.int IntKind.u8 x9) ∧
                        ((x9 != 47) = true → J2 (IntKind.i64.wrap (x5 + 1), x6, x7, ()) w8 ∧ J3 (IntKind.i64.wrap (x5 + 1), x6, x7, ()) w8 < J3 (x5, x6, x7, ()) w8) ∧
                          ((x9 != 47) = false →
                            ∃ (s10 : ByteArray),
                              Gives Proofs.Try.prog (Instr.sliceAt 9 (Value.string s) none (some (Value.int IntKind.i64 x5)) none) (Value.string s10) ∧
                                Calls Proofs.Try.prog 41 #[Value.string s10] w8 fun (e11 : Ending) (w12 : World) =>
                                  ∃ (x13 : Int),
                                    ∃ (b14 : Bool),
                                      e11 = Ending.returned (Value.tuple #[Value.int IntKind.i64 x13, Value.bool b14]) ∧
                                        Keeps [n1] w8 w12 ∧
                                          ∃ (s15 : ByteArray),
                                            Gives Proofs.Try.prog (Instr.sliceAt 9 (Value.string s) (some (Value.int IntKind.i64 (IntKind.i64.wrap (x5 + 1)))) none none) (Value.string s15) ∧
                                              Calls Proofs.Try.prog 41 #[Value.string s15] w12 fun (e16 : Ending) (w17 : World) =>
                                                ∃ (x18 : Int),
                                                  ∃ (b19 : Bool),
                                                    e16 = Ending.returned (Value.tuple #[Value.int IntKind.i64 x18, Value.bool b19]) ∧
                                                      Keeps [n1] w12 w17 ∧
                                                        ((!b14) = true →
                                                            ∀ (w20 : World), Evo [n1] w17 w20 → Under [n1] w20 → R (Ending.returned (Value.tuple #[Value.agg #[Value.int IntKind.i64 0, Value.int IntKind.i64 0], Value.bool false])) w20) ∧
                                                          ((!b14) = false →
                                                            ((!b19) = true →
                                                                ∀ (w21 : World), Evo [n1] w17 w21 → Under [n1] w21 → R (Ending.returned (Value.tuple #[Value.agg #[Value.int IntKind.i64 0, Value.int IntKind.i64 0], Value.bool false])) w21) ∧
                                                              ((!b19) = false →
                                                                (decide (x18 < 1) = true →
                                                                    ∀ (w22 : World),
                                                                      Evo [n1] w17 w22 → Under [n1] w22 → R (Ending.returned (Value.tuple #[Value.agg #[Value.int IntKind.i64 0, Value.int IntKind.i64 0], Value.bool false])) w22) ∧
                                                                  (decide (x18 < 1) = false →
                                                                    ∀ (w23 : World),
                                                                      Evo [n1] w17 w23 → Under [n1] w23 → R (Ending.returned (Value.tuple #[Value.agg #[Value.int IntKind.i64 x13, Value.int IntKind.i64 x18], Value.bool true])) w23))))) ∧
                  (decide (x5 < (↑s.size : Int)) = false → ∀ (w24 : World), Evo [n1] w8 w24 → Under [n1] w24 → R (Ending.returned (Value.tuple #[Value.agg #[Value.int IntKind.i64 0, Value.int IntKind.i64 0], Value.bool false])) w24)
theorem f30_eq (s : ByteArray) (w : World) (R : Ending → World → Prop) : (fnF Go.Proofs.Try.prog h30 Go.Proofs.Try.f30 [Value.string s] w R).den = f30_vc s w R := by kernel_rfl
theorem f30_calls (s : ByteArray) (w : World) (R : Ending → World → Prop) (h : f30_vc s w R) : Calls Go.Proofs.Try.prog 30 (List.toArray [Value.string s]) w R :=
  fn_sound (H := h30) (fn := Go.Proofs.Try.f30) (by kernel_rfl) (by kernel_rfl) (by kernel_rfl) ((f30_eq s w R).mpr h)


/-! manciple/mancipleref02.Parse -/
def h31 : Hints := ⟨[2], [17, 22, 30], [12, 18, 41, 35, 38], [], [], [(2, ⟨[(4, .int .i64)], [(2, .cons (.int .i64) (.cons (.int .i64) (.nil)))]⟩)], []⟩
def f31_vc (s : ByteArray) (w : World) (R : Ending → World → Prop) : Prop :=
  ∀ (n1 : Nat),
    w.heap.size ≤ n1 →
      ∃ (J2 : Int × Int × Int × Unit → World → Prop),
        ∃ (J3 : Int × Int × Int × Unit → World → Nat),
          (∀ (w4 : World), Below w.heap.size w w4 → Under [n1] w4 → J2 (0, 0, 0, ()) w4) ∧
            ∀ (x5 x6 x7 : Int) (w8 : World),
              J2 (x5, x6, x7, ()) w8 →
                (decide (x5 < (↑s.size : Int)) = true →
                    ∃ (x9 : Int),
                      Gives Proofs.Try.prog (Instr.index 9 (Value.string s) (Value.int IntKind.i64 x5)) (Value.int IntKind.u8 x9) ∧
                        ((x9 == 47) = true →
                            ∃ (s10 : ByteArray),
                              Gives Proofs.Try.prog (Instr.sliceAt 9 (Value.string s) none (some (Value.int IntKind.i64 x5)) none) (Value.string s10) ∧
                                Calls Proofs.Try.prog 42 #[Value.string s10] w8 fun (e11 : Ending) (w12 : World) =>
                                  ∃ (x13 : Int),
                                    ∃ (b14 : Bool),
                                      e11 = Ending.returned (Value.tuple #[Value.int IntKind.i64 x13, Value.bool b14]) ∧
                                        Keeps [n1] w8 w12 ∧
                                          ∃ (s15 : ByteArray),
                                            Gives Proofs.Try.prog (Instr.sliceAt 9 (Value.string s) (some (Value.int IntKind.i64 (IntKind.i64.wrap (x5 + 1)))) none none) (Value.string s15) ∧
                                              Calls Proofs.Try.prog 42 #[Value.string s15] w12 fun (e16 : Ending) (w17 : World) =>
                                                ∃ (x18 : Int),
                                                  ∃ (b19 : Bool),
                                                    e16 = Ending.returned (Value.tuple #[Value.int IntKind.i64 x18, Value.bool b19]) ∧
                                                      Keeps [n1] w12 w17 ∧
                                                        (b14 = true →
                                                            (b19 = true →
                                                                (decide (x18 ≥ 1) = true →
                                                                    ∀ (w20 : World),
                                                                      Evo [n1] w17 w20 → Under [n1] w20 → R (Ending.returned (Value.tuple #[Value.agg #[Value.int IntKind.i64 x13, Value.int IntKind.i64 x18], Value.bool true])) w20) ∧
                                                                  (decide (x18 ≥ 1) = false →
                                                                    ∀ (w21 : World),
                                                                      Evo [n1] w17 w21 → Under [n1] w21 → R (Ending.returned (Value.tuple #[Value.agg #[Value.int IntKind.i64 0, Value.int IntKind.i64 0], Value.bool false])) w21)) ∧
                                                              (b19 = false →
                                                                ∀ (w22 : World), Evo [n1] w17 w22 → Under [n1] w22 → R (Ending.returned (Value.tuple #[Value.agg #[Value.int IntKind.i64 0, Value.int IntKind.i64 0], Value.bool false])) w22)) ∧
                                                          (b14 = false →
                                                            ∀ (w23 : World), Evo [n1] w17 w23 → Under [n1] w23 → R (Ending.returned (Value.tuple #[Value.agg #[Value.int IntKind.i64 0, Value.int IntKind.i64 0], Value.bool false])) w23)) ∧
                          ((x9 == 47) = false → J2 (IntKind.i64.wrap (x5 + 1), x6, x7, ()) w8 ∧ J3 (IntKind.i64.wrap (x5 + 1), x6, x7, ()) w8 < J3 (x5, x6, x7, ()) w8)) ∧
                  (decide (x5 < (↑s.size : Int)) = false → ∀ (w24 : World), Evo [n1] w8 w24 → Under [n1] w24 → R (Ending.returned (Value.tuple #[Value.agg #[Value.int IntKind.i64 0, Value.int IntKind.i64 0], Value.bool false])) w24)
theorem f31_eq (s : ByteArray) (w : World) (R : Ending → World → Prop) : (fnF Go.Proofs.Try.prog h31 Go.Proofs.Try.f31 [Value.string s] w R).den = f31_vc s w R := by kernel_rfl
theorem f31_calls (s : ByteArray) (w : World) (R : Ending → World → Prop) (h : f31_vc s w R) : Calls Go.Proofs.Try.prog 31 (List.toArray [Value.string s]) w R :=
  fn_sound (H := h31) (fn := Go.Proofs.Try.f31) (by kernel_rfl) (by kernel_rfl) (by kernel_rfl) ((f31_eq s w R).mpr h)


/-! manciple/ratio.Text -/
def h32 : Hints := ⟨[1], [9, 13], [5], [(3, [0, 1, 4, 5, 2, 3, 6, 7, 8])], [], [], []⟩
def f32_vc (f_0 : Int) (f_1 : Int) (w : World) (R : Ending → World → Prop) : Prop :=
  ∀ (n1 : Nat),
    w.heap.size ≤ n1 →
      ∀ (w2 : World),
        Below w.heap.size w w2 →
          Under [n1] w2 →
            Calls Proofs.Try.prog 14 #[Value.agg #[Value.int IntKind.i64 f_0, Value.int IntKind.i64 f_1]] w2 fun (e3 : Ending) (w4 : World) =>
              ∃ (b5 : Bool),
                e3 = Ending.returned (Value.bool b5) ∧
                  Keeps [n1] w2 w4 ∧
                    ((!b5) = true → R (Ending.returned (Value.string (ByteArray.mk #[]))) w4) ∧
                      ((!b5) = false →
                        ∀ (w6 : World),
                          Below w4.heap.size w4 w6 →
                            Under [n1] w6 →
                              Calls Proofs.Try.prog 43 #[Value.int IntKind.i64 f_0] w6 fun (e7 : Ending) (w8 : World) =>
                                ∃ (s9 : ByteArray),
                                  e7 = Ending.returned (Value.string s9) ∧
                                    Keeps [n1] w6 w8 ∧
                                      ∃ (s10 : ByteArray),
                                        Gives Proofs.Try.prog (binOpS BinOp.add 9 (Operand.tmp 8) (Operand.const (Value.string (ByteArray.mk #[47]))) (Value.string s9) (Value.string (ByteArray.mk #[47]))) (Value.string s10) ∧
                                          Calls Proofs.Try.prog 43 #[Value.int IntKind.i64 f_1] w8 fun (e11 : Ending) (w12 : World) =>
                                            ∃ (s13 : ByteArray),
                                              e11 = Ending.returned (Value.string s13) ∧
                                                Keeps [n1] w8 w12 ∧
                                                  ∃ (s14 : ByteArray),
                                                    Gives Proofs.Try.prog (binOpS BinOp.add 9 (Operand.tmp 9) (Operand.tmp 12) (Value.string s10) (Value.string s13)) (Value.string s14) ∧ R (Ending.returned (Value.string s14)) w12)
theorem f32_eq (f_0 : Int) (f_1 : Int) (w : World) (R : Ending → World → Prop) : (fnF Go.Proofs.Try.prog h32 Go.Proofs.Try.f32 [Value.agg #[Value.int IntKind.i64 f_0, Value.int IntKind.i64 f_1]] w R).den = f32_vc f_0 f_1 w R := by kernel_rfl
theorem f32_calls (f_0 : Int) (f_1 : Int) (w : World) (R : Ending → World → Prop) (h : f32_vc f_0 f_1 w R) : Calls Go.Proofs.Try.prog 32 (List.toArray [Value.agg #[Value.int IntKind.i64 f_0, Value.int IntKind.i64 f_1]]) w R :=
  fn_sound (H := h32) (fn := Go.Proofs.Try.f32) (by kernel_rfl) (by kernel_rfl) (by kernel_rfl) ((f32_eq f_0 f_1 w R).mpr h)


/-! manciple/mancipleref02.Text -/
def h33 : Hints := ⟨[1], [9, 13], [5], [(3, [0, 1, 4, 5, 2, 3, 6, 7, 8])], [], [], []⟩
def f33_vc (f_0 : Int) (f_1 : Int) (w : World) (R : Ending → World → Prop) : Prop :=
  ∀ (n1 : Nat),
    w.heap.size ≤ n1 →
      ∀ (w2 : World),
        Below w.heap.size w w2 →
          Under [n1] w2 →
            Calls Proofs.Try.prog 15 #[Value.agg #[Value.int IntKind.i64 f_0, Value.int IntKind.i64 f_1]] w2 fun (e3 : Ending) (w4 : World) =>
              ∃ (b5 : Bool),
                e3 = Ending.returned (Value.bool b5) ∧
                  Keeps [n1] w2 w4 ∧
                    ((!b5) = true → R (Ending.returned (Value.string (ByteArray.mk #[]))) w4) ∧
                      ((!b5) = false →
                        ∀ (w6 : World),
                          Below w4.heap.size w4 w6 →
                            Under [n1] w6 →
                              Calls Proofs.Try.prog 39 #[Value.int IntKind.i64 f_0] w6 fun (e7 : Ending) (w8 : World) =>
                                ∃ (s9 : ByteArray),
                                  e7 = Ending.returned (Value.string s9) ∧
                                    Keeps [n1] w6 w8 ∧
                                      ∃ (s10 : ByteArray),
                                        Gives Proofs.Try.prog (binOpS BinOp.add 9 (Operand.tmp 8) (Operand.const (Value.string (ByteArray.mk #[47]))) (Value.string s9) (Value.string (ByteArray.mk #[47]))) (Value.string s10) ∧
                                          Calls Proofs.Try.prog 39 #[Value.int IntKind.i64 f_1] w8 fun (e11 : Ending) (w12 : World) =>
                                            ∃ (s13 : ByteArray),
                                              e11 = Ending.returned (Value.string s13) ∧
                                                Keeps [n1] w8 w12 ∧
                                                  ∃ (s14 : ByteArray),
                                                    Gives Proofs.Try.prog (binOpS BinOp.add 9 (Operand.tmp 9) (Operand.tmp 12) (Value.string s10) (Value.string s13)) (Value.string s14) ∧ R (Ending.returned (Value.string s14)) w12)
theorem f33_eq (f_0 : Int) (f_1 : Int) (w : World) (R : Ending → World → Prop) : (fnF Go.Proofs.Try.prog h33 Go.Proofs.Try.f33 [Value.agg #[Value.int IntKind.i64 f_0, Value.int IntKind.i64 f_1]] w R).den = f33_vc f_0 f_1 w R := by kernel_rfl
theorem f33_calls (f_0 : Int) (f_1 : Int) (w : World) (R : Ending → World → Prop) (h : f33_vc f_0 f_1 w R) : Calls Go.Proofs.Try.prog 33 (List.toArray [Value.agg #[Value.int IntKind.i64 f_0, Value.int IntKind.i64 f_1]]) w R :=
  fn_sound (H := h33) (fn := Go.Proofs.Try.f33) (by kernel_rfl) (by kernel_rfl) (by kernel_rfl) ((f33_eq f_0 f_1 w R).mpr h)


/-! manciple/wide.Mul -/
def h34 : Hints := ⟨[4], [], [], [], [], [], []⟩
def f34_vc (a : Int) (b : Int) (w : World) (R : Ending → World → Prop) : Prop :=
  ∀ (n1 : Nat),
    w.heap.size ≤ n1 →
      ∀ (w2 : World),
        Evo [n1] w w2 →
          Under [n1] w2 →
            R
              (Ending.returned
                (Value.agg
                  #[Value.int IntKind.u64
                      (IntKind.u64.wrap
                        (IntKind.u64.wrap
                            (IntKind.u64.wrap (a.fdiv 4294967296 * b.fdiv 4294967296) +
                              (IntKind.u64.wrap
                                    (IntKind.u64.wrap (a.fdiv 4294967296 * IntKind.u64.wrap (↑(BitVec.ofInt 64 b &&& BitVec.ofInt 64 4294967295).toNat : Int)) +
                                      (IntKind.u64.wrap (IntKind.u64.wrap (↑(BitVec.ofInt 64 a &&& BitVec.ofInt 64 4294967295).toNat : Int) * IntKind.u64.wrap (↑(BitVec.ofInt 64 b &&& BitVec.ofInt 64 4294967295).toNat : Int))).fdiv
                                        4294967296)).fdiv
                                4294967296) +
                          (IntKind.u64.wrap
                                (IntKind.u64.wrap (IntKind.u64.wrap (↑(BitVec.ofInt 64 a &&& BitVec.ofInt 64 4294967295).toNat : Int) * b.fdiv 4294967296) +
                                  IntKind.u64.wrap
                                    (↑(BitVec.ofInt 64
                                              (IntKind.u64.wrap
                                                (IntKind.u64.wrap (a.fdiv 4294967296 * IntKind.u64.wrap (↑(BitVec.ofInt 64 b &&& BitVec.ofInt 64 4294967295).toNat : Int)) +
                                                  (IntKind.u64.wrap
                                                        (IntKind.u64.wrap (↑(BitVec.ofInt 64 a &&& BitVec.ofInt 64 4294967295).toNat : Int) * IntKind.u64.wrap (↑(BitVec.ofInt 64 b &&& BitVec.ofInt 64 4294967295).toNat : Int))).fdiv
                                                    4294967296)) &&&
                                            BitVec.ofInt 64 4294967295).toNat :
                                      Int))).fdiv
                            4294967296)),
                    Value.int IntKind.u64
                      (IntKind.u64.wrap
                        (IntKind.u64.wrap
                            (IntKind.u64.wrap
                                (IntKind.u64.wrap (IntKind.u64.wrap (↑(BitVec.ofInt 64 a &&& BitVec.ofInt 64 4294967295).toNat : Int) * b.fdiv 4294967296) +
                                  IntKind.u64.wrap
                                    (↑(BitVec.ofInt 64
                                              (IntKind.u64.wrap
                                                (IntKind.u64.wrap (a.fdiv 4294967296 * IntKind.u64.wrap (↑(BitVec.ofInt 64 b &&& BitVec.ofInt 64 4294967295).toNat : Int)) +
                                                  (IntKind.u64.wrap
                                                        (IntKind.u64.wrap (↑(BitVec.ofInt 64 a &&& BitVec.ofInt 64 4294967295).toNat : Int) * IntKind.u64.wrap (↑(BitVec.ofInt 64 b &&& BitVec.ofInt 64 4294967295).toNat : Int))).fdiv
                                                    4294967296)) &&&
                                            BitVec.ofInt 64 4294967295).toNat :
                                      Int)) *
                              4294967296) +
                          IntKind.u64.wrap
                            (↑(BitVec.ofInt 64 (IntKind.u64.wrap (IntKind.u64.wrap (↑(BitVec.ofInt 64 a &&& BitVec.ofInt 64 4294967295).toNat : Int) * IntKind.u64.wrap (↑(BitVec.ofInt 64 b &&& BitVec.ofInt 64 4294967295).toNat : Int))) &&&
                                    BitVec.ofInt 64 4294967295).toNat :
                              Int)))]))
              w2
theorem f34_eq (a : Int) (b : Int) (w : World) (R : Ending → World → Prop) : (fnF Go.Proofs.Try.prog h34 Go.Proofs.Try.f34 [Value.int IntKind.u64 a, Value.int IntKind.u64 b] w R).den = f34_vc a b w R := by kernel_rfl
theorem f34_calls (a : Int) (b : Int) (w : World) (R : Ending → World → Prop) (h : f34_vc a b w R) : Calls Go.Proofs.Try.prog 34 (List.toArray [Value.int IntKind.u64 a, Value.int IntKind.u64 b]) w R :=
  fn_sound (H := h34) (fn := Go.Proofs.Try.f34) (by kernel_rfl) (by kernel_rfl) (by kernel_rfl) ((f34_eq a b w R).mpr h)


/-! (manciple/wide.Wide).Cmp -/
def h35 : Hints := ⟨[2, 3], [8], [5, 9, 20], [], [], [], []⟩
def f35_vc (a_0 : Int) (a_1 : Int) (b_0 : Int) (b_1 : Int) (w : World) (R : Ending → World → Prop) : Prop :=
  ∀ (n1 : Nat),
    w.heap.size ≤ n1 →
      ∀ (n2 : Nat),
        w.heap.size ≤ n2 →
          ∃ (b3 : Bool),
            Gives Proofs.Try.prog (binOpS BinOp.eql 54 (Operand.tmp 6) (Operand.tmp 7) (Value.agg #[Value.int IntKind.u64 a_0, Value.int IntKind.u64 a_1]) (Value.agg #[Value.int IntKind.u64 b_0, Value.int IntKind.u64 b_1])) (Value.bool b3) ∧
              (b3 = true → ∀ (w4 : World), Below w.heap.size w w4 → Under [n1, n2] w4 → R (Ending.returned (Value.int IntKind.i64 0)) w4) ∧
                (b3 = false →
                  (decide (a_0 < b_0) = true → ∀ (w5 : World), Below w.heap.size w w5 → Under [n1, n2] w5 → R (Ending.returned (Value.int IntKind.i64 (-1))) w5) ∧
                    (decide (a_0 < b_0) = false →
                      ((a_0 == b_0) = true →
                          (decide (a_1 < b_1) = true → ∀ (w6 : World), Below w.heap.size w w6 → Under [n1, n2] w6 → R (Ending.returned (Value.int IntKind.i64 (-1))) w6) ∧
                            (decide (a_1 < b_1) = false → ∀ (w7 : World), Below w.heap.size w w7 → Under [n1, n2] w7 → R (Ending.returned (Value.int IntKind.i64 1)) w7)) ∧
                        ((a_0 == b_0) = false → ∀ (w8 : World), Below w.heap.size w w8 → Under [n1, n2] w8 → R (Ending.returned (Value.int IntKind.i64 1)) w8)))
theorem f35_eq (a_0 : Int) (a_1 : Int) (b_0 : Int) (b_1 : Int) (w : World) (R : Ending → World → Prop) : (fnF Go.Proofs.Try.prog h35 Go.Proofs.Try.f35 [Value.agg #[Value.int IntKind.u64 a_0, Value.int IntKind.u64 a_1], Value.agg #[Value.int IntKind.u64 b_0, Value.int IntKind.u64 b_1]] w R).den = f35_vc a_0 a_1 b_0 b_1 w R := by kernel_rfl
theorem f35_calls (a_0 : Int) (a_1 : Int) (b_0 : Int) (b_1 : Int) (w : World) (R : Ending → World → Prop) (h : f35_vc a_0 a_1 b_0 b_1 w R) : Calls Go.Proofs.Try.prog 35 (List.toArray [Value.agg #[Value.int IntKind.u64 a_0, Value.int IntKind.u64 a_1], Value.agg #[Value.int IntKind.u64 b_0, Value.int IntKind.u64 b_1]]) w R :=
  fn_sound (H := h35) (fn := Go.Proofs.Try.f35) (by kernel_rfl) (by kernel_rfl) (by kernel_rfl) ((f35_eq a_0 a_1 b_0 b_1 w R).mpr h)


/-! manciple/mancipleref01.Product -/
def h36 : Hints := ⟨[], [32, 36, 40, 52, 61], [19, 25], [(9, [0, 1, 2, 3, 4, 5, 6, 7, 8, 9, 10, 11, 12, 13, 14, 15, 16, 17, 18])], [], [(3, ⟨[(6, .int .i64)], []⟩), (7, ⟨[(7, .int .i64), (8, .int .i64)], []⟩)], []⟩
def f36_vc (aa : Option Addr) (an : Nat) (ac : Nat) (ba : Option Addr) (bn : Nat) (bc : Nat) (w : World) (R : Ending → World → Prop) : Prop :=
  OpW Proofs.Try.prog (valueS (Instr.makeSlice 57 (Value.int IntKind.i64 (IntKind.i64.wrap ((↑an : Int) + (↑bn : Int)))) (Value.int IntKind.i64 (IntKind.i64.wrap ((↑an : Int) + (↑bn : Int)))))) w fun (v1 : Value) (w2 : World) =>
    ∃ (a3 : Option Addr),
      ∃ (n4 : Nat),
        ∃ (n5 : Nat),
          v1 = Value.slice a3 n4 n5 ∧
            ∃ (J6 : Int × Unit → World → Prop),
              ∃ (J7 : Int × Unit → World → Nat),
                J6 (0, ()) w2 ∧
                  ∀ (x8 : Int) (w9 : World),
                    J6 (x8, ()) w9 →
                      (decide (x8 < (↑an : Int)) = true →
                          ∃ (J10 : Int × Int × Unit → World → Prop),
                            ∃ (J11 : Int × Int × Unit → World → Nat),
                              J10 (0, 0, ()) w9 ∧
                                ∀ (x12 x13 : Int) (w14 : World),
                                  J10 (x12, x13, ()) w14 →
                                    (decide (x13 < (↑bn : Int)) = true →
                                        ∃ (a15 : Option Addr),
                                          Gives Proofs.Try.prog (Instr.indexAt 57 (Value.slice a3 n4 n5) (Value.int IntKind.i64 (IntKind.i64.wrap (x8 + x13)))) (Value.pointer a15) ∧
                                            ∃ (x16 : Int),
                                              Reads Proofs.Try.prog [] (Instr.loadAt 3 (Value.pointer a15)) w14 (Value.int IntKind.i64 x16) ∧
                                                ∃ (a17 : Option Addr),
                                                  Gives Proofs.Try.prog (Instr.indexAt 57 (Value.slice aa an ac) (Value.int IntKind.i64 x8)) (Value.pointer a17) ∧
                                                    ∃ (x18 : Int),
                                                      Reads Proofs.Try.prog [] (Instr.loadAt 3 (Value.pointer a17)) w14 (Value.int IntKind.i64 x18) ∧
                                                        ∃ (a19 : Option Addr),
                                                          Gives Proofs.Try.prog (Instr.indexAt 57 (Value.slice ba bn bc) (Value.int IntKind.i64 x13)) (Value.pointer a19) ∧
                                                            ∃ (x20 : Int),
                                                              Reads Proofs.Try.prog [] (Instr.loadAt 3 (Value.pointer a19)) w14 (Value.int IntKind.i64 x20) ∧
                                                                ∃ (a21 : Option Addr),
                                                                  Gives Proofs.Try.prog (Instr.indexAt 57 (Value.slice a3 n4 n5) (Value.int IntKind.i64 (IntKind.i64.wrap (x8 + x13)))) (Value.pointer a21) ∧
                                                                    ∀ (w22 : World),
                                                                      Below w14.heap.size w14 w22 →
                                                                        OpW Proofs.Try.prog
                                                                          (skipS (Instr.storeAt 3 (Value.pointer a21) (Value.int IntKind.i64 ((IntKind.i64.wrap (IntKind.i64.wrap (x16 + IntKind.i64.wrap (x18 * x20)) + x12)).tmod 65536)))) w22
                                                                          fun (v23 : Value) (w24 : World) =>
                                                                          J10 (IntKind.i64.wrap ((IntKind.i64.wrap (IntKind.i64.wrap (x16 + IntKind.i64.wrap (x18 * x20)) + x12)).tdiv 65536), IntKind.i64.wrap (x13 + 1), ()) w24 ∧
                                                                            J11 (IntKind.i64.wrap ((IntKind.i64.wrap (IntKind.i64.wrap (x16 + IntKind.i64.wrap (x18 * x20)) + x12)).tdiv 65536), IntKind.i64.wrap (x13 + 1), ()) w24 <
                                                                              J11 (x12, x13, ()) w14) ∧
                                      (decide (x13 < (↑bn : Int)) = false →
                                        ∃ (a25 : Option Addr),
                                          Gives Proofs.Try.prog (Instr.indexAt 57 (Value.slice a3 n4 n5) (Value.int IntKind.i64 (IntKind.i64.wrap (x8 + (↑bn : Int))))) (Value.pointer a25) ∧
                                            OpW Proofs.Try.prog (skipS (Instr.storeAt 3 (Value.pointer a25) (Value.int IntKind.i64 x12))) w14 fun (v26 : Value) (w27 : World) =>
                                              J6 (IntKind.i64.wrap (x8 + 1), ()) w27 ∧ J7 (IntKind.i64.wrap (x8 + 1), ()) w27 < J7 (x8, ()) w9)) ∧
                        (decide (x8 < (↑an : Int)) = false → R (Ending.returned (Value.slice a3 n4 n5)) w9)
theorem f36_eq (aa : Option Addr) (an : Nat) (ac : Nat) (ba : Option Addr) (bn : Nat) (bc : Nat) (w : World) (R : Ending → World → Prop) : (fnF Go.Proofs.Try.prog h36 Go.Proofs.Try.f36 [Value.slice aa an ac, Value.slice ba bn bc] w R).den = f36_vc aa an ac ba bn bc w R := by kernel_rfl
theorem f36_calls (aa : Option Addr) (an : Nat) (ac : Nat) (ba : Option Addr) (bn : Nat) (bc : Nat) (w : World) (R : Ending → World → Prop) (h : f36_vc aa an ac ba bn bc w R) : Calls Go.Proofs.Try.prog 36 (List.toArray [Value.slice aa an ac, Value.slice ba bn bc]) w R :=
  fn_sound (H := h36) (fn := Go.Proofs.Try.f36) (by kernel_rfl) (by kernel_rfl) (by kernel_rfl) ((f36_eq aa an ac ba bn bc w R).mpr h)


/-! manciple/mancipleref01.Digits -/
def h37 : Hints := ⟨[], [], [9, 21], [], [], [(3, ⟨[(1, .int .u64), (5, .sl), (6, .int .i64)], []⟩), (8, ⟨[(0, .int .u64), (5, .sl), (7, .int .i64)], []⟩)], []⟩
def f37_vc (hi : Int) (lo : Int) (w : World) (R : Ending → World → Prop) : Prop :=
  ∃ (J1 : Int × (Option Addr × Nat × Nat) × Int × Unit → World → Prop),
    ∃ (J2 : Int × (Option Addr × Nat × Nat) × Int × Unit → World → Nat),
      J1 (lo, (none, 0, 0), 0, ()) w ∧
        ∀ (x3 : Int) (a4 : Option Addr) (n5 n6 : Nat) (x7 : Int) (w8 : World),
          J1 (x3, (a4, n5, n6), x7, ()) w8 →
            (decide (x7 < 4) = true →
                OpW Proofs.Try.prog (valueS (Instr.buildSlice 57 1 #[(0, Value.int IntKind.i64 (IntKind.i64.wrap (x3.tmod 65536)))])) w8 fun (v9 : Value) (w10 : World) =>
                  ∃ (a11 : Option Addr),
                    ∃ (n12 : Nat),
                      ∃ (n13 : Nat),
                        v9 = Value.slice a11 n12 n13 ∧
                          OpW Proofs.Try.prog (builtin Builtin.append #[57, 57] 57 #[false, false] #[Value.slice a4 n5 n6, Value.slice a11 n12 n13]) w10 fun (v14 : Value) (w15 : World) =>
                            ∃ (a16 : Option Addr),
                              ∃ (n17 : Nat),
                                ∃ (n18 : Nat),
                                  v14 = Value.slice a16 n17 n18 ∧
                                    J1 (IntKind.u64.wrap (x3.tdiv 65536), (a16, n17, n18), IntKind.i64.wrap (x7 + 1), ()) w15 ∧
                                      J2 (IntKind.u64.wrap (x3.tdiv 65536), (a16, n17, n18), IntKind.i64.wrap (x7 + 1), ()) w15 < J2 (x3, (a4, n5, n6), x7, ()) w8) ∧
              (decide (x7 < 4) = false →
                ∃ (J19 : Int × (Option Addr × Nat × Nat) × Int × Unit → World → Prop),
                  ∃ (J20 : Int × (Option Addr × Nat × Nat) × Int × Unit → World → Nat),
                    J19 (hi, (a4, n5, n6), 0, ()) w8 ∧
                      ∀ (x21 : Int) (a22 : Option Addr) (n23 n24 : Nat) (x25 : Int) (w26 : World),
                        J19 (x21, (a22, n23, n24), x25, ()) w26 →
                          (decide (x25 < 4) = true →
                              OpW Proofs.Try.prog (valueS (Instr.buildSlice 57 1 #[(0, Value.int IntKind.i64 (IntKind.i64.wrap (x21.tmod 65536)))])) w26 fun (v27 : Value) (w28 : World) =>
                                ∃ (a29 : Option Addr),
                                  ∃ (n30 : Nat),
                                    ∃ (n31 : Nat),
                                      v27 = Value.slice a29 n30 n31 ∧
                                        OpW Proofs.Try.prog (builtin Builtin.append #[57, 57] 57 #[false, false] #[Value.slice a22 n23 n24, Value.slice a29 n30 n31]) w28 fun (v32 : Value) (w33 : World) =>
                                          ∃ (a34 : Option Addr),
                                            ∃ (n35 : Nat),
                                              ∃ (n36 : Nat),
                                                v32 = Value.slice a34 n35 n36 ∧
                                                  J19 (IntKind.u64.wrap (x21.tdiv 65536), (a34, n35, n36), IntKind.i64.wrap (x25 + 1), ()) w33 ∧
                                                    J20 (IntKind.u64.wrap (x21.tdiv 65536), (a34, n35, n36), IntKind.i64.wrap (x25 + 1), ()) w33 < J20 (x21, (a22, n23, n24), x25, ()) w26) ∧
                            (decide (x25 < 4) = false → R (Ending.returned (Value.slice a22 n23 n24)) w26))
theorem f37_eq (hi : Int) (lo : Int) (w : World) (R : Ending → World → Prop) : (fnF Go.Proofs.Try.prog h37 Go.Proofs.Try.f37 [Value.int IntKind.u64 hi, Value.int IntKind.u64 lo] w R).den = f37_vc hi lo w R := by kernel_rfl
theorem f37_calls (hi : Int) (lo : Int) (w : World) (R : Ending → World → Prop) (h : f37_vc hi lo w R) : Calls Go.Proofs.Try.prog 37 (List.toArray [Value.int IntKind.u64 hi, Value.int IntKind.u64 lo]) w R :=
  fn_sound (H := h37) (fn := Go.Proofs.Try.f37) (by kernel_rfl) (by kernel_rfl) (by kernel_rfl) ((f37_eq hi lo w R).mpr h)


/-! manciple/mancipleref01.Less -/
def h38 : Hints := ⟨[], [15, 19, 24, 28], [10, 21], [(4, [0, 1, 2, 3, 4, 5, 6, 7, 8]), (5, [0, 1, 2, 3, 4, 5, 6, 7, 8, 9])], [], [(2, ⟨[(5, .int .i64)], []⟩)], []⟩
def f38_vc (aa : Option Addr) (an : Nat) (ac : Nat) (ba : Option Addr) (bn : Nat) (bc : Nat) (w : World) (R : Ending → World → Prop) : Prop :=
  ∃ (J1 : Int × Unit → World → Prop),
    ∃ (J2 : Int × Unit → World → Nat),
      J1 (IntKind.i64.wrap ((↑an : Int) - 1), ()) w ∧
        ∀ (x3 : Int) (w4 : World),
          J1 (x3, ()) w4 →
            (decide (x3 ≥ 0) = true →
                ∃ (a5 : Option Addr),
                  Gives Proofs.Try.prog (Instr.indexAt 57 (Value.slice aa an ac) (Value.int IntKind.i64 x3)) (Value.pointer a5) ∧
                    ∃ (x6 : Int),
                      Reads Proofs.Try.prog [] (Instr.loadAt 3 (Value.pointer a5)) w4 (Value.int IntKind.i64 x6) ∧
                        ∃ (a7 : Option Addr),
                          Gives Proofs.Try.prog (Instr.indexAt 57 (Value.slice ba bn bc) (Value.int IntKind.i64 x3)) (Value.pointer a7) ∧
                            ∃ (x8 : Int),
                              Reads Proofs.Try.prog [] (Instr.loadAt 3 (Value.pointer a7)) w4 (Value.int IntKind.i64 x8) ∧
                                ((x6 != x8) = true →
                                    ∃ (a9 : Option Addr),
                                      Gives Proofs.Try.prog (Instr.indexAt 57 (Value.slice aa an ac) (Value.int IntKind.i64 x3)) (Value.pointer a9) ∧
                                        ∃ (x10 : Int),
                                          Reads Proofs.Try.prog [] (Instr.loadAt 3 (Value.pointer a9)) w4 (Value.int IntKind.i64 x10) ∧
                                            ∃ (a11 : Option Addr),
                                              Gives Proofs.Try.prog (Instr.indexAt 57 (Value.slice ba bn bc) (Value.int IntKind.i64 x3)) (Value.pointer a11) ∧
                                                ∃ (x12 : Int),
                                                  Reads Proofs.Try.prog [] (Instr.loadAt 3 (Value.pointer a11)) w4 (Value.int IntKind.i64 x12) ∧
                                                    ∀ (w13 : World), Below w4.heap.size w4 w13 → R (Ending.returned (Value.bool (decide (x10 < x12)))) w13) ∧
                                  ((x6 != x8) = false → ∀ (w14 : World), Below w4.heap.size w4 w14 → J1 (IntKind.i64.wrap (x3 - 1), ()) w14 ∧ J2 (IntKind.i64.wrap (x3 - 1), ()) w14 < J2 (x3, ()) w4)) ∧
              (decide (x3 ≥ 0) = false → R (Ending.returned (Value.bool false)) w4)
theorem f38_eq (aa : Option Addr) (an : Nat) (ac : Nat) (ba : Option Addr) (bn : Nat) (bc : Nat) (w : World) (R : Ending → World → Prop) : (fnF Go.Proofs.Try.prog h38 Go.Proofs.Try.f38 [Value.slice aa an ac, Value.slice ba bn bc] w R).den = f38_vc aa an ac ba bn bc w R := by kernel_rfl
theorem f38_calls (aa : Option Addr) (an : Nat) (ac : Nat) (ba : Option Addr) (bn : Nat) (bc : Nat) (w : World) (R : Ending → World → Prop) (h : f38_vc aa an ac ba bn bc w R) : Calls Go.Proofs.Try.prog 38 (List.toArray [Value.slice aa an ac, Value.slice ba bn bc]) w R :=
  fn_sound (H := h38) (fn := Go.Proofs.Try.f38) (by kernel_rfl) (by kernel_rfl) (by kernel_rfl) ((f38_eq aa an ac ba bn bc w R).mpr h)


/-! manciple/mancipleref02.Digits -/
def h39 : Hints := ⟨[], [15], [5], [], [], [(3, ⟨[(0, .int .i64), (3, .str), (4, .bool)], []⟩)], []⟩
def f39_vc (n : Int) (w : World) (R : Ending → World → Prop) : Prop :=
  ∃ (J1 : Int × ByteArray × Bool × Unit → World → Prop),
    ∃ (J2 : Int × ByteArray × Bool × Unit → World → Nat),
      J1 (n, ByteArray.mk #[], true, ()) w ∧
        ∀ (x3 : Int) (s4 : ByteArray) (b5 : Bool) (w6 : World),
          J1 (x3, s4, b5, ()) w6 →
            (b5 = true →
                OpW Proofs.Try.prog (valueS (Instr.buildSlice 61 1 #[(0, Value.int IntKind.u8 (IntKind.u8.wrap (IntKind.i64.wrap (48 + x3.tmod 10))))])) w6 fun (v7 : Value) (w8 : World) =>
                  ∃ (a9 : Option Addr),
                    ∃ (n10 : Nat),
                      ∃ (n11 : Nat),
                        v7 = Value.slice a9 n10 n11 ∧
                          OpW Proofs.Try.prog (valueS (convert 61 9 (Value.slice a9 n10 n11))) w8 fun (v12 : Value) (w13 : World) =>
                            ∃ (s14 : ByteArray),
                              v12 = Value.string s14 ∧
                                ∃ (s15 : ByteArray),
                                  Gives Proofs.Try.prog (binOpS BinOp.add 9 (Operand.tmp 13) (Operand.tmp 14) (Value.string s14) (Value.string s4)) (Value.string s15) ∧
                                    J1 (IntKind.i64.wrap (x3.tdiv 10), s15, decide (IntKind.i64.wrap (x3.tdiv 10) > 0), ()) w13 ∧
                                      J2 (IntKind.i64.wrap (x3.tdiv 10), s15, decide (IntKind.i64.wrap (x3.tdiv 10) > 0), ()) w13 < J2 (x3, s4, b5, ()) w6) ∧
              (b5 = false → R (Ending.returned (Value.string s4)) w6)
theorem f39_eq (n : Int) (w : World) (R : Ending → World → Prop) : (fnF Go.Proofs.Try.prog h39 Go.Proofs.Try.f39 [Value.int IntKind.i64 n] w R).den = f39_vc n w R := by kernel_rfl
theorem f39_calls (n : Int) (w : World) (R : Ending → World → Prop) (h : f39_vc n w R) : Calls Go.Proofs.Try.prog 39 (List.toArray [Value.int IntKind.i64 n]) w R :=
  fn_sound (H := h39) (fn := Go.Proofs.Try.f39) (by kernel_rfl) (by kernel_rfl) (by kernel_rfl) ((f39_eq n w R).mpr h)


/-! manciple/quant.digits -/
def h40 : Hints := ⟨[], [], [12, 9], [], [], [], []⟩
def f40_vc (ba : Option Addr) (bn : Nat) (bc : Nat) (n : Int) (least : Int) (w : World) (R : Ending → World → Prop) : Prop :=
  (decide (n ≥ 10) = true →
      Calls Proofs.Try.prog 40 #[Value.slice ba bn bc, Value.int IntKind.i64 (IntKind.i64.wrap (n.tdiv 10)), Value.int IntKind.i64 (IntKind.i64.wrap (least - 1))] w fun (e1 : Ending) (w2 : World) =>
        ∃ (a3 : Option Addr),
          ∃ (n4 : Nat),
            ∃ (n5 : Nat),
              e1 = Ending.returned (Value.slice a3 n4 n5) ∧
                OpW Proofs.Try.prog (valueS (Instr.buildSlice 61 1 #[(0, Value.int IntKind.u8 (IntKind.u8.wrap (IntKind.i64.wrap (48 + n.tmod 10))))])) w2 fun (v6 : Value) (w7 : World) =>
                  ∃ (a8 : Option Addr),
                    ∃ (n9 : Nat),
                      ∃ (n10 : Nat),
                        v6 = Value.slice a8 n9 n10 ∧
                          OpW Proofs.Try.prog (builtin Builtin.append #[61, 61] 61 #[false, false] #[Value.slice a3 n4 n5, Value.slice a8 n9 n10]) w7 fun (v11 : Value) (w12 : World) =>
                            ∃ (a13 : Option Addr), ∃ (n14 : Nat), ∃ (n15 : Nat), v11 = Value.slice a13 n14 n15 ∧ R (Ending.returned (Value.slice a13 n14 n15)) w12) ∧
    (decide (n ≥ 10) = false →
      (decide (least > 1) = true →
          Calls Proofs.Try.prog 40 #[Value.slice ba bn bc, Value.int IntKind.i64 (IntKind.i64.wrap (n.tdiv 10)), Value.int IntKind.i64 (IntKind.i64.wrap (least - 1))] w fun (e16 : Ending) (w17 : World) =>
            ∃ (a18 : Option Addr),
              ∃ (n19 : Nat),
                ∃ (n20 : Nat),
                  e16 = Ending.returned (Value.slice a18 n19 n20) ∧
                    OpW Proofs.Try.prog (valueS (Instr.buildSlice 61 1 #[(0, Value.int IntKind.u8 (IntKind.u8.wrap (IntKind.i64.wrap (48 + n.tmod 10))))])) w17 fun (v21 : Value) (w22 : World) =>
                      ∃ (a23 : Option Addr),
                        ∃ (n24 : Nat),
                          ∃ (n25 : Nat),
                            v21 = Value.slice a23 n24 n25 ∧
                              OpW Proofs.Try.prog (builtin Builtin.append #[61, 61] 61 #[false, false] #[Value.slice a18 n19 n20, Value.slice a23 n24 n25]) w22 fun (v26 : Value) (w27 : World) =>
                                ∃ (a28 : Option Addr), ∃ (n29 : Nat), ∃ (n30 : Nat), v26 = Value.slice a28 n29 n30 ∧ R (Ending.returned (Value.slice a28 n29 n30)) w27) ∧
        (decide (least > 1) = false →
          OpW Proofs.Try.prog (valueS (Instr.buildSlice 61 1 #[(0, Value.int IntKind.u8 (IntKind.u8.wrap (IntKind.i64.wrap (48 + n.tmod 10))))])) w fun (v31 : Value) (w32 : World) =>
            ∃ (a33 : Option Addr),
              ∃ (n34 : Nat),
                ∃ (n35 : Nat),
                  v31 = Value.slice a33 n34 n35 ∧
                    OpW Proofs.Try.prog (builtin Builtin.append #[61, 61] 61 #[false, false] #[Value.slice ba bn bc, Value.slice a33 n34 n35]) w32 fun (v36 : Value) (w37 : World) =>
                      ∃ (a38 : Option Addr), ∃ (n39 : Nat), ∃ (n40 : Nat), v36 = Value.slice a38 n39 n40 ∧ R (Ending.returned (Value.slice a38 n39 n40)) w37))
theorem f40_eq (ba : Option Addr) (bn : Nat) (bc : Nat) (n : Int) (least : Int) (w : World) (R : Ending → World → Prop) : (fnF Go.Proofs.Try.prog h40 Go.Proofs.Try.f40 [Value.slice ba bn bc, Value.int IntKind.i64 n, Value.int IntKind.i64 least] w R).den = f40_vc ba bn bc n least w R := by kernel_rfl
theorem f40_calls (ba : Option Addr) (bn : Nat) (bc : Nat) (n : Int) (least : Int) (w : World) (R : Ending → World → Prop) (h : f40_vc ba bn bc n least w R) : Calls Go.Proofs.Try.prog 40 (List.toArray [Value.slice ba bn bc, Value.int IntKind.i64 n, Value.int IntKind.i64 least]) w R :=
  fn_sound (H := h40) (fn := Go.Proofs.Try.f40) (by kernel_rfl) (by kernel_rfl) (by kernel_rfl) ((f40_eq ba bn bc n least w R).mpr h)


/-! manciple/ratio.number -/
def h41 : Hints := ⟨[], [12, 25], [19, 24, 32, 40, 10, 14, 29], [], [], [(5, ⟨[(4, .int .i64), (23, .int .i64)], []⟩)], []⟩
def f41_vc (s : ByteArray) (w : World) (R : Ending → World → Prop) : Prop :=
  ((s.toList == (ByteArray.mk #[]).toList) = true → R (Ending.returned (Value.tuple #[Value.int IntKind.i64 0, Value.bool false])) w) ∧
    ((s.toList == (ByteArray.mk #[]).toList) = false →
      ∃ (x1 : Int),
        Gives Proofs.Try.prog (Instr.index 9 (Value.string s) (Value.int IntKind.i64 0)) (Value.int IntKind.u8 x1) ∧
          ((x1 == 48) = true →
              (decide ((↑s.size : Int) > 1) = true → R (Ending.returned (Value.tuple #[Value.int IntKind.i64 0, Value.bool false])) w) ∧
                (decide ((↑s.size : Int) > 1) = false →
                  OpW Proofs.Try.prog (valueS (convert 9 61 (Value.string s))) w fun (v2 : Value) (w3 : World) =>
                    ∃ (a4 : Option Addr),
                      ∃ (n5 : Nat),
                        ∃ (n6 : Nat),
                          v2 = Value.slice a4 n5 n6 ∧
                            ∃ (J7 : Int × Int × Unit → World → Prop),
                              ∃ (J8 : Int × Int × Unit → World → Nat),
                                J7 (0, 0, ()) w3 ∧
                                  ∀ (x9 x10 : Int) (w11 : World),
                                    J7 (x9, x10, ()) w11 →
                                      (decide (x10 < (↑n5 : Int)) = true →
                                          ∃ (a12 : Option Addr),
                                            Gives Proofs.Try.prog (Instr.indexAt 61 (Value.slice a4 n5 n6) (Value.int IntKind.i64 x10)) (Value.pointer a12) ∧
                                              ∃ (x13 : Int),
                                                Reads Proofs.Try.prog [] (Instr.loadAt 5 (Value.pointer a12)) w11 (Value.int IntKind.u8 x13) ∧
                                                  (decide (x13 < 48) = true → R (Ending.returned (Value.tuple #[Value.int IntKind.i64 0, Value.bool false])) w11) ∧
                                                    (decide (x13 < 48) = false →
                                                      (decide (x13 > 57) = true → R (Ending.returned (Value.tuple #[Value.int IntKind.i64 0, Value.bool false])) w11) ∧
                                                        (decide (x13 > 57) = false →
                                                          (decide (x9 > IntKind.i64.wrap ((IntKind.i64.wrap (9223372036854775807 - IntKind.i64.wrap (IntKind.u8.wrap (x13 - 48)))).tdiv 10)) = true →
                                                              R (Ending.returned (Value.tuple #[Value.int IntKind.i64 0, Value.bool false])) w11) ∧
                                                            (decide (x9 > IntKind.i64.wrap ((IntKind.i64.wrap (9223372036854775807 - IntKind.i64.wrap (IntKind.u8.wrap (x13 - 48)))).tdiv 10)) = false →
                                                              J7 (IntKind.i64.wrap (IntKind.i64.wrap (x9 * 10) + IntKind.i64.wrap (IntKind.u8.wrap (x13 - 48))), IntKind.i64.wrap (x10 + 1), ()) w11 ∧
                                                                J8 (IntKind.i64.wrap (IntKind.i64.wrap (x9 * 10) + IntKind.i64.wrap (IntKind.u8.wrap (x13 - 48))), IntKind.i64.wrap (x10 + 1), ()) w11 < J8 (x9, x10, ()) w11)))) ∧
                                        (decide (x10 < (↑n5 : Int)) = false → R (Ending.returned (Value.tuple #[Value.int IntKind.i64 x9, Value.bool true])) w11))) ∧
            ((x1 == 48) = false →
              OpW Proofs.Try.prog (valueS (convert 9 61 (Value.string s))) w fun (v14 : Value) (w15 : World) =>
                ∃ (a16 : Option Addr),
                  ∃ (n17 : Nat),
                    ∃ (n18 : Nat),
                      v14 = Value.slice a16 n17 n18 ∧
                        ∃ (J19 : Int × Int × Unit → World → Prop),
                          ∃ (J20 : Int × Int × Unit → World → Nat),
                            J19 (0, 0, ()) w15 ∧
                              ∀ (x21 x22 : Int) (w23 : World),
                                J19 (x21, x22, ()) w23 →
                                  (decide (x22 < (↑n17 : Int)) = true →
                                      ∃ (a24 : Option Addr),
                                        Gives Proofs.Try.prog (Instr.indexAt 61 (Value.slice a16 n17 n18) (Value.int IntKind.i64 x22)) (Value.pointer a24) ∧
                                          ∃ (x25 : Int),
                                            Reads Proofs.Try.prog [] (Instr.loadAt 5 (Value.pointer a24)) w23 (Value.int IntKind.u8 x25) ∧
                                              (decide (x25 < 48) = true → R (Ending.returned (Value.tuple #[Value.int IntKind.i64 0, Value.bool false])) w23) ∧
                                                (decide (x25 < 48) = false →
                                                  (decide (x25 > 57) = true → R (Ending.returned (Value.tuple #[Value.int IntKind.i64 0, Value.bool false])) w23) ∧
                                                    (decide (x25 > 57) = false →
                                                      (decide (x21 > IntKind.i64.wrap ((IntKind.i64.wrap (9223372036854775807 - IntKind.i64.wrap (IntKind.u8.wrap (x25 - 48)))).tdiv 10)) = true →
                                                          R (Ending.returned (Value.tuple #[Value.int IntKind.i64 0, Value.bool false])) w23) ∧
                                                        (decide (x21 > IntKind.i64.wrap ((IntKind.i64.wrap (9223372036854775807 - IntKind.i64.wrap (IntKind.u8.wrap (x25 - 48)))).tdiv 10)) = false →
                                                          J19 (IntKind.i64.wrap (IntKind.i64.wrap (x21 * 10) + IntKind.i64.wrap (IntKind.u8.wrap (x25 - 48))), IntKind.i64.wrap (x22 + 1), ()) w23 ∧
                                                            J20 (IntKind.i64.wrap (IntKind.i64.wrap (x21 * 10) + IntKind.i64.wrap (IntKind.u8.wrap (x25 - 48))), IntKind.i64.wrap (x22 + 1), ()) w23 < J20 (x21, x22, ()) w23)))) ∧
                                    (decide (x22 < (↑n17 : Int)) = false → R (Ending.returned (Value.tuple #[Value.int IntKind.i64 x21, Value.bool true])) w23)))
theorem f41_eq (s : ByteArray) (w : World) (R : Ending → World → Prop) : (fnF Go.Proofs.Try.prog h41 Go.Proofs.Try.f41 [Value.string s] w R).den = f41_vc s w R := by kernel_rfl
theorem f41_calls (s : ByteArray) (w : World) (R : Ending → World → Prop) (h : f41_vc s w R) : Calls Go.Proofs.Try.prog 41 (List.toArray [Value.string s]) w R :=
  fn_sound (H := h41) (fn := Go.Proofs.Try.f41) (by kernel_rfl) (by kernel_rfl) (by kernel_rfl) ((f41_eq s w R).mpr h)


/-! manciple/mancipleref02.Number -/
def h42 : Hints := ⟨[], [17, 33, 38, 43], [24, 28, 40, 55, 10, 15, 19, 35, 48, 51], [], [], [(5, ⟨[(4, .int .i64), (5, .int .i64)], []⟩)], []⟩
def f42_vc (s : ByteArray) (w : World) (R : Ending → World → Prop) : Prop :=
  (decide ((↑s.size : Int) < 1) = true → R (Ending.returned (Value.tuple #[Value.int IntKind.i64 0, Value.bool false])) w) ∧
    (decide ((↑s.size : Int) < 1) = false →
      (decide ((↑s.size : Int) > 19) = true → R (Ending.returned (Value.tuple #[Value.int IntKind.i64 0, Value.bool false])) w) ∧
        (decide ((↑s.size : Int) > 19) = false →
          ∃ (x1 : Int),
            Gives Proofs.Try.prog (Instr.index 9 (Value.string s) (Value.int IntKind.i64 0)) (Value.int IntKind.u8 x1) ∧
              ((x1 == 48) = true →
                  (decide ((↑s.size : Int) > 1) = true → R (Ending.returned (Value.tuple #[Value.int IntKind.i64 0, Value.bool false])) w) ∧
                    (decide ((↑s.size : Int) > 1) = false →
                      ∃ (J2 : Int × Int × Unit → World → Prop),
                        ∃ (J3 : Int × Int × Unit → World → Nat),
                          J2 (0, 0, ()) w ∧
                            ∀ (x4 x5 : Int) (w6 : World),
                              J2 (x4, x5, ()) w6 →
                                (decide (x5 < (↑s.size : Int)) = true →
                                    ∃ (x7 : Int),
                                      Gives Proofs.Try.prog (Instr.index 9 (Value.string s) (Value.int IntKind.i64 x5)) (Value.int IntKind.u8 x7) ∧
                                        (decide (x7 < 48) = true → R (Ending.returned (Value.tuple #[Value.int IntKind.i64 0, Value.bool false])) w6) ∧
                                          (decide (x7 < 48) = false →
                                            ∃ (x8 : Int),
                                              Gives Proofs.Try.prog (Instr.index 9 (Value.string s) (Value.int IntKind.i64 x5)) (Value.int IntKind.u8 x8) ∧
                                                (decide (x8 > 57) = true → R (Ending.returned (Value.tuple #[Value.int IntKind.i64 0, Value.bool false])) w6) ∧
                                                  (decide (x8 > 57) = false →
                                                    ∃ (x9 : Int),
                                                      Gives Proofs.Try.prog (Instr.index 9 (Value.string s) (Value.int IntKind.i64 x5)) (Value.int IntKind.u8 x9) ∧
                                                        (decide (x4 > 922337203685477580) = true → R (Ending.returned (Value.tuple #[Value.int IntKind.i64 0, Value.bool false])) w6) ∧
                                                          (decide (x4 > 922337203685477580) = false →
                                                            ((x4 == 922337203685477580) = true →
                                                                (decide (IntKind.i64.wrap (IntKind.i64.wrap x9 - 48) > 7) = true → R (Ending.returned (Value.tuple #[Value.int IntKind.i64 0, Value.bool false])) w6) ∧
                                                                  (decide (IntKind.i64.wrap (IntKind.i64.wrap x9 - 48) > 7) = false →
                                                                    J2 (IntKind.i64.wrap (IntKind.i64.wrap (x4 * 10) + IntKind.i64.wrap (IntKind.i64.wrap x9 - 48)), IntKind.i64.wrap (x5 + 1), ()) w6 ∧
                                                                      J3 (IntKind.i64.wrap (IntKind.i64.wrap (x4 * 10) + IntKind.i64.wrap (IntKind.i64.wrap x9 - 48)), IntKind.i64.wrap (x5 + 1), ()) w6 < J3 (x4, x5, ()) w6)) ∧
                                                              ((x4 == 922337203685477580) = false →
                                                                J2 (IntKind.i64.wrap (IntKind.i64.wrap (x4 * 10) + IntKind.i64.wrap (IntKind.i64.wrap x9 - 48)), IntKind.i64.wrap (x5 + 1), ()) w6 ∧
                                                                  J3 (IntKind.i64.wrap (IntKind.i64.wrap (x4 * 10) + IntKind.i64.wrap (IntKind.i64.wrap x9 - 48)), IntKind.i64.wrap (x5 + 1), ()) w6 < J3 (x4, x5, ()) w6))))) ∧
                                  (decide (x5 < (↑s.size : Int)) = false → R (Ending.returned (Value.tuple #[Value.int IntKind.i64 x4, Value.bool true])) w6))) ∧
                ((x1 == 48) = false →
                  ∃ (J10 : Int × Int × Unit → World → Prop),
                    ∃ (J11 : Int × Int × Unit → World → Nat),
                      J10 (0, 0, ()) w ∧
                        ∀ (x12 x13 : Int) (w14 : World),
                          J10 (x12, x13, ()) w14 →
                            (decide (x13 < (↑s.size : Int)) = true →
                                ∃ (x15 : Int),
                                  Gives Proofs.Try.prog (Instr.index 9 (Value.string s) (Value.int IntKind.i64 x13)) (Value.int IntKind.u8 x15) ∧
                                    (decide (x15 < 48) = true → R (Ending.returned (Value.tuple #[Value.int IntKind.i64 0, Value.bool false])) w14) ∧
                                      (decide (x15 < 48) = false →
                                        ∃ (x16 : Int),
                                          Gives Proofs.Try.prog (Instr.index 9 (Value.string s) (Value.int IntKind.i64 x13)) (Value.int IntKind.u8 x16) ∧
                                            (decide (x16 > 57) = true → R (Ending.returned (Value.tuple #[Value.int IntKind.i64 0, Value.bool false])) w14) ∧
                                              (decide (x16 > 57) = false →
                                                ∃ (x17 : Int),
                                                  Gives Proofs.Try.prog (Instr.index 9 (Value.string s) (Value.int IntKind.i64 x13)) (Value.int IntKind.u8 x17) ∧
                                                    (decide (x12 > 922337203685477580) = true → R (Ending.returned (Value.tuple #[Value.int IntKind.i64 0, Value.bool false])) w14) ∧
                                                      (decide (x12 > 922337203685477580) = false →
                                                        ((x12 == 922337203685477580) = true →
                                                            (decide (IntKind.i64.wrap (IntKind.i64.wrap x17 - 48) > 7) = true → R (Ending.returned (Value.tuple #[Value.int IntKind.i64 0, Value.bool false])) w14) ∧
                                                              (decide (IntKind.i64.wrap (IntKind.i64.wrap x17 - 48) > 7) = false →
                                                                J10 (IntKind.i64.wrap (IntKind.i64.wrap (x12 * 10) + IntKind.i64.wrap (IntKind.i64.wrap x17 - 48)), IntKind.i64.wrap (x13 + 1), ()) w14 ∧
                                                                  J11 (IntKind.i64.wrap (IntKind.i64.wrap (x12 * 10) + IntKind.i64.wrap (IntKind.i64.wrap x17 - 48)), IntKind.i64.wrap (x13 + 1), ()) w14 < J11 (x12, x13, ()) w14)) ∧
                                                          ((x12 == 922337203685477580) = false →
                                                            J10 (IntKind.i64.wrap (IntKind.i64.wrap (x12 * 10) + IntKind.i64.wrap (IntKind.i64.wrap x17 - 48)), IntKind.i64.wrap (x13 + 1), ()) w14 ∧
                                                              J11 (IntKind.i64.wrap (IntKind.i64.wrap (x12 * 10) + IntKind.i64.wrap (IntKind.i64.wrap x17 - 48)), IntKind.i64.wrap (x13 + 1), ()) w14 < J11 (x12, x13, ()) w14))))) ∧
                              (decide (x13 < (↑s.size : Int)) = false → R (Ending.returned (Value.tuple #[Value.int IntKind.i64 x12, Value.bool true])) w14))))
theorem f42_eq (s : ByteArray) (w : World) (R : Ending → World → Prop) : (fnF Go.Proofs.Try.prog h42 Go.Proofs.Try.f42 [Value.string s] w R).den = f42_vc s w R := by kernel_rfl
theorem f42_calls (s : ByteArray) (w : World) (R : Ending → World → Prop) (h : f42_vc s w R) : Calls Go.Proofs.Try.prog 42 (List.toArray [Value.string s]) w R :=
  fn_sound (H := h42) (fn := Go.Proofs.Try.f42) (by kernel_rfl) (by kernel_rfl) (by kernel_rfl) ((f42_eq s w R).mpr h)


/-! manciple/ratio.digits -/
def h43 : Hints := ⟨[], [19, 27], [11, 8], [], [], [(4, ⟨[(0, .int .i64), (4, .int .i64), (5, .bool)], []⟩)], []⟩
def f43_vc (n : Int) (w : World) (R : Ending → World → Prop) : Prop :=
  OpW Proofs.Try.prog (valueS (Instr.alloc 64 true (Value.tuple #[]))) w fun (v1 : Value) (w2 : World) =>
    ∃ (a3 : Option Addr),
      v1 = Value.pointer a3 ∧
        ∃ (J4 : Int × Int × Bool × Unit → World → Prop),
          ∃ (J5 : Int × Int × Bool × Unit → World → Nat),
            J4 (n, 20, true, ()) w2 ∧
              ∀ (x6 x7 : Int) (b8 : Bool) (w9 : World),
                J4 (x6, x7, b8, ()) w9 →
                  (b8 = true →
                      ∃ (a10 : Option Addr),
                        Gives Proofs.Try.prog (Instr.indexAt 64 (Value.pointer a3) (Value.int IntKind.i64 (IntKind.i64.wrap (x7 - 1)))) (Value.pointer a10) ∧
                          OpW Proofs.Try.prog (skipS (Instr.storeAt 5 (Value.pointer a10) (Value.int IntKind.u8 (IntKind.u8.wrap (IntKind.i64.wrap (48 + x6.tmod 10)))))) w9 fun (v11 : Value) (w12 : World) =>
                            J4 (IntKind.i64.wrap (x6.tdiv 10), IntKind.i64.wrap (x7 - 1), false, ()) w12 ∧ J5 (IntKind.i64.wrap (x6.tdiv 10), IntKind.i64.wrap (x7 - 1), false, ()) w12 < J5 (x6, x7, b8, ()) w9) ∧
                    (b8 = false →
                      (decide (x6 > 0) = true →
                          ∃ (a13 : Option Addr),
                            Gives Proofs.Try.prog (Instr.indexAt 64 (Value.pointer a3) (Value.int IntKind.i64 (IntKind.i64.wrap (x7 - 1)))) (Value.pointer a13) ∧
                              OpW Proofs.Try.prog (skipS (Instr.storeAt 5 (Value.pointer a13) (Value.int IntKind.u8 (IntKind.u8.wrap (IntKind.i64.wrap (48 + x6.tmod 10)))))) w9 fun (v14 : Value) (w15 : World) =>
                                J4 (IntKind.i64.wrap (x6.tdiv 10), IntKind.i64.wrap (x7 - 1), false, ()) w15 ∧ J5 (IntKind.i64.wrap (x6.tdiv 10), IntKind.i64.wrap (x7 - 1), false, ()) w15 < J5 (x6, x7, b8, ()) w9) ∧
                        (decide (x6 > 0) = false →
                          OpW Proofs.Try.prog (valueS (Instr.makeSlice 61 (Value.int IntKind.i64 (IntKind.i64.wrap (20 - x7))) (Value.int IntKind.i64 (IntKind.i64.wrap (20 - x7))))) w9 fun (v16 : Value) (w17 : World) =>
                            ∃ (a18 : Option Addr),
                              ∃ (n19 : Nat),
                                ∃ (n20 : Nat),
                                  v16 = Value.slice a18 n19 n20 ∧
                                    ∃ (a21 : Option Addr),
                                      ∃ (n22 : Nat),
                                        ∃ (n23 : Nat),
                                          Gives Proofs.Try.prog (Instr.sliceAt 64 (Value.pointer a3) (some (Value.int IntKind.i64 x7)) none none) (Value.slice a21 n22 n23) ∧
                                            OpW Proofs.Try.prog (builtin Builtin.copy #[61, 61] 3 #[false, false] #[Value.slice a18 n19 n20, Value.slice a21 n22 n23]) w17 fun (v24 : Value) (w25 : World) =>
                                              ∃ (x26 : Int),
                                                v24 = Value.int IntKind.i64 x26 ∧
                                                  OpW Proofs.Try.prog (valueS (convert 61 9 (Value.slice a18 n19 n20))) w25 fun (v27 : Value) (w28 : World) =>
                                                    ∃ (s29 : ByteArray), v27 = Value.string s29 ∧ R (Ending.returned (Value.string s29)) w28))
theorem f43_eq (n : Int) (w : World) (R : Ending → World → Prop) : (fnF Go.Proofs.Try.prog h43 Go.Proofs.Try.f43 [Value.int IntKind.i64 n] w R).den = f43_vc n w R := by kernel_rfl
theorem f43_calls (n : Int) (w : World) (R : Ending → World → Prop) (h : f43_vc n w R) : Calls Go.Proofs.Try.prog 43 (List.toArray [Value.int IntKind.i64 n]) w R :=
  fn_sound (H := h43) (fn := Go.Proofs.Try.f43) (by kernel_rfl) (by kernel_rfl) (by kernel_rfl) ((f43_eq n w R).mpr h)

end Vca
