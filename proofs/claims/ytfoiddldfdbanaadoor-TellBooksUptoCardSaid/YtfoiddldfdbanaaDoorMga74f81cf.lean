/- Own texts of this claim, laid together: QTl. -/
import Derived.Test.YtfoiddldfdbanaaDoorMgcff6cf4f

/- Tell: a book's argument, read. -/
set_option maxRecDepth 100000
set_option maxHeartbeats 1000000
set_option linter.unusedVariables false
namespace Go.Vc.Q
open Go Go.Vc Go.Vc.V Go.RowKit Go.Proofs Go.Proofs.YtfoiddldfdbanaaDoor Go.ChangeShapes

abbrev frG : GT := .st (.pair iG (.pair iG (.pair iG (.pair .bool (.pair .bool (.pair iG (.pair iG .unit)))))))
abbrev agG : GT := .st (.pair iG (.pair (.sl ptG) (.pair (.sl ptG) .unit)))
abbrev ofG : GT := .st (.pair iG (.pair iG (.pair iG (.pair (.sl ptG) (.pair iG .unit)))))
abbrev tkG : GT := .st (.pair iG (.pair iG (.pair iG (.pair (.sl ptG) .unit))))
abbrev arG : GT := .st (.pair iG (.pair iG (.pair iG (.pair iG .unit))))
abbrev cfG : GT := .st (.pair iG (.pair iG (.pair iG (.pair iG (.pair iG (.pair arG .unit))))))
abbrev bkG : GT := .st (.pair cfG (.pair iG (.pair iG (.pair (.sl frG) (.pair (.sl agG) (.pair (.sl ofG) (.pair (.sl tkG) (.pair (.sl tkG) .unit))))))))
theorem fr_R {w : World} {x : frG.T} {cs : List Value} (h : frG.R w x cs) : ∃ y : Fr, cs = frV y ∧ frOk w y := by
  obtain ⟨_, _, rfl, ⟨rfl, a1, b1⟩, _, _, rfl, ⟨rfl, a2, b2⟩, _, _, rfl, ⟨rfl, a3, b3⟩, _, _, rfl, rfl, _, _, rfl, rfl, _, _, rfl, ⟨rfl, a6, b6⟩, _, _, rfl, ⟨rfl, a7, b7⟩, rfl⟩ := h
  exact ⟨⟨_, _, _, _, _, _, _⟩, rfl, ⟨i64_bounds' a1 b1, i64_bounds' a2 b2, i64_bounds' a3 b3, i64_bounds' a7 b7⟩⟩
theorem ag_R {w : World} {x : agG.T} {cs : List Value} (h : agG.R w x cs) : ∃ y : Ag, cs = agV y ∧ agOk w y := by
  obtain ⟨_, _, rfl, ⟨rfl, a1, b1⟩, _, _, rfl, ⟨a, n, c, rfl, hs⟩, _, _, rfl, ⟨a', n', c', rfl, hs'⟩, rfl⟩ := h
  exact ⟨⟨_, (x.2.1.map ptOf, (a, n, c)), (x.2.2.1.map ptOf, (a', n', c'))⟩, rfl, i64_bounds' a1 b1, row_M hs fun _ _ => pt_R, row_M hs' fun _ _ => pt_R⟩
theorem of_R {w : World} {x : ofG.T} {cs : List Value} (h : ofG.R w x cs) : ∃ y : Of, cs = ofV y ∧ ofOk w y := by
  obtain ⟨_, _, rfl, ⟨rfl, a1, b1⟩, _, _, rfl, ⟨rfl, a2, b2⟩, _, _, rfl, ⟨rfl, a3, b3⟩, _, _, rfl, ⟨a, n, c, rfl, hs⟩, _, _, rfl, ⟨rfl, a5, b5⟩, rfl⟩ := h
  exact ⟨⟨_, _, _, (x.2.2.2.1.map ptOf, (a, n, c)), _⟩, rfl, ⟨i64_bounds' a1 b1, i64_bounds' a2 b2, i64_bounds' a3 b3, i64_bounds' a5 b5⟩, row_M hs fun _ _ => pt_R⟩
theorem tk_R {w : World} {x : tkG.T} {cs : List Value} (h : tkG.R w x cs) : ∃ y : Tk, cs = tkV y ∧ tkOk w y := by
  obtain ⟨_, _, rfl, ⟨rfl, a1, b1⟩, _, _, rfl, ⟨rfl, a2, b2⟩, _, _, rfl, ⟨rfl, a3, b3⟩, _, _, rfl, ⟨a, n, c, rfl, hs⟩, rfl⟩ := h
  exact ⟨⟨_, _, _, (x.2.2.2.1.map ptOf, (a, n, c))⟩, rfl, ⟨i64_bounds' a1 b1, i64_bounds' a2 b2, i64_bounds' a3 b3⟩, row_M hs fun _ _ => pt_R⟩
theorem fi_R {w : World} {x : tkG.T} {cs : List Value} (h : tkG.R w x cs) : ∃ y : Fi, cs = fiV y ∧ fiOk w y := by
  obtain ⟨_, _, rfl, ⟨rfl, a1, b1⟩, _, _, rfl, ⟨rfl, a2, b2⟩, _, _, rfl, ⟨rfl, a3, b3⟩, _, _, rfl, ⟨a, n, c, rfl, hs⟩, rfl⟩ := h
  exact ⟨⟨_, _, _, (x.2.2.2.1.map ptOf, (a, n, c))⟩, rfl, ⟨i64_bounds' a1 b1, i64_bounds' a2 b2, i64_bounds' a3 b3⟩, row_M hs fun _ _ => pt_R⟩
theorem bk_V {w : World} {x : bkG.T} {v : Value} (h : GT.V w bkG x v) : ∃ (b0 b1 b2 b3 b4 b5 b6 b7 b8 : Int) (b : Bk) (s1 s2 s3 s4 s5 : Sl), v = .agg #[.int .i64 b0, .int .i64 b1, .int .i64 b2, .int .i64 b3, .int .i64 b4, .int .i64 b5, .int .i64 b6, .int .i64 b7, .int .i64 b8, .int .i64 b.now, .int .i64 b.last, .slice s1.1 s1.2.1 s1.2.2, .slice s2.1 s2.2.1 s2.2.2, .slice s3.1 s3.2.1 s3.2.2, .slice s4.1 s4.2.1 s4.2.2, .slice s5.1 s5.2.1 s5.2.2] ∧
    (s1.2.1 ≤ 2000000 → s2.2.1 ≤ 2000000 → s3.2.1 ≤ 2000000 → s4.2.1 ≤ 2000000 → s5.2.1 ≤ 2000000 → BkR w b s1 s2 s3 s4 s5) := by
  obtain ⟨cs, rfl, _, _, rfl, hc, _, _, rfl, ⟨rfl, a1, b1⟩, _, _, rfl, ⟨rfl, a2, b2⟩, _, _, rfl, ⟨p1, n1, c1, rfl, h1⟩, _, _, rfl, ⟨p2, n2, c2, rfl, h2⟩, _, _, rfl, ⟨p3, n3, c3, rfl, h3⟩, _, _, rfl, ⟨p4, n4, c4, rfl, h4⟩, _, _, rfl, ⟨p5, n5, c5, rfl, h5⟩, rfl⟩ := h
  obtain ⟨_, _, rfl, ⟨rfl, _, _⟩, _, _, rfl, ⟨rfl, _, _⟩, _, _, rfl, ⟨rfl, _, _⟩, _, _, rfl, ⟨rfl, _, _⟩, _, _, rfl, ⟨rfl, _, _⟩, _, _, rfl, ha, rfl⟩ := hc
  obtain ⟨_, _, rfl, ⟨rfl, _, _⟩, _, _, rfl, ⟨rfl, _, _⟩, _, _, rfl, ⟨rfl, _, _⟩, _, _, rfl, ⟨rfl, _, _⟩, rfl⟩ := ha
  obtain ⟨L1, k1, q1⟩ := row_C h1 (R' := fun y cs => cs = frV y) (Q := frOk w) fun _ _ => fr_R
  obtain ⟨L2, k2, q2⟩ := row_C h2 (R' := fun y cs => cs = agV y) (Q := agOk w) fun _ _ => ag_R
  obtain ⟨L3, k3, q3⟩ := row_C h3 (R' := fun y cs => cs = ofV y) (Q := ofOk w) fun _ _ => of_R
  obtain ⟨L4, k4, q4⟩ := row_C h4 (R' := fun y cs => cs = tkV y) (Q := tkOk w) fun _ _ => tk_R
  obtain ⟨L5, k5, q5⟩ := row_C h5 (R' := fun y cs => cs = fiV y) (Q := fiOk w) fun _ _ => fi_R
  refine ⟨_, _, _, _, _, _, _, _, _, ⟨_, _, L1, L2, L3, L4, L5⟩, (p1, n1, c1), (p2, n2, c2), (p3, n3, c3), (p4, n4, c4), (p5, n5, c5), rfl, fun z1 z2 z3 z4 z5 => ⟨i64_bounds' a1 b1, i64_bounds' a2 b2, ⟨k1, q1, ?_⟩, ⟨k2, q2, ?_⟩, ⟨k3, q3, ?_⟩, ⟨k4, q4, ?_⟩, ⟨k5, q5, ?_⟩⟩⟩
  · exact Nat.le_trans (Nat.le_of_eq k1.1.symm) z1
  · exact Nat.le_trans (Nat.le_of_eq k2.1.symm) z2
  · exact Nat.le_trans (Nat.le_of_eq k3.1.symm) z3
  · exact Nat.le_trans (Nat.le_of_eq k4.1.symm) z4
  · exact Nat.le_trans (Nat.le_of_eq k5.1.symm) z5
theorem u42 : ∃ fs : Array Field, Tryd.prog.underlying 42 = some (.struct fs) ∧ (∃ f, fs[3]? = some f ∧ f.type = 36 ∧ f.offset = 11) ∧ (∃ f, fs[4]? = some f ∧ f.type = 37 ∧ f.offset = 12) ∧ (∃ f, fs[5]? = some f ∧ f.type = 38 ∧ f.offset = 13) ∧ (∃ f, fs[6]? = some f ∧ f.type = 39 ∧ f.offset = 14) ∧ (∃ f, fs[7]? = some f ∧ f.type = 40 ∧ f.offset = 15) :=
  ⟨_, rfl, ⟨_, rfl, rfl, rfl⟩, ⟨_, rfl, rfl, rfl⟩, ⟨_, rfl, rfl, rfl⟩, ⟨_, rfl, rfl, rfl⟩, ⟨_, rfl, rfl, rfl⟩⟩
theorem bk_len {H : Type} {enc : TypeId × Value → H} {W : World} {base : Nat} {spare : Nat → Bool} {held : Bool} {d0 : DataW H} {p0 : List MemPlace} {b0 b1 b2 b3 b4 b5 b6 b7 b8 b9 b10 : Int} {s1 s2 s3 s4 s5 : Sl}
    (h : DataW.Trod enc Tryd.prog W base spare held 42 (.agg #[.int .i64 b0, .int .i64 b1, .int .i64 b2, .int .i64 b3, .int .i64 b4, .int .i64 b5, .int .i64 b6, .int .i64 b7, .int .i64 b8, .int .i64 b9, .int .i64 b10, .slice s1.1 s1.2.1 s1.2.2, .slice s2.1 s2.2.1 s2.2.2, .slice s3.1 s3.2.1 s3.2.2, .slice s4.1 s4.2.1 s4.2.2, .slice s5.1 s5.2.1 s5.2.2]) d0 p0) :
    s1.2.1 ≤ Rows.uptoBulk d0 ∧ s2.2.1 ≤ Rows.uptoBulk d0 ∧ s3.2.1 ≤ Rows.uptoBulk d0 ∧ s4.2.1 ≤ Rows.uptoBulk d0 ∧ s5.2.1 ≤ Rows.uptoBulk d0 := by
  obtain ⟨fs, hu, ⟨f3, g3, t3, o3⟩, ⟨f4, g4, t4, o4⟩, ⟨f5, g5, t5, o5⟩, ⟨f6, g6, t6, o6⟩, ⟨f7, g7, t7, o7⟩⟩ := u42
  have c0 : Tryd.prog.cellsOf 36 = 1 := by kernel_rfl
  have c1 : Tryd.prog.cellsOf 37 = 1 := by kernel_rfl
  have c2 : Tryd.prog.cellsOf 38 = 1 := by kernel_rfl
  have c3 : Tryd.prog.cellsOf 39 = 1 := by kernel_rfl
  have c4 : Tryd.prog.cellsOf 40 = 1 := by kernel_rfl
  exact ⟨fld_len h hu g3 (e := 78) (by rw [t3]; kernel_rfl) (by rw [t3, o3, c0]; rfl), fld_len h hu g4 (e := 59) (by rw [t4]; kernel_rfl) (by rw [t4, o4, c1]; rfl), fld_len h hu g5 (e := 61) (by rw [t5]; kernel_rfl) (by rw [t5, o5, c2]; rfl), fld_len h hu g6 (e := 63) (by rw [t6]; kernel_rfl) (by rw [t6, o6, c3]; rfl), fld_len h hu g7 (e := 65) (by rw [t7]; kernel_rfl) (by rw [t7, o7, c4]; rfl)⟩
end Go.Vc.Q

