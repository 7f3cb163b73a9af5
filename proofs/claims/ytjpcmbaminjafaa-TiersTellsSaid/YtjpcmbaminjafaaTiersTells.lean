/- TiersTells: Behind any acts each framework's role and share, and each role's weight and share, is what was put in, given and taken. For every input that the row lets in; no further condition. -/
import Derived.Test.YtjpcmbaminjafaaMgb6287ff7
import Derived.Test.YtjpcmbaminjafaaRows
import Derived.WalkKit
import Derived.ProofKit
import Derived.OpenShut
namespace Go.Proofs.Ytjpcmbaminjafaa.tiersTells
open Go Go.ChangeShapes Go.WideShapes Go.ChangeAt Go.RowKit Go.Vc Go.Vc.S Go.Proofs
set_option linter.unusedVariables false

theorem walk (x0 : (GT.sl taG).T) (x1 x2 : Int) (v0 v1 v2 : Value) {W : World} (h0 : GT.V W (.sl taG) x0 v0) (h1 : GT.V W (.int .i64) x1 v1) (h2 : GT.V W (.int .i64) x2 v2) (_W : World) : Calls Try.prog 6 #[v0, v1, v2] W fun e w' => e = .returned (.bool true) ∧ Below W.heap.size W w' := by
  obtain ⟨L, a, n, c, rfl, hs⟩ := tas_V h0
  obtain ⟨rfl, _⟩ := int_V h1
  obtain ⟨rfl, _⟩ := int_V h2
  exact law6 _ _ _ hs _ fun w' hb => ⟨rfl, hb⟩

theorem own : ownKnob Try.prog.godebug = none := by kernel_rfl
theorem laid : laidOutB Try.prog = true := by kernel_rfl

set_option maxRecDepth 100000 in
theorem lifted (os : Os) (started : os.Started) (H : Type) (enc : TypeId × Value → H) :
    ReturnsInHanded {} Try.checked os 6 .any (Rows.tiersTellsSpec.pre6 enc Try.prog Try.f6 Rows.tiersTellsRow.domain false) (Rows.tiersTellsSpec.post enc Try.prog Try.f6 false true false false) := by
  refine returnsInHanded_of_change (C := Try.checked) own started (by kernel_rfl) Try.func6
    (ChangeSpec.witness6 (enc := enc) (C := Try.checked) false ⟨#[], #[.slice none 0 0, .int .i64 0, .int .i64 0], []⟩ 8 (by kernel_rfl) (by kernel_rfl) (by kernel_rfl) (by kernel_rfl)) ?_
  intro W base args ds gs before hval0 hW hcnd _
  have hval : ∀ (j : Nat) t v, Try.f6.params[j]? = some t → args[j]? = some v → Value.okWide Try.prog W .any base t v := hval0
  have hW' := hW
  obtain ⟨p, q, hA0, hV, rfl, hfz, hnd⟩ := hW
  have hA : DataW.TrodAll enc Try.prog W 0 (fun _ => true) true Try.f6.params.toList args.toList ds p := hA0
  rw [Try.params6] at hA hval
  obtain ⟨v0, vs0, d0, ds0, p0, q0, hargs, rfl, rfl, h0, r0⟩ := trodAll_cons hA
  obtain ⟨v1, vs1, d1, ds1, p1, q1, rfl, rfl, rfl, h1, r1⟩ := trodAll_cons r0
  obtain ⟨v2, vs2, d2, ds2, p2, q2, rfl, rfl, rfl, h2, r2⟩ := trodAll_cons r1
  obtain ⟨rfl, rfl, rfl⟩ := trodAll_nil r2
  obtain rfl : args = #[v0, v1, v2] := by cases args; simp_all
  obtain ⟨rfl, rfl⟩ := trodVars_none hV
  obtain ⟨x0, g0⟩ := read_arg (.sl taG) (by kernel_rfl) (hval 0 66 v0 rfl rfl) h0
  obtain ⟨x1, g1⟩ := read_arg (.int .i64) (by kernel_rfl) (hval 1 2 v1 rfl rfl) h1
  obtain ⟨x2, g2⟩ := read_arg (.int .i64) (by kernel_rfl) (hval 2 3 v2 rfl rfl) h2
  clear hA0 hval0
  simp only [List.append_nil] at hW'
  refine (walk x0 x1 x2 v0 v1 v2 g0 g1 g2 W).mono fun e W' ⟨he, hg⟩ => ?_
  subst he
  exact ⟨_, rfl, law_post laid (tb := 4) (by kernel_rfl) (by kernel_rfl) rfl hW' rfl (by rw [Try.params6]; intro t ht; simp at ht; rcases ht with rfl | rfl | rfl <;> exact ⟨by kernel_rfl, by decide +kernel⟩) hg⟩

theorem over : Rows.tiersTellsRow.holds Try.pinned (OpenSpec.ofChange Rows.tiersTellsSpec) :=
  OpenClaim.holds_of_wide 6 Try.f6 rfl rfl rfl rfl rfl rfl rfl ⟨rfl, rfl, rfl, rfl, rfl⟩ rfl rfl rfl rfl rfl (by kernel_rfl) Try.func6 (by kernel_rfl)
    (of_decide_eq_true (by kernel_rfl)) (by unfold Func.isWrapper; first | (rw [if_pos (by decide +kernel)]; kernel_rfl) | (rw [if_neg (by decide +kernel)]; exact ⟨rfl, rfl⟩))
    (fun os started H enc _ => lifted os started H enc)

/-- The statement. -/
theorem proved : Rows.TiersTellsSaid := over
#print axioms proved
end Go.Proofs.Ytjpcmbaminjafaa.tiersTells
