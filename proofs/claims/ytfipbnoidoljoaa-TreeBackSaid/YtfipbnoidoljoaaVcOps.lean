/- What single operations do, as the formulas take them. -/
import Derived.Test.YtfipbnoidoljoaaVcDefs
namespace Go.Vc
open Go Go.RowKit

theorem look_eq {α : Type} (k : Nat) (v : α) (r : List (Nat × α)) : look ((k, v) :: r) k = some v := by
  simp [look]

theorem look_ne {α : Type} {k t : Nat} (h : k ≠ t) (v : α) (r : List (Nat × α)) : look ((k, v) :: r) t = look r t := by
  have : Nat.beq k t = false := by
    rw [Bool.eq_false_iff]; intro hb; exact h (Nat.eq_of_beq_eq_true hb)
  simp [look, this]

theorem run_valueS {P : Program} {s : Sem Value} {w w' : World} {v : Value} (h : s.run P w = .ok v w') : (valueS s).run P w = .ok (.value v) w' := by
  unfold valueS
  rw [run_bind_ok h]
  rfl

theorem valSem_spec {ρ : Operand → Value} {o : Oper} {s : Sem Value} (h : valSem ρ o = some s) : execOp ρ o = valueS s := by
  obtain ⟨dst, op, type, pos, after, guard⟩ := o
  unfold valSem at h
  cases op <;> simp only [Option.some.injEq] at h <;> try (first | (cases h; done) | (subst h; rfl))
  case call c =>
    obtain ⟨callee, args, argTypes⟩ := c
    cases callee with
    | builtin b => cases b <;> simp only [Option.some.injEq] at h <;> first | (cases h; done) | (subst h; rfl)
    | value f => cases h
    | invoke r m => cases h

theorem effSem_spec (ρ : Operand → Value) (o : Oper) : effSem ρ o = execOp ρ o := by
  obtain ⟨dst, op, type, pos, after, guard⟩ := o
  cases op <;> try rfl
  case call c =>
    obtain ⟨callee, args, argTypes⟩ := c
    cases callee <;> rfl
end Go.Vc
