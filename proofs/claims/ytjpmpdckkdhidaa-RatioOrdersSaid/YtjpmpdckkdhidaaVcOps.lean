/- What single operations do, as the formulas take them. -/
import Derived.Test.YtjpmpdckkdhidaaVcDefs
namespace Go.Vc
open Go Go.RowKit

theorem look_eq {α : Type} (k : Nat) (v : α) (r : List (Nat × α)) : look ((k, v) :: r) k = some v := by
  simp [look]

theorem look_ne {α : Type} {k t : Nat} (h : k ≠ t) (v : α) (r : List (Nat × α)) : look ((k, v) :: r) t = look r t := by
  have : Nat.beq k t = false := by
    rw [Bool.eq_false_iff]; intro hb; exact h (Nat.eq_of_beq_eq_true hb)
  simp [look, this]

theorem pureRun_run {α : Type} {P : Program} : ∀ {s : Sem α} {a : α}, pureRun P s = some a → ∀ w, s.run P w = .ok a w := by
  intro s
  induction s with
  | pure a => intro b h w; simp only [pureRun, Option.some.injEq] at h; subst h; rfl
  | program k ih => intro b h w; simp only [pureRun] at h; simpa [Sem.run] using ih _ h w
  | mark m k ih => intro b h w; simp only [pureRun] at h; simpa [Sem.run] using ih h w
  | choose q k ih =>
    intro b h w
    simp only [pureRun] at h
    cases hq : q.forced with
    | false => simp [hq] at h
    | true =>
      simp only [hq, cond_true] at h
      simpa [Sem.run, hq] using ih 0 h w
  | _ => intro b h; simp [pureRun] at h

theorem run_bind_ok {α β : Type} {P : Program} {s : Sem α} {f : α → Sem β} {w w' : World} {a : α} (h : s.run P w = .ok a w') : (s >>= f).run P w = (f a).run P w' := by
  have key : ∀ (s : Sem α) (w : World), s.run P w = .ok a w' → (s.bind f).run P w = (f a).run P w' := by
    intro s
    induction s with
    | pure b => intro w h; simp only [Sem.run, Result.ok.injEq] at h; obtain ⟨rfl, rfl⟩ := h; rfl
    | load m ad k ih =>
      intro w h
      simp only [Sem.run, Sem.bind] at h ⊢
      split at h
      · exact ih _ _ h
      · split at h
        · exact ih _ _ h
        · cases h
    | store m ad v k ih =>
      intro w h
      cases v <;> simp only [Sem.run, Sem.bind] at h ⊢
      case agg => cases h
      case tuple => cases h
      all_goals
        split at h
        · split at h
          · cases h
          · rename_i hf; simp only [hf]; exact ih _ h
        · split at h
          · exact ih _ h
          · cases h
    | new o k ih => intro w h; exact ih _ _ h
    | shape r k ih => intro w h; exact ih _ _ h
    | freeze ad n k ih => intro w h; exact ih _ h
    | frozen ad k ih => intro w h; exact ih _ _ h
    | getObj r k ih =>
      intro w h
      simp only [Sem.run, Sem.bind] at h ⊢
      split at h
      · cases h
      · exact ih _ _ h
      · cases h
    | setObj r o k ih =>
      intro w h
      simp only [Sem.run, Sem.bind] at h ⊢
      split at h
      · cases h
      · exact ih _ h
      · cases h
    | choose q k ih =>
      intro w h
      simp only [Sem.run, Sem.bind] at h ⊢
      split at h
      · rename_i hq; simp only [hq, if_true]; exact ih _ _ h
      · rename_i hq; simp only [hq]; exact ih _ _ h
    | sys c k ih => intro w h; exact ih _ _ h
    | program k ih => intro w h; exact ih _ _ h
    | mark m k ih => intro w h; exact ih _ h
    | halt hh => intro w h; cases h
  exact key s w h

theorem run_valueS {P : Program} {s : Sem Value} {w w' : World} {v : Value} (h : s.run P w = .ok v w') : (valueS s).run P w = .ok (.value v) w' := by
  unfold valueS
  rw [run_bind_ok h]
  rfl

theorem valSem_spec {ρ : Operand → Value} {o : Oper} {s : Sem Value} (h : valSem ρ o = some s) : execOp ρ o = valueS s := by
  obtain ⟨dst, op, type, pos, after, guard⟩ := o
  unfold valSem at h
  cases op <;> simp only [Option.some.injEq] at h <;> try (first | (cases h; done) | (subst h; rfl))
  case call c =>
    obtain ⟨callee, args, argTypes⟩ := c
    cases callee with
    | builtin b => cases b <;> simp only [Option.some.injEq] at h <;> first | (cases h; done) | (subst h; rfl)
    | value f => cases h
    | invoke r m => cases h

theorem effSem_spec (ρ : Operand → Value) (o : Oper) : effSem ρ o = execOp ρ o := by
  obtain ⟨dst, op, type, pos, after, guard⟩ := o
  cases op <;> try rfl
  case call c =>
    obtain ⟨callee, args, argTypes⟩ := c
    cases callee <;> rfl
end Go.Vc
