/- Soundness of the formula of an operation that leaves the world as it is. -/
import Derived.Test.YtfipbnoidoljoaaVcRel
namespace Go.Vc
open Go Go.RowKit

theorem Sh.allF_den : ∀ (s : Sh) (f : s.T → Fm), (s.allF f).den → ∀ x, (f x).den
  | .int _, _, h, x => h x
  | .bool, _, h, x => h x
  | .str, _, h, x => h x
  | .ptr, _, h, x => h x
  | .addr, _, h, x => h x
  | .sl, _, h, (a, n, c) => h a n c
  | .mp, _, h, x => h x
  | .any, _, h, x => h x
  | .nil, _, h, () => h
  | .cons a b, _, h, (x, y) => Sh.allF_den b _ (Sh.allF_den a _ h x) y
  | .agg s, f, h, x => Sh.allF_den s f h x
  | .tup s, f, h, x => Sh.allF_den s f h x

theorem Sh.exF_den : ∀ (s : Sh) (f : s.T → Fm), (s.exF f).den → ∃ x, (f x).den
  | .int _, _, h => h
  | .bool, _, h => h
  | .str, _, h => h
  | .ptr, _, h => h
  | .addr, _, h => h
  | .sl, _, ⟨a, n, c, h⟩ => ⟨(a, n, c), h⟩
  | .mp, _, h => h
  | .any, _, h => h
  | .nil, _, h => ⟨(), h⟩
  | .cons a b, _, h => by
    obtain ⟨x, hx⟩ := Sh.exF_den a _ h
    obtain ⟨y, hy⟩ := Sh.exF_den b _ hx
    exact ⟨(x, y), hy⟩
  | .agg s, f, h => Sh.exF_den s f h
  | .tup s, f, h => Sh.exF_den s f h

section
variable {P : Program} {H : Hints} {n : Nat}

theorem run_exec_value {ρ : Operand → Value} {o : Oper} {s : Sem Value} {v : Value} {w w' : World} (hs : valSem ρ o = some s) (h : s.run P w = .ok v w') : (execOp ρ o).run P w = .ok (.value v) w' := by
  rw [valSem_spec hs]; exact run_valueS h

/-- What the formula of a quiet operation gives. -/
def QuietDone (P : Program) (n : Nat) (dr : Bool) (i : Nat) (o : Oper) (k : St → Fm) (st : St) (a : Act) (W : World) : Prop :=
  ∃ v s p, (k ((st.set o.dst s).put dr p)).den ∧ Rel n (st.set o.dst s) (a.put o.dst v) W ∧ p.idx = i ∧ p.inGs st.gs ∧ p.holds P W ∧ ∀ W', p.holds P W' → (execOp a.eval o).run P W' = .ok (.value v) W'

theorem pureF_sound {dr : Bool} {i : Nat} {o : Oper} {k : St → Fm} {st : St} {a : Act} {W : World} (hns : ∀ cs b, o.op ≠ .select cs b) (hd : dstOk n o = true)
    (h : (pureF P H dr i o k st).den) (hr : Rel n st a W) : QuietDone P n dr i o k st a W := by
  unfold pureF at h
  cases hal : st.alive o with
  | false => rw [hal] at h; exact h.elim
  | true =>
    rw [hal] at h
    simp only [cond_true] at h
    have he := hr.exec hns hal
    cases hop : hasO H.asks o.dst with
    | true =>
      rw [hop] at h
      simp only [cond_true] at h
      cases hv : valSem st.rho o with
      | none => rw [hv] at h; exact h.elim
      | some s =>
        rw [hv] at h
        obtain ⟨x, hg, hk⟩ := Sh.exF_den _ _ h
        exact ⟨_, .val _, .pure i, hk, hr.set hd trivial fun _ => rfl, rfl, trivial, trivial, fun W' _ => by rw [he]; exact run_exec_value hv (hg W')⟩
    | false =>
      rw [hop] at h
      simp only [cond_false] at h
      split at h
      · rename_i v hp
        exact ⟨v, .val v, .pure i, h, hr.set hd trivial fun _ => rfl, rfl, trivial, trivial, fun W' _ => by rw [he]; exact runQ_run hp W'⟩
      · exact h.elim

theorem readF_sound {dr : Bool} {i : Nat} {o : Oper} {k : St → Fm} {st : St} {a : Act} {W : World} (hns : ∀ cs b, o.op ≠ .select cs b) (hd : dstOk n o = true)
    (h : (readF P dr i o k st).den) (hr : Rel n st a W) : QuietDone P n dr i o k st a W := by
  unfold readF at h
  cases hal : st.alive o with
  | false => rw [hal] at h; exact h.elim
  | true =>
    rw [hal] at h
    simp only [cond_true] at h
    have he := hr.exec hns hal
    cases hv : valSem st.rho o with
    | none => rw [hv] at h; exact h.elim
    | some s =>
      rw [hv] at h
      obtain ⟨x, hg, hk⟩ := Sh.exF_den _ _ h
      exact ⟨_, .val _, .read i s _, hk, hr.set hd trivial fun _ => rfl, rfl, trivial, hg W (evoP_of hr.evo), fun W' hw => by rw [he]; exact run_exec_value hv hw⟩

theorem copyF_sound {dr : Bool} {i : Nat} {o : Oper} {x : Operand} {k : St → Fm} {st : St} {a : Act} {W : World} (hd : dstOk n o = true)
    (h : (copyF dr i o x k st).den) (hr : Rel n st a W) (he : a.eval x = st.rho x → ∀ W', (execOp a.eval o).run P W' = .ok (.value (a.eval x)) W') : QuietDone P n dr i o k st a W := by
  unfold copyF at h
  cases hal : (st.slot x).alive with
  | false => rw [hal] at h; exact h.elim
  | true =>
    rw [hal] at h
    have hx := hr.rho hal
    exact ⟨a.eval x, st.slot x, .pure i, h, hr.set hd (hr.slotOk x) fun _ => hx, rfl, trivial, trivial, fun W' _ => he hx W'⟩

theorem boolOf_spec {s : Slot} {b : Bool} {gs : List Nat} (h : boolOf s = some b) : s.alive = true ∧ s.value gs = .bool b := by
  unfold boolOf at h
  split at h
  · cases h; exact ⟨rfl, rfl⟩
  · cases h; exact ⟨rfl, rfl⟩
  · cases h

theorem fieldOff_spec {s : TypeId} {f d : Nat} {ad : Addr} (h : fieldOff P s f = some d) (W : World) : (Instr.fieldAt s (.pointer (some ad)) f).run P W = .ok (.pointer (some (ad.add d))) W := by
  unfold fieldOff at h
  split at h
  · rename_i fs hu
    split at h
    · rename_i fl hfl
      split at h
      · rename_i m hsz
        cases h
        unfold Instr.fieldAt
        have h1 : (underlying s).run P W = .ok (.struct fs) W := by
          simp [underlying, program, bind, Sem.bind, Sem.run, hu, pure]
        rw [run_bind_ok h1]
        simp only [hfl]
        have h2 : (Instr.sureAddr (.pointer (some ad))).run P W = .ok ad W := rfl
        rw [run_bind_ok h2]
        have h3 : (fieldPlace ad fl).run P W = .ok (ad.add fl.offset) W := by
          unfold fieldPlace
          rw [run_bind_ok (pureRun_run hsz W)]
          simp [pure]
        rw [run_bind_ok h3]
        rfl
      · cases h
    · cases h
  · cases h

theorem run_underlying' {t : TypeId} {d : TypeDesc} (h : P.underlying t = some d) (W : World) : (underlying t).run P W = .ok d W := by
  simp [underlying, program, bind, Sem.bind, Sem.run, h, pure]

theorem arrOff_spec {t : TypeId} {ix : Value} {d : Nat} {ad : Addr} (h : arrOff P t ix = some d) (W : World) : (Instr.indexAt t (.pointer (some ad)) ix).run P W = .ok (.pointer (some (ad.add d))) W := by
  unfold arrOff at h
  split at h
  · rename_i len e k i hu
    split at h
    · rename_i sz hsz
      cases hb : decide (0 ≤ i ∧ i < len) with
      | false => rw [hb] at h; cases h
      | true =>
        rw [hb] at h
        simp only [cond_true, Option.some.injEq] at h
        subst h
        have hb' := of_decide_eq_true hb
        unfold Instr.indexAt
        have h0 : (asIntOf (.int k i)).run P W = .ok (k, i) W := rfl
        rw [run_bind_ok h0]
        rw [run_bind_ok (run_underlying' hu W)]
        have h2 : (Instr.sureAddr (.pointer (some ad))).run P W = .ok ad W := rfl
        rw [run_bind_ok h2]
        simp only [pure_bind]
        rw [run_bind_ok (run_underlying' hu W)]
        simp only [hb', and_self, if_true]
        rw [run_bind_ok (pureRun_run hsz W)]
        rfl
    · cases h
  · cases h
end
end Go.Vc
