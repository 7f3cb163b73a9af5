/- Soundness of the formula of a quiet operation, whatever its kind. -/
import Derived.Test.YtfipbnoidoljoaaVcQuiet
namespace Go.Vc
open Go Go.RowKit

section
variable {P : Program} {H : Hints} {n : Nat}

theorem run_asBool (b : Bool) (W : World) : (asBool (.bool b)).run P W = .ok b W := rfl

theorem run_pick {ρ : Operand → Value} {o : Oper} {c x y : Operand} {b : Bool} (ho : o.op = .pick c x y) (hc : ρ c = .bool b) (W : World) :
    (execOp ρ o).run P W = .ok (.value (if b = true then ρ x else ρ y)) W := by
  simp only [execOp, ho, hc]
  rw [run_bind_ok (run_asBool b W)]
  rfl

theorem evalQ_sound {dr : Bool} {i : Nat} {o : Oper} {k : St → Fm} {st : St} {a : Act} {W : World} (hns : ∀ cs b, o.op ≠ .select cs b) (hd : dstOk n o = true)
    (h : (evalQ P H dr i o k st).den) (hr : Rel n st a W) : QuietDone P n dr i o k st a W := by
  unfold evalQ at h
  split at h
  case h_1 x ho => exact copyF_sound hd h hr fun _ W' => by simp [execOp, ho, pure]
  case h_2 x ho => exact copyF_sound hd h hr fun _ W' => by simp [execOp, ho, pure]
  case h_3 c x y ho =>
    split at h
    · rename_i hc
      have hce : a.eval c = .bool true := by rw [hr.rho (x := c) (by rw [hc]; rfl), St.rho, hc]; rfl
      exact copyF_sound hd h hr fun _ W' => by rw [run_pick ho hce]; rfl
    · rename_i hc
      have hce : a.eval c = .bool false := by rw [hr.rho (x := c) (by rw [hc]; rfl), St.rho, hc]; rfl
      exact copyF_sound hd h hr fun _ W' => by rw [run_pick ho hce]; rfl
    · rename_i c' hc
      have hce : a.eval c = .bool c' := by rw [hr.rho (x := c) (by rw [hc]; rfl), St.rho, hc]; rfl
      split at h
      · rename_i bx b_y hx hy
        have hxe : a.eval x = .bool bx := by rw [hr.rho (boolOf_spec (gs := st.gs) hx).1]; exact (boolOf_spec hx).2
        have hye : a.eval y = .bool b_y := by rw [hr.rho (boolOf_spec (gs := st.gs) hy).1]; exact (boolOf_spec hy).2
        refine ⟨_, .val _, .pure i, h, hr.set hd trivial fun _ => rfl, rfl, trivial, trivial, fun W' _ => ?_⟩
        rw [run_pick ho hce, hxe, hye]
        cases c' <;> rfl
      · exact h.elim
    · exact h.elim
  case h_4 x ho =>
    split at h
    · rename_i j off hx
      have hxe : a.eval x = .pointer (some ⟨st.gs.getD j 0, off, none⟩) := by rw [hr.rho (x := x) (by rw [hx]; rfl), St.rho, hx]; rfl
      refine ⟨_, .loc j off, .pure i, h, hr.set hd (by have := hr.slotOk x; rw [hx] at this; exact this) fun _ => rfl, rfl, trivial, trivial, fun W' _ => ?_⟩
      simp only [execOp, ho, hxe]
      rfl
    · rename_i v hx
      have hxe : a.eval x = v := by rw [hr.rho (x := x) (by rw [hx]; rfl), St.rho, hx]; rfl
      cases hop : hasO H.asks o.dst with
      | true =>
        rw [hop] at h
        simp only [cond_true] at h
        split at h
        · obtain ⟨ad, rfl, hk⟩ := h
          refine ⟨_, .val _, .pure i, hk, hr.set hd trivial fun _ => rfl, rfl, trivial, trivial, fun W' _ => ?_⟩
          simp only [execOp, ho, hxe]
          rfl
        · exact h.elim
      | false =>
        rw [hop] at h
        simp only [cond_false] at h
        split at h
        · rename_i u hp
          have hal : st.alive o = true := by
            simp only [St.alive, ho, Op.operands, List.all_eq_true]
            intro y hy
            simp only [List.mem_singleton] at hy
            subst hy
            rw [hx]; rfl
          refine ⟨u, .val u, .pure i, h, hr.set hd trivial fun _ => rfl, rfl, trivial, trivial, fun W' _ => ?_⟩
          rw [hr.exec hns hal]
          exact pureRun_run hp W'
        · exact h.elim
    · exact h.elim
  case h_5 t x ho =>
    split at h
    · rename_i j off hx
      split at h
      · rename_i cells ty g hb hg
        split at h
        · rename_i v hv
          have hgd : st.gs.getD j 0 = g := by simp [List.getD_eq_getElem?_getD, hg]
          have hxe : a.eval x = .pointer (some ⟨g, off, none⟩) := by rw [hr.rho (x := x) (by rw [hx]; rfl), St.rho, hx, ← hgd]; rfl
          refine ⟨v, .val v, .box i g cells ty, h, hr.set hd trivial fun _ => rfl, rfl, List.mem_of_getElem? hg, hr.box hb hg, fun W' hw => ?_⟩
          have := run_cellLoad (P := P) hw hv
          simp only [execOp, ho, hxe]
          exact run_valueS this
        · exact h.elim
      · exact h.elim
    · exact readF_sound hns hd h hr
  case h_6 s x f ho =>
    split at h
    · rename_i j off hx
      split at h
      · rename_i d hf
        have hxe : a.eval x = .pointer (some ⟨st.gs.getD j 0, off, none⟩) := by rw [hr.rho (x := x) (by rw [hx]; rfl), St.rho, hx]; rfl
        refine ⟨_, .loc j (off + d), .pure i, h, hr.set hd (by have := hr.slotOk x; rw [hx] at this; exact this) fun _ => rfl, rfl, trivial, trivial, fun W' _ => ?_⟩
        have := fieldOff_spec (ad := ⟨st.gs.getD j 0, off, none⟩) hf W'
        rw [addr_add] at this
        simp only [execOp, ho, hxe]
        exact run_valueS this
      · exact h.elim
    · exact pureF_sound hns hd h hr
  case h_7 t x ix ho =>
    split at h
    · rename_i j off hx
      split at h
      · rename_i d hf
        cases hal : (st.slot ix).alive with
        | false => rw [hal] at h; exact h.elim
        | true =>
          rw [hal] at h
          have hxe : a.eval x = .pointer (some ⟨st.gs.getD j 0, off, none⟩) := by rw [hr.rho (x := x) (by rw [hx]; rfl), St.rho, hx]; rfl
          have hie : a.eval ix = st.rho ix := hr.rho hal
          refine ⟨_, .loc j (off + d), .pure i, h, hr.set hd (by have := hr.slotOk x; rw [hx] at this; exact this) fun _ => rfl, rfl, trivial, trivial, fun W' _ => ?_⟩
          have := arrOff_spec (ad := ⟨st.gs.getD j 0, off, none⟩) hf W'
          rw [addr_add] at this
          simp only [execOp, ho, hxe, hie]
          exact run_valueS this
      · exact h.elim
    · exact pureF_sound hns hd h hr
  case h_8 =>
    cases hrd : isRead P o with
    | true => rw [hrd] at h; exact readF_sound hns hd h hr
    | false => rw [hrd] at h; exact pureF_sound hns hd h hr
end
end Go.Vc
