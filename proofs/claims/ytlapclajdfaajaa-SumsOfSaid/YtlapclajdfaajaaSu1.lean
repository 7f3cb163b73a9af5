/- Own text of this claim: Su1. -/
import Derived.Test.YtlapclajdfaajaaFbu
import Derived.Test.YtlapclajdfaajaaSb4
set_option maxRecDepth 20000
namespace Go.Vc.B
open Go Go.Vc Go.RowKit Go.Proofs Vcb Vcbu

abbrev arrV (a b c d : Int) : Value := .agg #[.int .i64 a, .int .i64 b, .int .i64 c, .int .i64 d]
def sumR (a b c d : Int) : Prop := (0 ≤ a ∧ a ≤ 1152921504606846976) ∧ (0 ≤ b ∧ b ≤ 1152921504606846976) ∧ (0 ≤ c ∧ c ≤ 1152921504606846976) ∧ (0 ≤ d ∧ d ≤ 1152921504606846976)
instance (a b c d : Int) : Decidable (sumR a b c d) := by unfold sumR; infer_instance
def sumH (a0 a1 a2 a3 b0 b1 b2 b3 : Int) : Prop := (b0 ≤ a0 ∧ b1 ≤ a1 ∧ b2 ≤ a2 ∧ b3 ≤ a3) ∧ sumR a0 a1 a2 a3 ∧ sumR b0 b1 b2 b3
instance (a0 a1 a2 a3 b0 b1 b2 b3 : Int) : Decidable (sumH a0 a1 a2 a3 b0 b1 b2 b3) := by unfold sumH; infer_instance
abbrev pairA (a b c d : Int) (o : Bool) : Value := .tuple #[arrV a b c d, .bool o]
def sumA (a0 a1 a2 a3 b0 b1 b2 b3 : Int) : Value := if sumR a0 a1 a2 a3 ∧ sumR b0 b1 b2 b3 ∧ sumR (a0 + b0) (a1 + b1) (a2 + b2) (a3 + b3) then pairA (a0 + b0) (a1 + b1) (a2 + b2) (a3 + b3) true else pairA 0 0 0 0 false
def sumS (a0 a1 a2 a3 b0 b1 b2 b3 : Int) : Value := if sumH a0 a1 a2 a3 b0 b1 b2 b3 then pairA (a0 - b0) (a1 - b1) (a2 - b2) (a3 - b3) true else pairA 0 0 0 0 false

theorem c25 (a b c d : Int) (w : World) : Ret Try.prog 25 #[arrV a b c d] w (.bool (decide (sumR a b c d))) := by
  intro R h
  refine f25_calls a b c d w R ?_
  unfold f25_vc
  have hA := At.refl w
  refine go_n hA fun n1 h_n1 => ?_
  have no : ¬ sumR a b c d → ∀ W, At w [n1] W → R (.returned (.bool false)) W := fun hn W hA => leaf h hA (by rw [decide_eq_false hn])
  unfold sumR at no
  refine brD (fun h1 => go_below hA fun _ hA => no (by omega) _ hA) (fun h1 => ?_)
  refine brD (fun h2 => go_below hA fun _ hA => no (by omega) _ hA) (fun h2 => ?_)
  refine brD (fun h3 => go_below hA fun _ hA => no (by omega) _ hA) (fun h3 => ?_)
  refine brD (fun h4 => go_below hA fun _ hA => no (by omega) _ hA) (fun h4 => ?_)
  refine brD (fun h5 => go_below hA fun _ hA => no (by omega) _ hA) (fun h5 => ?_)
  refine brD (fun h6 => go_below hA fun _ hA => no (by omega) _ hA) (fun h6 => ?_)
  refine brD (fun h7 => go_below hA fun _ hA => no (by omega) _ hA) (fun h7 => ?_)
  refine brD (fun h8 => go_below hA fun _ hA => no (by omega) _ hA) (fun h8 => ?_)
  refine go_below hA fun _ hA => ?_
  exact leaf h hA (by rw [decide_eq_true (show sumR a b c d by unfold sumR; omega)])

theorem c32 (a b c d : Int) (w : World) : Ret Try.prog 32 #[arrV a b c d] w (.bool (decide (sumR a b c d))) := by
  intro R h
  refine f32_calls a b c d w R ?_
  unfold f32_vc
  have hA := At.refl w
  refine go_n hA fun n1 h_n1 => ?_
  have no : ¬ sumR a b c d → ∀ W, At w [n1] W → R (.returned (.bool false)) W := fun hn W hA => leaf h hA (by rw [decide_eq_false hn])
  unfold sumR at no
  refine brD (fun h1 => go_below hA fun _ hA => no (by omega) _ hA) (fun h1 => ?_)
  refine brD (fun h2 => go_below hA fun _ hA => no (by omega) _ hA) (fun h2 => ?_)
  refine brD (fun h3 => go_below hA fun _ hA => no (by omega) _ hA) (fun h3 => ?_)
  refine brD (fun h4 => go_below hA fun _ hA => no (by omega) _ hA) (fun h4 => ?_)
  refine brD (fun h5 => go_below hA fun _ hA => no (by omega) _ hA) (fun h5 => ?_)
  refine brD (fun h6 => go_below hA fun _ hA => no (by omega) _ hA) (fun h6 => ?_)
  refine brD (fun h7 => go_below hA fun _ hA => no (by omega) _ hA) (fun h7 => ?_)
  refine brD (fun h8 => go_below hA fun _ hA => no (by omega) _ hA) (fun h8 => ?_)
  refine go_below hA fun _ hA => ?_
  exact leaf h hA (by rw [decide_eq_true (show sumR a b c d by unfold sumR; omega)])

theorem c26 (a0 a1 a2 a3 b0 b1 b2 b3 : Int) (w : World) : Ret Try.prog 26 #[arrV a0 a1 a2 a3, arrV b0 b1 b2 b3] w (.bool (decide (sumH a0 a1 a2 a3 b0 b1 b2 b3))) := by
  intro R h
  refine f26_calls a0 a1 a2 a3 b0 b1 b2 b3 w R ?_
  unfold f26_vc
  have hA := At.refl w
  refine go_n hA fun n1 h_n1 => ?_
  refine go_n hA fun n2 h_n2 => ?_
  have no : ¬ sumH a0 a1 a2 a3 b0 b1 b2 b3 → ∀ W, At w [n1, n2] W → R (.returned (.bool false)) W := fun hn W hA => leaf h hA (by rw [decide_eq_false hn])
  refine brD (fun h1 => go_below hA fun _ hA => no (fun hh => by have := hh.1; omega) _ hA) (fun h1 => ?_)
  refine brD (fun h2 => go_below hA fun _ hA => no (fun hh => by have := hh.1; omega) _ hA) (fun h2 => ?_)
  refine brD (fun h3 => go_below hA fun _ hA => no (fun hh => by have := hh.1; omega) _ hA) (fun h3 => ?_)
  refine brD (fun h4 => go_below hA fun _ hA => no (fun hh => by have := hh.1; omega) _ hA) (fun h4 => ?_)
  refine go_below hA fun _ hA => ?_
  refine at_call hA (c25 _ _ _ _ _) (fun _ hA hk => ⟨_, rfl, hk, ?_⟩)
  refine brD (fun ha => ?_) (fun ha => no (fun hh => ha hh.2.1) _ hA)
  refine at_call hA (c25 _ _ _ _ _) (fun _ hA hk => ⟨_, rfl, hk, ?_⟩)
  refine leaf h hA ?_
  rw [show decide (sumH a0 a1 a2 a3 b0 b1 b2 b3) = decide (sumR b0 b1 b2 b3) from decide_eq_decide.2 ⟨fun hh => hh.2.2, fun hh => ⟨by omega, ha, hh⟩⟩]

theorem c31 (a0 a1 a2 a3 b0 b1 b2 b3 : Int) (w : World) : Ret Try.prog 31 #[arrV a0 a1 a2 a3, arrV b0 b1 b2 b3] w (.bool (decide (sumH a0 a1 a2 a3 b0 b1 b2 b3))) := by
  intro R h
  refine f31_calls a0 a1 a2 a3 b0 b1 b2 b3 w R ?_
  unfold f31_vc
  have hA := At.refl w
  refine go_n hA fun n1 h_n1 => ?_
  refine go_n hA fun n2 h_n2 => ?_
  have no : ¬ sumH a0 a1 a2 a3 b0 b1 b2 b3 → ∀ W, At w [n1, n2] W → R (.returned (.bool false)) W := fun hn W hA => leaf h hA (by rw [decide_eq_false hn])
  refine brD (fun h1 => go_below hA fun _ hA => no (fun hh => by have := hh.1; omega) _ hA) (fun h1 => ?_)
  refine brD (fun h2 => go_below hA fun _ hA => no (fun hh => by have := hh.1; omega) _ hA) (fun h2 => ?_)
  refine brD (fun h3 => go_below hA fun _ hA => no (fun hh => by have := hh.1; omega) _ hA) (fun h3 => ?_)
  refine brD (fun h4 => go_below hA fun _ hA => no (fun hh => by have := hh.1; omega) _ hA) (fun h4 => ?_)
  refine go_below hA fun _ hA => ?_
  refine at_call hA (c32 _ _ _ _ _) (fun _ hA hk => ⟨_, rfl, hk, ?_⟩)
  refine brD (fun ha => ?_) (fun ha => no (fun hh => ha hh.2.1) _ hA)
  refine at_call hA (c32 _ _ _ _ _) (fun _ hA hk => ⟨_, rfl, hk, ?_⟩)
  refine leaf h hA ?_
  rw [show decide (sumH a0 a1 a2 a3 b0 b1 b2 b3) = decide (sumR b0 b1 b2 b3) from decide_eq_decide.2 ⟨fun hh => hh.2.2, fun hh => ⟨by omega, ha, hh⟩⟩]

theorem c27 (a0 a1 a2 a3 b0 b1 b2 b3 : Int) (w : World) : Ret Try.prog 27 #[arrV a0 a1 a2 a3, arrV b0 b1 b2 b3] w (sumA a0 a1 a2 a3 b0 b1 b2 b3) := by
  intro R h
  refine f27_calls a0 a1 a2 a3 b0 b1 b2 b3 w R ?_
  unfold f27_vc
  have hA := At.refl w
  refine go_n hA fun n1 h_n1 => ?_
  refine go_n hA fun n2 h_n2 => ?_
  refine go_n hA fun n3 h_n3 => ?_
  refine go_below hA fun _ hA => ?_
  refine at_call hA (c25 _ _ _ _ _) (fun _ hA hk => ⟨_, rfl, hk, ?_⟩)
  refine brND (fun hr => go_evo hA (by intro d hd; simp at hd; omega) fun _ hA => leaf h hA (by rw [sumA, if_neg (fun hh => hr hh.1)])) (fun ha => ?_)
  refine at_call hA (c25 _ _ _ _ _) (fun _ hA hk => ⟨_, rfl, hk, ?_⟩)
  refine brND (fun hr => go_evo hA (by intro d hd; simp at hd; omega) fun _ hA => leaf h hA (by rw [sumA, if_neg (fun hh => hr hh.2.1)])) (fun hb => ?_)
  have ha' := ha
  have hb' := hb
  unfold sumR at ha' hb'
  rw [wrap_i64 (x := a0 + b0) (by omega) (by omega), wrap_i64 (x := a1 + b1) (by omega) (by omega), wrap_i64 (x := a2 + b2) (by omega) (by omega), wrap_i64 (x := a3 + b3) (by omega) (by omega)]
  refine go_evo hA (by intro d hd; simp at hd; omega) fun _ hA => ?_
  refine at_call hA (c25 _ _ _ _ _) (fun _ hA hk => ⟨_, rfl, hk, ?_⟩)
  exact brND (fun hr => go_evo hA (by intro d hd; simp at hd; omega) fun _ hA => leaf h hA (by rw [sumA, if_neg (fun hh => hr hh.2.2)])) (fun hc => go_evo hA (by intro d hd; simp at hd; omega) fun _ hA => leaf h hA (by rw [sumA, if_pos ⟨ha, hb, hc⟩]))

theorem c28 (a0 a1 a2 a3 b0 b1 b2 b3 : Int) (w : World) : Ret Try.prog 28 #[arrV a0 a1 a2 a3, arrV b0 b1 b2 b3] w (sumA a0 a1 a2 a3 b0 b1 b2 b3) := by
  intro R h
  refine f28_calls a0 a1 a2 a3 b0 b1 b2 b3 w R ?_
  unfold f28_vc
  have hA := At.refl w
  refine go_n hA fun n1 h_n1 => ?_
  refine go_n hA fun n2 h_n2 => ?_
  refine go_n hA fun n3 h_n3 => ?_
  refine go_n hA fun n4 h_n4 => ?_
  refine go_below hA fun _ hA => ?_
  refine at_call hA (c32 _ _ _ _ _) (fun _ hA hk => ⟨_, rfl, hk, ?_⟩)
  refine brND (fun hr => go_evo hA (by intro d hd; simp at hd; omega) fun _ hA => leaf h hA (by rw [sumA, if_neg (fun hh => hr hh.1)])) (fun ha => ?_)
  refine at_call hA (c32 _ _ _ _ _) (fun _ hA hk => ⟨_, rfl, hk, ?_⟩)
  refine brND (fun hr => go_evo hA (by intro d hd; simp at hd; omega) fun _ hA => leaf h hA (by rw [sumA, if_neg (fun hh => hr hh.2.1)])) (fun hb => ?_)
  have ha' := ha
  have hb' := hb
  unfold sumR at ha' hb'
  rw [wrap_i64 (x := a0 + b0) (by omega) (by omega), wrap_i64 (x := a1 + b1) (by omega) (by omega), wrap_i64 (x := a2 + b2) (by omega) (by omega), wrap_i64 (x := a3 + b3) (by omega) (by omega)]
  refine go_evo hA (by intro d hd; simp at hd; omega) fun _ hA => ?_
  refine at_call hA (c32 _ _ _ _ _) (fun _ hA hk => ⟨_, rfl, hk, ?_⟩)
  exact brND (fun hr => go_evo hA (by intro d hd; simp at hd; omega) fun _ hA => leaf h hA (by rw [sumA, if_neg (fun hh => hr hh.2.2)])) (fun hc => go_evo hA (by intro d hd; simp at hd; omega) fun _ hA => leaf h hA (by rw [sumA, if_pos ⟨ha, hb, hc⟩]))

theorem c29 (a0 a1 a2 a3 b0 b1 b2 b3 : Int) (w : World) : Ret Try.prog 29 #[arrV a0 a1 a2 a3, arrV b0 b1 b2 b3] w (sumS a0 a1 a2 a3 b0 b1 b2 b3) := by
  intro R h
  refine f29_calls a0 a1 a2 a3 b0 b1 b2 b3 w R ?_
  unfold f29_vc
  have hA := At.refl w
  refine go_n hA fun n1 h_n1 => ?_
  refine go_n hA fun n2 h_n2 => ?_
  refine go_n hA fun n3 h_n3 => ?_
  refine go_below hA fun _ hA => ?_
  refine at_call hA (c26 _ _ _ _ _ _ _ _ _) (fun _ hA hk => ⟨_, rfl, hk, ?_⟩)
  refine brND (fun hr => go_evo hA (by intro d hd; simp at hd; omega) fun _ hA => leaf h hA (by rw [sumS, if_neg hr])) (fun ha => ?_)
  have ha' := ha
  unfold sumH sumR at ha'
  rw [wrap_i64 (x := a0 - b0) (by omega) (by omega), wrap_i64 (x := a1 - b1) (by omega) (by omega), wrap_i64 (x := a2 - b2) (by omega) (by omega), wrap_i64 (x := a3 - b3) (by omega) (by omega)]
  refine go_evo hA (by intro d hd; simp at hd; omega) fun _ hA => ?_
  exact leaf h hA (by rw [sumS, if_pos ha])

theorem c30 (a0 a1 a2 a3 b0 b1 b2 b3 : Int) (w : World) : Ret Try.prog 30 #[arrV a0 a1 a2 a3, arrV b0 b1 b2 b3] w (sumS a0 a1 a2 a3 b0 b1 b2 b3) := by
  intro R h
  refine f30_calls a0 a1 a2 a3 b0 b1 b2 b3 w R ?_
  unfold f30_vc
  have hA := At.refl w
  refine go_n hA fun n1 h_n1 => ?_
  refine go_n hA fun n2 h_n2 => ?_
  refine go_n hA fun n3 h_n3 => ?_
  refine go_n hA fun n4 h_n4 => ?_
  refine go_below hA fun _ hA => ?_
  refine at_call hA (c31 _ _ _ _ _ _ _ _ _) (fun _ hA hk => ⟨_, rfl, hk, ?_⟩)
  refine brND (fun hr => go_evo hA (by intro d hd; simp at hd; omega) fun _ hA => leaf h hA (by rw [sumS, if_neg hr])) (fun ha => ?_)
  have ha' := ha
  unfold sumH sumR at ha'
  rw [wrap_i64 (x := a0 - b0) (by omega) (by omega), wrap_i64 (x := a1 - b1) (by omega) (by omega), wrap_i64 (x := a2 - b2) (by omega) (by omega), wrap_i64 (x := a3 - b3) (by omega) (by omega)]
  refine go_evo hA (by intro d hd; simp at hd; omega) fun _ hA => ?_
  exact leaf h hA (by rw [sumS, if_pos ha])

/-- A step of the search for the greatest part. -/
noncomputable def dstep (s : Int × Int × Int) (k a t : Int) : Int × Int × Int := if t > 0 ∧ (s.1 = -1 ∨ frCmp a t s.2.1 s.2.2 > 0) then (k, a, t) else s
noncomputable def dom (a0 a1 a2 a3 t0 t1 t2 t3 : Int) : Int × Int × Int := if sumR a0 a1 a2 a3 ∧ sumR t0 t1 t2 t3 then dstep (dstep (dstep (dstep (-1, 0, 1) 0 a0 t0) 1 a1 t1) 2 a2 t2) 3 a3 t3 else (-1, 0, 1)
abbrev domV (s : Int × Int × Int) : Value := .tuple #[.int .i64 s.1, .agg #[.int .i64 s.2.1, .int .i64 s.2.2]]
/-- Its bounds. -/
def dok (s : Int × Int × Int) : Prop := (-1 ≤ s.1 ∧ s.1 ≤ 3) ∧ (0 ≤ s.2.1 ∧ s.2.1 ≤ 1152921504606846976) ∧ (1 ≤ s.2.2 ∧ s.2.2 ≤ 1152921504606846976)
theorem dok_step {s : Int × Int × Int} {k a t : Int} (h : dok s) (hk : 0 ≤ k ∧ k ≤ 3) (ha : 0 ≤ a ∧ a ≤ 1152921504606846976) (ht : 0 ≤ t ∧ t ≤ 1152921504606846976) : dok (dstep s k a t) := by
  unfold dstep
  split
  · rename_i hc
    exact ⟨by simp only; omega, by simp only; omega, by simp only; omega⟩
  · exact h
theorem dom_ok (a0 a1 a2 a3 t0 t1 t2 t3 : Int) : dok (dom a0 a1 a2 a3 t0 t1 t2 t3) := by
  have h0 : dok (-1, 0, 1) := ⟨by decide, by decide, by decide⟩
  unfold dom
  split
  · rename_i hr
    obtain ⟨⟨p0, p1, p2, p3⟩, q0, q1, q2, q3⟩ := hr
    exact dok_step (dok_step (dok_step (dok_step h0 (by omega) p0 q0) (by omega) p1 q1) (by omega) p2 q2) (by omega) p3 q3
  · exact h0

theorem c22 (a0 a1 a2 a3 t0 t1 t2 t3 : Int) (w : World) : Ret Try.prog 22 #[arrV a0 a1 a2 a3, arrV t0 t1 t2 t3] w (domV (dom a0 a1 a2 a3 t0 t1 t2 t3)) := by
  intro R h
  refine f22_calls a0 a1 a2 a3 t0 t1 t2 t3 w R ?_
  unfold f22_vc
  have hA := At.refl w
  refine go_n hA fun n1 h_n1 => ?_
  refine go_n hA fun n2 h_n2 => ?_
  refine go_n hA fun n3 h_n3 => ?_
  refine go_n hA fun n4 h_n4 => ?_
  refine go_evo hA (by intro d hd; simp at hd; omega) fun _ hA => ?_
  refine at_call hA (c25 _ _ _ _ _) (fun _ hA hk => ⟨_, rfl, hk, ?_⟩)
  refine brND (fun hr => go_evo hA (by intro d hd; simp at hd; omega) fun _ hA => leaf h hA (by rw [dom, if_neg (fun hh => hr hh.1)])) (fun ha => ?_)
  refine at_call hA (c25 _ _ _ _ _) (fun _ hA hk => ⟨_, rfl, hk, ?_⟩)
  refine brND (fun hr => go_evo hA (by intro d hd; simp at hd; omega) fun _ hA => leaf h hA (by rw [dom, if_neg (fun hh => hr hh.2)])) (fun ht => ?_)
  rw [dom, if_pos ⟨ha, ht⟩] at h
  obtain ⟨p0, p1, p2, p3⟩ := ha
  obtain ⟨q0, q1, q2, q3⟩ := ht
  have k0 : dok (-1, 0, 1) := ⟨by decide, by decide, by decide⟩
  have k1 : dok (dstep ((-1, 0, 1)) 0 a0 t0) := dok_step k0 (by omega) p0 q0
  refine ⟨fun s W => At w [n1, n2, n3, n4] W ∧ (s.1, s.2.1, s.2.2.1) = dstep ((-1, 0, 1)) 0 a0 t0, ?_, ?_⟩
  · refine go_n hA fun m h_m => ?_
    refine brD (fun hp => ⟨fun _ => go_evo hA (by intro d hd; simp at hd; omega) fun _ hA => ⟨⟨hA.below, fun g hg => hA.under g (by simp at hg ⊢; omega)⟩, by rw [dstep, if_pos ⟨hp, .inl rfl⟩]⟩, fun hf => (by cases hf)⟩) (fun hp => go_evo hA (by intro d hd; simp at hd; omega) fun _ hA => ⟨⟨hA.below, fun g hg => hA.under g (by simp at hg ⊢; omega)⟩, by rw [dstep, if_neg (fun hh => hp hh.1)]⟩)
  intro x0 y0 z0 W0 ⟨hA, hs⟩
  simp only at hs
  have k2 : dok (dstep (dstep ((-1, 0, 1)) 0 a0 t0) 1 a1 t1) := dok_step k1 (by omega) p1 q1
  refine ⟨fun s W => At w [n1, n2, n3, n4] W ∧ (s.1, s.2.1, s.2.2.1) = dstep (dstep ((-1, 0, 1)) 0 a0 t0) 1 a1 t1, ?_, ?_⟩
  · refine go_n hA fun m h_m => ?_
    refine brD (fun hp => ?_) (fun hp => go_evo hA (by intro d hd; simp at hd; omega) fun _ hA => ⟨⟨hA.below, fun g hg => hA.under g (by simp at hg ⊢; omega)⟩, by rw [dstep, if_neg (fun hh => hp hh.1), ← hs]⟩)
    have k := k1
    rw [← hs] at k
    simp only [dok] at k
    refine brE (fun hn => go_evo hA (by intro d hd; simp at hd; omega) fun _ hA => ⟨⟨hA.below, fun g hg => hA.under g (by simp at hg ⊢; omega)⟩, by rw [← hs, dstep, if_pos ⟨hp, .inl (by simp only; omega)⟩]⟩) (fun hn => ?_)
    refine go_evo hA (by intro d hd; simp at hd; omega) fun _ hA => ?_
    refine at_call hA (c19 _ _ _ _ ⟨by omega, by omega⟩ ⟨by omega, by omega⟩ ⟨by omega, by omega⟩ ⟨by omega, by omega⟩ _) (fun _ hA hk => ⟨_, rfl, hk, ?_⟩)
    refine brD (fun hc => go_evo hA (by intro d hd; simp at hd; omega) fun _ hA => ⟨⟨hA.below, fun g hg => hA.under g (by simp at hg ⊢; omega)⟩, by rw [← hs, dstep, if_pos ⟨hp, .inr hc⟩]⟩) (fun hc => ⟨⟨hA.below, fun g hg => hA.under g (by simp at hg ⊢; omega)⟩, ?_⟩)
    rw [← hs, dstep, if_neg (fun hh => hh.2.elim (fun h1 => by simp only at h1; omega) hc)]
  intro x1 y1 z1 W1 ⟨hA, hs⟩
  simp only at hs
  have k3 : dok (dstep (dstep (dstep ((-1, 0, 1)) 0 a0 t0) 1 a1 t1) 2 a2 t2) := dok_step k2 (by omega) p2 q2
  refine ⟨fun s W => At w [n1, n2, n3, n4] W ∧ (s.1, s.2.1, s.2.2.1) = dstep (dstep (dstep ((-1, 0, 1)) 0 a0 t0) 1 a1 t1) 2 a2 t2, ?_, ?_⟩
  · refine go_n hA fun m h_m => ?_
    refine brD (fun hp => ?_) (fun hp => go_evo hA (by intro d hd; simp at hd; omega) fun _ hA => ⟨⟨hA.below, fun g hg => hA.under g (by simp at hg ⊢; omega)⟩, by rw [dstep, if_neg (fun hh => hp hh.1), ← hs]⟩)
    have k := k2
    rw [← hs] at k
    simp only [dok] at k
    refine brE (fun hn => go_evo hA (by intro d hd; simp at hd; omega) fun _ hA => ⟨⟨hA.below, fun g hg => hA.under g (by simp at hg ⊢; omega)⟩, by rw [← hs, dstep, if_pos ⟨hp, .inl (by simp only; omega)⟩]⟩) (fun hn => ?_)
    refine go_evo hA (by intro d hd; simp at hd; omega) fun _ hA => ?_
    refine at_call hA (c19 _ _ _ _ ⟨by omega, by omega⟩ ⟨by omega, by omega⟩ ⟨by omega, by omega⟩ ⟨by omega, by omega⟩ _) (fun _ hA hk => ⟨_, rfl, hk, ?_⟩)
    refine brD (fun hc => go_evo hA (by intro d hd; simp at hd; omega) fun _ hA => ⟨⟨hA.below, fun g hg => hA.under g (by simp at hg ⊢; omega)⟩, by rw [← hs, dstep, if_pos ⟨hp, .inr hc⟩]⟩) (fun hc => ⟨⟨hA.below, fun g hg => hA.under g (by simp at hg ⊢; omega)⟩, ?_⟩)
    rw [← hs, dstep, if_neg (fun hh => hh.2.elim (fun h1 => by simp only at h1; omega) hc)]
  intro x2 y2 z2 W2 ⟨hA, hs⟩
  simp only at hs
  have k4 : dok (dstep (dstep (dstep (dstep ((-1, 0, 1)) 0 a0 t0) 1 a1 t1) 2 a2 t2) 3 a3 t3) := dok_step k3 (by omega) p3 q3
  refine ⟨fun s W => At w [n1, n2, n3, n4] W ∧ (s.1, s.2.1, s.2.2.1) = dstep (dstep (dstep (dstep ((-1, 0, 1)) 0 a0 t0) 1 a1 t1) 2 a2 t2) 3 a3 t3, ?_, ?_⟩
  · refine go_n hA fun m h_m => ?_
    refine brD (fun hp => ?_) (fun hp => go_evo hA (by intro d hd; simp at hd; omega) fun _ hA => ⟨⟨hA.below, fun g hg => hA.under g (by simp at hg ⊢; omega)⟩, by rw [dstep, if_neg (fun hh => hp hh.1), ← hs]⟩)
    have k := k3
    rw [← hs] at k
    simp only [dok] at k
    refine brE (fun hn => go_evo hA (by intro d hd; simp at hd; omega) fun _ hA => ⟨⟨hA.below, fun g hg => hA.under g (by simp at hg ⊢; omega)⟩, by rw [← hs, dstep, if_pos ⟨hp, .inl (by simp only; omega)⟩]⟩) (fun hn => ?_)
    refine go_evo hA (by intro d hd; simp at hd; omega) fun _ hA => ?_
    refine at_call hA (c19 _ _ _ _ ⟨by omega, by omega⟩ ⟨by omega, by omega⟩ ⟨by omega, by omega⟩ ⟨by omega, by omega⟩ _) (fun _ hA hk => ⟨_, rfl, hk, ?_⟩)
    refine brD (fun hc => go_evo hA (by intro d hd; simp at hd; omega) fun _ hA => ⟨⟨hA.below, fun g hg => hA.under g (by simp at hg ⊢; omega)⟩, by rw [← hs, dstep, if_pos ⟨hp, .inr hc⟩]⟩) (fun hc => ⟨⟨hA.below, fun g hg => hA.under g (by simp at hg ⊢; omega)⟩, ?_⟩)
    rw [← hs, dstep, if_neg (fun hh => hh.2.elim (fun h1 => by simp only at h1; omega) hc)]
  intro x3 y3 z3 W3 ⟨hA, hs⟩
  refine go_evo hA (by intro d hd; simp at hd; omega) fun _ hA => leaf h hA ?_
  rw [← hs]

theorem c21 (a0 a1 a2 a3 t0 t1 t2 t3 : Int) (w : World) : Ret Try.prog 21 #[arrV a0 a1 a2 a3, arrV t0 t1 t2 t3] w (domV (dom a0 a1 a2 a3 t0 t1 t2 t3)) := by
  intro R h
  refine f21_calls a0 a1 a2 a3 t0 t1 t2 t3 w R ?_
  unfold f21_vc
  have hA := At.refl w
  refine go_n hA fun n1 h_n1 => ?_
  refine go_n hA fun n2 h_n2 => ?_
  refine go_n hA fun n3 h_n3 => ?_
  refine go_n hA fun n4 h_n4 => ?_
  refine go_evo hA (by intro d hd; simp at hd; omega) fun _ hA => ?_
  refine at_call hA (c32 _ _ _ _ _) (fun _ hA hk => ⟨_, rfl, hk, ?_⟩)
  refine brND (fun hr => go_evo hA (by intro d hd; simp at hd; omega) fun _ hA => leaf h hA (by rw [dom, if_neg (fun hh => hr hh.1)])) (fun ha => ?_)
  refine at_call hA (c32 _ _ _ _ _) (fun _ hA hk => ⟨_, rfl, hk, ?_⟩)
  refine brND (fun hr => go_evo hA (by intro d hd; simp at hd; omega) fun _ hA => leaf h hA (by rw [dom, if_neg (fun hh => hr hh.2)])) (fun ht => ?_)
  rw [dom, if_pos ⟨ha, ht⟩] at h
  obtain ⟨p0, p1, p2, p3⟩ := ha
  obtain ⟨q0, q1, q2, q3⟩ := ht
  have k0 : dok (-1, 0, 1) := ⟨by decide, by decide, by decide⟩
  have k1 : dok (dstep ((-1, 0, 1)) 0 a0 t0) := dok_step k0 (by omega) p0 q0
  refine ⟨fun s W => At w [n1, n2, n3, n4] W ∧ (s.1, s.2.1, s.2.2.1) = dstep ((-1, 0, 1)) 0 a0 t0, ?_, ?_⟩
  · refine go_n hA fun m h_m => ?_
    refine brD (fun hp => ⟨fun _ => go_evo hA (by intro d hd; simp at hd; omega) fun _ hA => ⟨⟨hA.below, fun g hg => hA.under g (by simp at hg ⊢; omega)⟩, by rw [dstep, if_pos ⟨hp, .inl rfl⟩]⟩, fun hf => (by cases hf)⟩) (fun hp => go_evo hA (by intro d hd; simp at hd; omega) fun _ hA => ⟨⟨hA.below, fun g hg => hA.under g (by simp at hg ⊢; omega)⟩, by rw [dstep, if_neg (fun hh => hp hh.1)]⟩)
  intro x0 y0 z0 W0 ⟨hA, hs⟩
  simp only at hs
  have k2 : dok (dstep (dstep ((-1, 0, 1)) 0 a0 t0) 1 a1 t1) := dok_step k1 (by omega) p1 q1
  refine ⟨fun s W => At w [n1, n2, n3, n4] W ∧ (s.1, s.2.1, s.2.2.1) = dstep (dstep ((-1, 0, 1)) 0 a0 t0) 1 a1 t1, ?_, ?_⟩
  · refine go_n hA fun m h_m => ?_
    refine brD (fun hp => ?_) (fun hp => go_evo hA (by intro d hd; simp at hd; omega) fun _ hA => ⟨⟨hA.below, fun g hg => hA.under g (by simp at hg ⊢; omega)⟩, by rw [dstep, if_neg (fun hh => hp hh.1), ← hs]⟩)
    have k := k1
    rw [← hs] at k
    simp only [dok] at k
    refine brD (fun hn => go_evo hA (by intro d hd; simp at hd; omega) fun _ hA => ⟨⟨hA.below, fun g hg => hA.under g (by simp at hg ⊢; omega)⟩, by rw [← hs, dstep, if_pos ⟨hp, .inl (by simp only; omega)⟩]⟩) (fun hn => ?_)
    refine go_evo hA (by intro d hd; simp at hd; omega) fun _ hA => ?_
    refine at_call hA (c45 _ _ _ _ ⟨by omega, by omega⟩ ⟨by omega, by omega⟩ ⟨by omega, by omega⟩ ⟨by omega, by omega⟩ _) (fun _ hA hk => ⟨_, rfl, hk, ?_⟩)
    refine brD (fun hc => go_evo hA (by intro d hd; simp at hd; omega) fun _ hA => ⟨⟨hA.below, fun g hg => hA.under g (by simp at hg ⊢; omega)⟩, by rw [← hs, dstep, if_pos ⟨hp, .inr hc⟩]⟩) (fun hc => ⟨⟨hA.below, fun g hg => hA.under g (by simp at hg ⊢; omega)⟩, ?_⟩)
    rw [← hs, dstep, if_neg (fun hh => hh.2.elim (fun h1 => by simp only at h1; omega) hc)]
  intro x1 y1 z1 W1 ⟨hA, hs⟩
  simp only at hs
  have k3 : dok (dstep (dstep (dstep ((-1, 0, 1)) 0 a0 t0) 1 a1 t1) 2 a2 t2) := dok_step k2 (by omega) p2 q2
  refine ⟨fun s W => At w [n1, n2, n3, n4] W ∧ (s.1, s.2.1, s.2.2.1) = dstep (dstep (dstep ((-1, 0, 1)) 0 a0 t0) 1 a1 t1) 2 a2 t2, ?_, ?_⟩
  · refine go_n hA fun m h_m => ?_
    refine brD (fun hp => ?_) (fun hp => go_evo hA (by intro d hd; simp at hd; omega) fun _ hA => ⟨⟨hA.below, fun g hg => hA.under g (by simp at hg ⊢; omega)⟩, by rw [dstep, if_neg (fun hh => hp hh.1), ← hs]⟩)
    have k := k2
    rw [← hs] at k
    simp only [dok] at k
    refine brD (fun hn => go_evo hA (by intro d hd; simp at hd; omega) fun _ hA => ⟨⟨hA.below, fun g hg => hA.under g (by simp at hg ⊢; omega)⟩, by rw [← hs, dstep, if_pos ⟨hp, .inl (by simp only; omega)⟩]⟩) (fun hn => ?_)
    refine go_evo hA (by intro d hd; simp at hd; omega) fun _ hA => ?_
    refine at_call hA (c45 _ _ _ _ ⟨by omega, by omega⟩ ⟨by omega, by omega⟩ ⟨by omega, by omega⟩ ⟨by omega, by omega⟩ _) (fun _ hA hk => ⟨_, rfl, hk, ?_⟩)
    refine brD (fun hc => go_evo hA (by intro d hd; simp at hd; omega) fun _ hA => ⟨⟨hA.below, fun g hg => hA.under g (by simp at hg ⊢; omega)⟩, by rw [← hs, dstep, if_pos ⟨hp, .inr hc⟩]⟩) (fun hc => ⟨⟨hA.below, fun g hg => hA.under g (by simp at hg ⊢; omega)⟩, ?_⟩)
    rw [← hs, dstep, if_neg (fun hh => hh.2.elim (fun h1 => by simp only at h1; omega) hc)]
  intro x2 y2 z2 W2 ⟨hA, hs⟩
  simp only at hs
  have k4 : dok (dstep (dstep (dstep (dstep ((-1, 0, 1)) 0 a0 t0) 1 a1 t1) 2 a2 t2) 3 a3 t3) := dok_step k3 (by omega) p3 q3
  refine ⟨fun s W => At w [n1, n2, n3, n4] W ∧ (s.1, s.2.1, s.2.2.1) = dstep (dstep (dstep (dstep ((-1, 0, 1)) 0 a0 t0) 1 a1 t1) 2 a2 t2) 3 a3 t3, ?_, ?_⟩
  · refine go_n hA fun m h_m => ?_
    refine brD (fun hp => ?_) (fun hp => go_evo hA (by intro d hd; simp at hd; omega) fun _ hA => ⟨⟨hA.below, fun g hg => hA.under g (by simp at hg ⊢; omega)⟩, by rw [dstep, if_neg (fun hh => hp hh.1), ← hs]⟩)
    have k := k3
    rw [← hs] at k
    simp only [dok] at k
    refine brD (fun hn => go_evo hA (by intro d hd; simp at hd; omega) fun _ hA => ⟨⟨hA.below, fun g hg => hA.under g (by simp at hg ⊢; omega)⟩, by rw [← hs, dstep, if_pos ⟨hp, .inl (by simp only; omega)⟩]⟩) (fun hn => ?_)
    refine go_evo hA (by intro d hd; simp at hd; omega) fun _ hA => ?_
    refine at_call hA (c45 _ _ _ _ ⟨by omega, by omega⟩ ⟨by omega, by omega⟩ ⟨by omega, by omega⟩ ⟨by omega, by omega⟩ _) (fun _ hA hk => ⟨_, rfl, hk, ?_⟩)
    refine brD (fun hc => go_evo hA (by intro d hd; simp at hd; omega) fun _ hA => ⟨⟨hA.below, fun g hg => hA.under g (by simp at hg ⊢; omega)⟩, by rw [← hs, dstep, if_pos ⟨hp, .inr hc⟩]⟩) (fun hc => ⟨⟨hA.below, fun g hg => hA.under g (by simp at hg ⊢; omega)⟩, ?_⟩)
    rw [← hs, dstep, if_neg (fun hh => hh.2.elim (fun h1 => by simp only at h1; omega) hc)]
  intro x3 y3 z3 W3 ⟨hA, hs⟩
  refine go_evo hA (by intro d hd; simp at hd; omega) fun _ hA => leaf h hA ?_
  rw [← hs]

end Go.Vc.B
