/- A region whose order the tape draws: operations that only read are taken first, each under a promise of its own, and what changes the world keeps the promises of those that need not have come before it. -/
import Derived.OrdersHeld
import Derived.Below
namespace Go.Vc
open Go

section
variable {P : Program} {ops : Array Oper} {Q : Exit → Act → World → Prop} {md : Region.Mode}

/-- Does operation j wait for operation i, directly? -/
def waits (md : Region.Mode) (ops : Array Oper) (i j : Nat) : Bool :=
  match ops[j]? with
  | some o => o.after.any fun e => Region.binds md e && e.on == i
  | none => false

theorem not_waits {i j : Nat} {oj : Oper} (hj : ops[j]? = some oj) (h : ∀ e ∈ oj.after, Region.binds md e = true → e.on ≠ i) : waits md ops i j = false := by
  unfold waits
  simp only [hj]
  rw [Bool.eq_false_iff]
  intro hany
  obtain ⟨e, he, hb⟩ := Array.any_eq_true'.1 hany
  simp only [Bool.and_eq_true, beq_iff_eq] at hb
  exact h e he hb.1 hb.2

abbrev Prom := List (Nat × (World → Prop))

def keepsProm (md : Region.Mode) (ops : Array Oper) (pr : Prom) (j : Nat) (w : World) : Prop :=
  ∀ p ∈ pr, waits md ops p.1 j = false → p.2 w

def dropProm (md : Region.Mode) (ops : Array Oper) (pr : Prom) (j : Nat) : Prom :=
  pr.filter fun p => !waits md ops p.1 j

/-- Whatever order is picked from here on; behind every operation the promises hold of those that it does not wait for. -/
def wpV (P : Program) (md : Region.Mode) (ops : Array Oper) (Q : Exit → Act → World → Prop) : Nat → Array Bool → Prom → Act → World → Prop
  | 0, listed, _, a, w => Region.ready md ops listed = [] ∧ Q .normal a w
  | fuel + 1, listed, pr, a, w =>
    (Region.ready md ops listed = [] → Q .normal a w) ∧
    ∀ j ∈ Region.ready md ops listed, wpOp P ops Q j (fun a' w' => keepsProm md ops pr j w' ∧ wpV P md ops Q fuel (listed.setIfInBounds j true) (dropProm md ops pr j) a' w') a w

theorem wpAny_of_wpV : ∀ (fuel : Nat) (listed : Array Bool) (pr : Prom) (a : Act) (w : World), wpV P md ops Q fuel listed pr a w → wpAny P md ops Q fuel listed a w
  | 0, _, _, _, _, h => h
  | fuel + 1, _, _, _, _, h => ⟨h.1, fun i hi => wpOp_mono (fun a' w' h' => wpAny_of_wpV fuel _ _ a' w' h'.2) (h.2 i hi)⟩

theorem wpV_mono : ∀ (fuel : Nat) (listed : Array Bool) (pr pr' : Prom) (a : Act) (w : World), (∀ p ∈ pr, p ∈ pr') → wpV P md ops Q fuel listed pr' a w → wpV P md ops Q fuel listed pr a w
  | 0, _, _, _, _, _, _, h => h
  | fuel + 1, _, pr, pr', _, _, hs, h => ⟨h.1, fun j hj => wpOp_mono (fun a' w' h' =>
      ⟨fun p hp hw => h'.1 p (hs p hp) hw, wpV_mono fuel _ _ _ a' w' (fun p hp => by
        simp only [dropProm, List.mem_filter] at hp ⊢
        exact ⟨hs p hp.1, hp.2⟩) h'.2⟩) (h.2 j hj)⟩

/-- An operation that may come up now, and yields its value in every world that meets S, may be taken first: S is promised from here on. -/
theorem wpV_first {S : World → Prop} {i : Nat} {oi : Oper} {v : Value} (hi : ops[i]? = some oi) (hsel : ∀ (j : Nat) (o : Oper) cs b, ops[j]? = some o → o.op ≠ .select cs b)
    (hQ : ∀ c a w, Q (.panic c) (a.put oi.dst v) w → Q (.panic c) a w) :
    ∀ (fuel : Nat) (listed : Array Bool) (pr : Prom) (a : Act) (w : World),
      (∀ j oj, ops[j]? = some oj → j ≠ i → listed.getD j true = false → (∀ e ∈ oj.after, Region.binds md e = true → e.on ≠ i) → oi.apart ops oj = true) →
      i ∈ Region.ready md ops listed → YieldsIf P ops S oi v a → S w → (∀ p ∈ pr, p.2 w) →
      wpV P md ops Q fuel (listed.setIfInBounds i true) ((i, S) :: pr) (a.put oi.dst v) w → wpV P md ops Q (fuel + 1) listed pr a w := by
  intro fuel
  induction fuel with
  | zero =>
    intro listed pr a w _ hr hy hS hpr H
    refine ⟨fun h => (by rw [h] at hr; cases hr), fun j hj => ?_⟩
    by_cases hji : j = i
    · subst hji; exact hy.wpOp hi hS ⟨fun p hp _ => hpr p hp, H⟩
    · have := ready_mono hj hji
      rw [H.1] at this
      cases this
  | succ fuel ih =>
    intro listed pr a w hfree hr hy hS hpr H
    refine ⟨fun h => (by rw [h] at hr; cases hr), fun j hj => ?_⟩
    by_cases hji : j = i
    · subst hji
      refine hy.wpOp hi hS ⟨fun p hp _ => hpr p hp, ?_⟩
      refine wpV_mono _ _ _ _ _ _ (fun p hp => ?_) H
      exact List.mem_cons_of_mem _ (List.mem_filter.1 hp).1
    · have h1 := H.2 j (ready_mono hj hji)
      obtain ⟨hjun, oj, hoj, hall⟩ := mem_ready.1 hj
      have hnot : ∀ e ∈ oj.after, Region.binds md e = true → e.on ≠ i := fun e he hb heq => by
        have h1 := hall e he hb
        have h0 := (mem_ready.1 hr).1
        rw [heq] at h1
        rcases Nat.lt_or_ge i listed.size with h' | h'
        · simp [h'] at h0 h1; rw [h0] at h1; cases h1
        · simp [Array.getElem?_eq_none h'] at h1
      have hnw : waits md ops i j = false := not_waits hoj hnot
      have h2 := wpOp_putIf hoj (hfree j oj hoj hji hjun hnot) (fun cs b => hsel i oi cs b hi) (fun cs b => hsel j oj cs b hoj) hQ hy h1
      have hfree' : ∀ k ok, ops[k]? = some ok → k ≠ i → (listed.setIfInBounds j true).getD k true = false →
          (∀ e ∈ ok.after, Region.binds md e = true → e.on ≠ i) → oi.apart ops ok = true := fun k ok hk hki hun hno => by
        refine hfree k ok hk hki ?_ hno
        by_cases hjk : j = k
        · subst hjk; exact hjun
        · rw [getD_set_ne true hjk] at hun; exact hun
      refine wpOp_mono (fun a' w' h3 => ?_) h2
      obtain ⟨hy', hk, hrest⟩ := h3
      have hS' : S w' := hk (i, S) (List.mem_cons_self ..) hnw
      refine ⟨fun p hp hw => hk p (List.mem_cons_of_mem _ hp) hw, ih (listed.setIfInBounds j true) (dropProm md ops pr j) a' w' hfree' (ready_mono hr (Ne.symm hji)) hy' hS' ?_ ?_⟩
      · intro p hp
        simp only [dropProm, List.mem_filter, Bool.not_eq_true'] at hp
        exact hk p (List.mem_cons_of_mem _ hp.1) hp.2
      · rw [Array.setIfInBounds_comm _ _ hji]
        have hd : dropProm md ops ((i, S) :: pr) j = (i, S) :: dropProm md ops pr j := by simp [dropProm, hnw]
        rw [hd] at hrest
        exact hrest

/-- The same, the side conditions as closed Bools. -/
theorem wpV_take {S : World → Prop} {i : Nat} {oi : Oper} {v : Value} {fuel : Nat} {listed : Array Bool} {pr : Prom} {a : Act} {w : World} (hi : ops[i]? = some oi)
    (hs : Region.noSelect ops = true) (hf : Region.free md ops listed i = true) (hr : (Region.ready md ops listed).contains i = true)
    (hQ : ∀ c a w, Q (.panic c) (a.put oi.dst v) w → Q (.panic c) a w) (hy : YieldsIf P ops S oi v a) (hS : S w) (hpr : ∀ p ∈ pr, p.2 w)
    (h : wpV P md ops Q fuel (listed.setIfInBounds i true) ((i, S) :: pr) (a.put oi.dst v) w) : wpV P md ops Q (fuel + 1) listed pr a w :=
  wpV_first hi (Region.noSelect_spec hs) hQ fuel listed pr a w (Region.free_spec hi hf) (by simpa using hr) hy hS hpr h

/-- One operation alone may come up. -/
theorem wpV_one {i fuel : Nat} {listed : Array Bool} {pr : Prom} {a : Act} {w : World} (hr : Region.ready md ops listed = [i])
    (h : wpOp P ops Q i (fun a' w' => keepsProm md ops pr i w' ∧ wpV P md ops Q fuel (listed.setIfInBounds i true) (dropProm md ops pr i) a' w') a w) : wpV P md ops Q (fuel + 1) listed pr a w :=
  ⟨fun h0 => (by rw [hr] at h0; cases h0), fun j hj => (by
    rw [hr] at hj
    simp only [List.mem_singleton] at hj
    subst hj
    exact h)⟩

theorem wpV_done {listed : Array Bool} {pr : Prom} {a : Act} {w : World} (hr : Region.ready md ops listed = []) (h : Q .normal a w) : ∀ fuel, wpV P md ops Q fuel listed pr a w
  | 0 => ⟨hr, h⟩
  | _ + 1 => ⟨fun _ => h, by rw [hr]; simp⟩

theorem wp_region_V {id : Nat} {a : Act} {w : World} (hm : P.follows .mixedOrders = true)
    (h : wpV P .any ops Q ops.size (Array.replicate ops.size false) [] a { w with drawn := w.drawn + 1 }) : (Code.region id ops true).wp P Q a w :=
  wp_region_any hm (wpAny_of_wpV _ _ _ _ _ h)
end
end Go.Vc
