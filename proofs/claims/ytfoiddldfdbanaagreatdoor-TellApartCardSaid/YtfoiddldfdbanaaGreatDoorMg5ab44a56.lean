/- Own texts of this claim, laid together: VcRegion, VcEqB, VcDefs, VcOps, VcRel, VcQuiet, VcEvalQ, VcEvalE, VcRun, VcSound, VcFn, VcRep, VcRow, VcMath, VcGo, VcEq. -/
import Derived.OrdersHeld
import Derived.OrdersIn
import Derived.Deep.LoopGhost
import Derived.LoopNIn
import Derived.Scope
import Derived.Below
import Derived.Laws.StructEq
import Derived.ChangeKeysEq
import Derived.LoopN
import Derived.ProofKit
import GoSem.Core.View

/- A region whose order the tape draws: operations that only read are taken first, each under a promise of its own, and what changes the world keeps the promises of those that need not have come before it. -/
namespace Go.Vc
open Go

/-- The fence of a walk: it bars nothing; whose round it is (none: a function's own activation). -/
abbrev FW (r : Option Nat) : Fence := { Fence.wide with round := r }

section
variable {P : Program} {ops : Array Oper} {Q : Exit → Act → World → Prop} {md : Region.Mode} {r : Option Nat} {nn : Nat}

/-- A loop, whose invariant bears a number that every round lowers. -/
theorem wpIn_loop_num {F : Fence} {m : Nat} {a : Act} {w : World} {c : Code} (I : Nat → Act → World → Prop) (n₀ : Nat) (h₀ : I n₀ a w)
    (round : ∀ n a w, I n a w → c.wpIn F m P (Exit.then (fun a' w' => ∃ n', n' < n ∧ I n' a' w') Q) a w) : (Code.loop c).wpIn F m P Q a w := by
  refine wpIn_loop (fun a w => ∃ n, I n a w) (fun a w => leastOf (fun n => I n a w)) ⟨n₀, h₀⟩ ?_
  intro a w hI
  refine wpIn_mono (round _ a w (leastOf_spec hI).1) ?_
  intro e a' w' hq
  cases e with
  | normal =>
    obtain ⟨n', hlt, hI'⟩ := hq
    exact show (∃ n, I n a' w') ∧ leastOf (fun n => I n a' w') < leastOf (fun n => I n a w) from ⟨⟨n', hI'⟩, Nat.lt_of_le_of_lt ((leastOf_spec ⟨n', hI'⟩).2 n' hI') hlt⟩
  | exit id => exact hq
  | goto l => exact hq
  | ret => exact hq
  | panic ch => exact hq
  | outgrown => exact hq

theorem wpIn_scope_straight {F : Fence} {m : Nat} {a : Act} {w : World} {c : Code} (h : c.wpIn F m P (Exit.noGoto Q) a w) : (Code.scope c).wpIn F m P Q a w := by
  intro b k cs hro hb hr
  have s0 : step P (lone (b.atR a (.code (.scope c) :: k)) cs w) = .next (lone (b.atR a (.code c :: .inScope c :: k)) cs w) := step_lone_go (by simp [stepG, stepG.exec, Frame.atR])
  have s1 : ∀ {a w}, step P (lone (b.atR a (.inScope c :: k)) cs w) = .next (lone (b.atR a k) cs w) := step_lone_go (by simp [stepG, stepG.exec, Frame.atR])
  have h0 : (lone (b.atR a (.code (.scope c) :: k)) cs w).fenced P F := fenced_calm hb hr rfl
  obtain ⟨e, a₁, w₁, hq, harr⟩ := h b (.inScope c :: k) cs hro hb hr
  cases e with
  | normal => exact ⟨.normal, a₁, w₁, hq, .head h0 s0 (StepsIn.trans harr (.one (fenced_calm hb hr rfl) s1))⟩
  | exit id =>
    have hx : exitTo id (.inScope c :: k) = exitTo id k := by simp [exitTo]
    exact ⟨.exit id, a₁, w₁, hq, fun k' hk => .head h0 s0 (harr.1 k' (by rw [hx]; exact hk)), fun hr' hk => let ⟨k₁, h1, h2⟩ := harr.2 hr' (by rw [hx]; exact hk); ⟨k₁, h1, .head h0 s0 h2⟩⟩
  | goto l => exact hq.elim
  | ret => exact ⟨_, a₁, w₁, hq, .of_steps (.one h0 s0) harr⟩
  | panic ch => exact ⟨_, a₁, w₁, hq, .of_steps (.one h0 s0) harr⟩
  | outgrown => exact ⟨_, a₁, w₁, hq, .of_steps (.one h0 s0) harr⟩

/-- Does operation j wait for operation i, directly? -/
def waits (md : Region.Mode) (ops : Array Oper) (i j : Nat) : Bool :=
  match ops[j]? with
  | some o => o.after.any fun e => Region.binds md e && e.on == i
  | none => false

theorem not_waits {i j : Nat} {oj : Oper} (hj : ops[j]? = some oj) (h : ∀ e ∈ oj.after, Region.binds md e = true → e.on ≠ i) : waits md ops i j = false := by
  unfold waits
  simp only [hj]
  rw [Bool.eq_false_iff]
  intro hany
  obtain ⟨e, he, hb⟩ := Array.any_eq_true'.1 hany
  simp only [Bool.and_eq_true, beq_iff_eq] at hb
  exact h e he hb.1 hb.2

abbrev Prom := List (Nat × (World → Prop))

def keepsProm (md : Region.Mode) (ops : Array Oper) (pr : Prom) (j : Nat) (w : World) : Prop :=
  ∀ p ∈ pr, waits md ops p.1 j = false → p.2 w

def dropProm (md : Region.Mode) (ops : Array Oper) (pr : Prom) (j : Nat) : Prom :=
  pr.filter fun p => !waits md ops p.1 j

/-- Whatever order is picked from here on; behind every operation the promises hold of those that it does not wait for. -/
def wpV (r : Option Nat) (nn : Nat) (P : Program) (md : Region.Mode) (ops : Array Oper) (Q : Exit → Act → World → Prop) : Nat → Array Bool → Prom → Act → World → Prop
  | 0, listed, _, a, w => Region.ready md ops listed = [] ∧ Q .normal a w
  | fuel + 1, listed, pr, a, w =>
    (Region.ready md ops listed = [] → Q .normal a w) ∧
    ∀ j ∈ Region.ready md ops listed, wpOpIn (FW r) nn P ops Q j (fun a' w' => keepsProm md ops pr j w' ∧ wpV r nn P md ops Q fuel (listed.setIfInBounds j true) (dropProm md ops pr j) a' w') a w

theorem wpAnyIn_of_wpV : ∀ (fuel : Nat) (listed : Array Bool) (pr : Prom) (a : Act) (w : World), wpV r nn P md ops Q fuel listed pr a w → wpAnyIn (FW r) nn P md ops Q fuel listed a w
  | 0, _, _, _, _, h => h
  | fuel + 1, _, _, _, _, h => ⟨h.1, fun i hi => wpOpIn_mono (fun a' w' h' => wpAnyIn_of_wpV fuel _ _ a' w' h'.2) (h.2 i hi)⟩

theorem wpV_mono : ∀ (fuel : Nat) (listed : Array Bool) (pr pr' : Prom) (a : Act) (w : World), (∀ p ∈ pr, p ∈ pr') → wpV r nn P md ops Q fuel listed pr' a w → wpV r nn P md ops Q fuel listed pr a w
  | 0, _, _, _, _, _, _, h => h
  | fuel + 1, _, pr, pr', _, _, hs, h => ⟨h.1, fun j hj => wpOpIn_mono (fun a' w' h' =>
      ⟨fun p hp hw => h'.1 p (hs p hp) hw, wpV_mono fuel _ _ _ a' w' (fun p hp => by
        simp only [dropProm, List.mem_filter] at hp ⊢
        exact ⟨hs p hp.1, hp.2⟩) h'.2⟩) (h.2 j hj)⟩

theorem yieldsIf_wpOpIn {S : World → Prop} {i : Nat} {o : Oper} {v : Value} {a : Act} (hi : ops[i]? = some o) (hnd : ∀ c, o.op ≠ .defer c) (hy : YieldsIf P ops S o v a)
    {K : Act → World → Prop} {w : World} (hS : S w) (h : K (a.put o.dst v) w) : wpOpIn (FW r) nn P ops Q i K a w := by
  unfold Go.wpOpIn
  simp only [hi]
  rcases hy with ⟨hw, hv⟩ | ⟨hw, rfl⟩
  · simp only [hw, if_true, Oper.wpIn, Oper.semAt_eq _ _ _ hnd, hv w hS, Oper.uponIn]; exact ⟨fun _ _ => trivial, h⟩
  · simp only [hw, Bool.false_eq_true, if_false]; exact ⟨fun _ _ => trivial, h⟩

theorem wpOpIn_putIf {S : World → Prop} {j : Nat} {oi oj : Oper} {v : Value} (hj : ops[j]? = some oj) (hap : oi.apart ops oj = true) (hnd : ∀ c, oj.op ≠ .defer c)
    (hsi : ∀ cs b, oi.op ≠ .select cs b) (hsj : ∀ cs b, oj.op ≠ .select cs b)
    (hQ : ∀ c a w, Q (.panic c) (a.put oi.dst v) w → Q (.panic c) a w) {K : Act → World → Prop} {a : Act} {w : World}
    (hy : YieldsIf P ops S oi v a) (h : wpOpIn (FW r) nn P ops Q j K (a.put oi.dst v) w) :
    wpOpIn (FW r) nn P ops Q j (fun a' w' => YieldsIf P ops S oi v a' ∧ K (a'.put oi.dst v) w') a w := by
  obtain ⟨h1, h2, h3⟩ := Oper.apart_spec hap
  have keep : ∀ (a : Act), YieldsIf P ops S oi v a → ∀ u, YieldsIf P ops S oi v (a.put oj.dst u) := fun a hy u =>
    hy.of_same (execOp_put oi hsi a oj.dst u h3) (wanted_put oi a oj.dst u h3)
  unfold Go.wpOpIn at *
  simp only [hj] at *
  rw [wanted_put oj a oi.dst v h1] at h
  split
  · rename_i hw
    simp only [hw, if_true] at h
    unfold Oper.wpIn at *
    refine ⟨fun _ _ => trivial, ?_⟩
    have h := h.2
    rw [Oper.semAt_eq _ _ _ hnd, execOp_put oj hsj a oi.dst v h1] at h
    rw [Oper.semAt_eq _ _ _ hnd]
    generalize (execOp a.eval oj).run P w = r at *
    cases r with
    | ok x w' =>
      cases x <;> simp only [Oper.uponIn] at h ⊢
      case value u => exact ⟨keep a hy u, by rw [← Act.put_comm a v u h2]; exact h⟩
      case skip => exact ⟨keep a hy _, by rw [← Act.put_comm a v undef h2]; exact h⟩
      case defer d =>
        refine ⟨(hy.of_same rfl rfl : YieldsIf P ops S oi v { a with defers := d :: a.defers }).of_same (execOp_put oi hsi _ oj.dst _ h3) (wanted_put oi _ oj.dst _ h3), ?_⟩
        rw [← Act.put_comm _ v undef h2, ← Act.put_defers]
        exact h
      case enter f args =>
        refine ⟨h.1, CallsIn.mono h.2 fun e w'' he => ?_⟩
        cases e with
        | returned u => exact ⟨keep a hy u, by rw [← Act.put_comm a v u h2]; exact he⟩
        | panicked c => exact hQ _ _ _ he
        | outgrown => exact he
      case row row args => exact ⟨h.1, RowsIn.mono h.2 fun u w'' he => ⟨keep a hy u, by rw [← Act.put_comm a v u h2]; exact he⟩⟩
      case round l f tmps assign body =>
        refine ⟨h.1, RoundIn.mono h.2 fun e w'' he => ?_⟩
        cases e with
        | returned u => exact ⟨keep a hy u, by rw [← Act.put_comm a v u h2]; exact he⟩
        | panicked c => exact hQ _ _ _ he
        | outgrown => exact he
    | halt x w' =>
      cases x <;> simp only [Oper.uponIn] at h ⊢
      case panic u => exact hQ _ _ _ h
  · rename_i hw
    simp only [hw] at h
    exact ⟨fun _ _ => trivial, keep a hy _, by rw [← Act.put_comm a v undef h2]; exact h.2⟩

/-- An operation that may come up now, and yields its value in every world that meets S, may be taken first: S is promised from here on. -/
theorem wpV_first {S : World → Prop} {i : Nat} {oi : Oper} {v : Value} (hi : ops[i]? = some oi) (hsel : ∀ (j : Nat) (o : Oper) cs b, ops[j]? = some o → o.op ≠ .select cs b) (hdef : ∀ (j : Nat) (o : Oper) c, ops[j]? = some o → o.op ≠ .defer c)
    (hQ : ∀ c a w, Q (.panic c) (a.put oi.dst v) w → Q (.panic c) a w) :
    ∀ (fuel : Nat) (listed : Array Bool) (pr : Prom) (a : Act) (w : World),
      (∀ j oj, ops[j]? = some oj → j ≠ i → listed.getD j true = false → (∀ e ∈ oj.after, Region.binds md e = true → e.on ≠ i) → oi.apart ops oj = true) →
      i ∈ Region.ready md ops listed → YieldsIf P ops S oi v a → S w → (∀ p ∈ pr, p.2 w) →
      wpV r nn P md ops Q fuel (listed.setIfInBounds i true) ((i, S) :: pr) (a.put oi.dst v) w → wpV r nn P md ops Q (fuel + 1) listed pr a w := by
  intro fuel
  induction fuel with
  | zero =>
    intro listed pr a w _ hr hy hS hpr H
    refine ⟨fun h => (by rw [h] at hr; cases hr), fun j hj => ?_⟩
    by_cases hji : j = i
    · subst hji; exact yieldsIf_wpOpIn hi (fun c => hdef _ oi c hi) hy hS ⟨fun p hp _ => hpr p hp, H⟩
    · have := ready_mono hj hji
      rw [H.1] at this
      cases this
  | succ fuel ih =>
    intro listed pr a w hfree hr hy hS hpr H
    refine ⟨fun h => (by rw [h] at hr; cases hr), fun j hj => ?_⟩
    by_cases hji : j = i
    · subst hji
      refine yieldsIf_wpOpIn hi (fun c => hdef _ oi c hi) hy hS ⟨fun p hp _ => hpr p hp, ?_⟩
      refine wpV_mono _ _ _ _ _ _ (fun p hp => ?_) H
      exact List.mem_cons_of_mem _ (List.mem_filter.1 hp).1
    · have h1 := H.2 j (ready_mono hj hji)
      obtain ⟨hjun, oj, hoj, hall⟩ := mem_ready.1 hj
      have hnot : ∀ e ∈ oj.after, Region.binds md e = true → e.on ≠ i := fun e he hb heq => by
        have h1 := hall e he hb
        have h0 := (mem_ready.1 hr).1
        rw [heq] at h1
        rcases Nat.lt_or_ge i listed.size with h' | h'
        · simp [h'] at h0 h1; rw [h0] at h1; cases h1
        · simp [Array.getElem?_eq_none h'] at h1
      have hnw : waits md ops i j = false := not_waits hoj hnot
      have h2 := wpOpIn_putIf hoj (hfree j oj hoj hji hjun hnot) (fun c => hdef j oj c hoj) (fun cs b => hsel i oi cs b hi) (fun cs b => hsel j oj cs b hoj) hQ hy h1
      have hfree' : ∀ k ok, ops[k]? = some ok → k ≠ i → (listed.setIfInBounds j true).getD k true = false →
          (∀ e ∈ ok.after, Region.binds md e = true → e.on ≠ i) → oi.apart ops ok = true := fun k ok hk hki hun hno => by
        refine hfree k ok hk hki ?_ hno
        by_cases hjk : j = k
        · subst hjk; exact hjun
        · rw [getD_set_ne true hjk] at hun; exact hun
      refine wpOpIn_mono (fun a' w' h3 => ?_) h2
      obtain ⟨hy', hk, hrest⟩ := h3
      have hS' : S w' := hk (i, S) (List.mem_cons_self ..) hnw
      refine ⟨fun p hp hw => hk p (List.mem_cons_of_mem _ hp) hw, ih (listed.setIfInBounds j true) (dropProm md ops pr j) a' w' hfree' (ready_mono hr (Ne.symm hji)) hy' hS' ?_ ?_⟩
      · intro p hp
        simp only [dropProm, List.mem_filter, Bool.not_eq_true'] at hp
        exact hk p (List.mem_cons_of_mem _ hp.1) hp.2
      · rw [Array.setIfInBounds_comm _ _ hji]
        have hd : dropProm md ops ((i, S) :: pr) j = (i, S) :: dropProm md ops pr j := by simp [dropProm, hnw]
        rw [hd] at hrest
        exact hrest

/-- The same, the side conditions as closed Bools. -/
theorem wpV_take {S : World → Prop} {i : Nat} {oi : Oper} {v : Value} {fuel : Nat} {listed : Array Bool} {pr : Prom} {a : Act} {w : World} (hi : ops[i]? = some oi)
    (hs : Region.noSelect ops = true) (hdef : ∀ (j : Nat) (o : Oper) c, ops[j]? = some o → o.op ≠ .defer c) (hf : Region.free md ops listed i = true) (hr : (Region.ready md ops listed).contains i = true)
    (hQ : ∀ c a w, Q (.panic c) (a.put oi.dst v) w → Q (.panic c) a w) (hy : YieldsIf P ops S oi v a) (hS : S w) (hpr : ∀ p ∈ pr, p.2 w)
    (h : wpV r nn P md ops Q fuel (listed.setIfInBounds i true) ((i, S) :: pr) (a.put oi.dst v) w) : wpV r nn P md ops Q (fuel + 1) listed pr a w :=
  wpV_first hi (Region.noSelect_spec hs) hdef hQ fuel listed pr a w (Region.free_spec hi hf) (by simpa using hr) hy hS hpr h

/-- One operation alone may come up. -/
theorem wpV_one {i fuel : Nat} {listed : Array Bool} {pr : Prom} {a : Act} {w : World} (hr : Region.ready md ops listed = [i])
    (h : wpOpIn (FW r) nn P ops Q i (fun a' w' => keepsProm md ops pr i w' ∧ wpV r nn P md ops Q fuel (listed.setIfInBounds i true) (dropProm md ops pr i) a' w') a w) : wpV r nn P md ops Q (fuel + 1) listed pr a w :=
  ⟨fun h0 => (by rw [hr] at h0; cases h0), fun j hj => (by
    rw [hr] at hj
    simp only [List.mem_singleton] at hj
    subst hj
    exact h)⟩

theorem wpV_done {listed : Array Bool} {pr : Prom} {a : Act} {w : World} (hr : Region.ready md ops listed = []) (h : Q .normal a w) : ∀ fuel, wpV r nn P md ops Q fuel listed pr a w
  | 0 => ⟨hr, h⟩
  | _ + 1 => ⟨fun _ => h, by rw [hr]; simp⟩

theorem wpIn_region_V {id : Nat} {a : Act} {w : World} (hm : P.follows .mixedOrders = true)
    (h : wpV r nn P .any ops Q ops.size (Array.replicate ops.size false) [] a { w with drawn := w.drawn + 1 }) : (Code.region id ops true).wpIn (FW r) nn P Q a w :=
  wpIn_region_any hm (wpAnyIn_of_wpV _ _ _ _ _ h)
end
end Go.Vc

/- Running what reads and writes nothing; comparing two values whose parts are integers, bools and strings. -/
namespace Go.Vc
open Go Go.RowKit

def pureRun {α : Type} (P : Program) : Sem α → Option α
  | .pure a => some a
  | .program k => pureRun P (k P)
  | .mark _ k => pureRun P k
  | .choose q k => cond q.forced (pureRun P (k 0)) none
  | _ => none

theorem pureRun_run {α : Type} {P : Program} : ∀ {s : Sem α} {a : α}, pureRun P s = some a → ∀ w, s.run P w = .ok a w := by
  intro s
  induction s with
  | pure a => intro b h w; simp only [pureRun, Option.some.injEq] at h; subst h; rfl
  | program k ih => intro b h w; simp only [pureRun] at h; simpa [Sem.run] using ih _ h w
  | mark m k ih => intro b h w; simp only [pureRun] at h; simpa [Sem.run] using ih h w
  | choose q k ih =>
    intro b h w
    simp only [pureRun] at h
    cases hq : q.forced with
    | false => simp [hq] at h
    | true =>
      simp only [hq, cond_true] at h
      simpa [Sem.run, hq] using ih 0 h w
  | _ => intro b h; simp [pureRun] at h

theorem viewStore_drawn {p : Program} {w w' : World} {at_ a : Addr} {u : TypeId} {v : Value} {b : Bool} {l : List Addr} (h : w.viewStore p at_ u a v b = .ok (w', l)) : w'.drawn = w.drawn := by
  unfold World.viewStore at h
  simp only [bind, Except.bind, pure, Except.pure] at h
  repeat' (split at h)
  all_goals first
    | (cases h; done)
    | (simp only [Except.ok.injEq, Prod.mk.injEq] at h; obtain ⟨rfl, _⟩ := h; rfl)
theorem ask_drawn {α : Type} : ∀ (m : Ask α) (w : World), w.drawn ≤ (w.ask m).2.drawn := by
  intro m
  induction m with
  | done a => intro w; unfold World.ask; exact Nat.le_refl _
  | ask what range k ih =>
    intro w
    unfold World.ask
    simp only
    split
    · exact ih _ w
    · exact Nat.le_trans (Nat.le_succ _) (ih _ { w with drawn := w.drawn + 1 })
theorem sys_drawn (w : World) (c : Sys) : w.drawn ≤ (w.sys c).2.drawn := by
  have h := ask_drawn (Kernel.perform c w.os) w
  unfold World.sys
  split
  · exact Nat.le_refl _
  · rename_i r os w2 he
    rw [he] at h
    exact h
/-- Running draws on, never back. -/
theorem run_drawn {α : Type} {P : Program} : ∀ {s : Sem α} {w w' : World} {a : α}, s.run P w = .ok a w' → w.drawn ≤ w'.drawn := by
  intro s
  induction s with
  | pure b => intro w w' a h; simp only [Sem.run, Result.ok.injEq] at h; obtain ⟨_, rfl⟩ := h; exact Nat.le_refl _
  | load m ad k ih =>
    intro w w' a h
    simp only [Sem.run] at h
    split at h
    · exact ih _ h
    · split at h
      · exact ih _ h
      · cases h
  | store m ad v k ih =>
    intro w w' a h
    cases v <;> simp only [Sem.run] at h
    case agg => cases h
    case tuple => cases h
    all_goals
      split at h
      · split at h
        · cases h
        · exact Nat.le_trans (Nat.le_of_eq (by rfl)) (ih h)
      · split at h
        · rename_i w2 l hf
          refine Nat.le_trans (Nat.le_of_eq ?_) (ih h)
          unfold World.farStore at hf
          split at hf
          · split at hf
            · rename_i hv
              cases hf
              exact (viewStore_drawn hv).symm
            · cases hf
          · cases hf
        · cases h
  | new o k ih => intro w w' a h; simp only [Sem.run] at h; exact Nat.le_trans (Nat.le_of_eq (by rfl)) (ih _ h)
  | shape r k ih => intro w w' a h; simp only [Sem.run] at h; exact ih _ h
  | freeze ad n k ih =>
    intro w w' a h
    simp only [Sem.run] at h
    refine Nat.le_trans (Nat.le_of_eq ?_) (ih h)
    unfold World.freeze
    split <;> rfl
  | frozen ad k ih => intro w w' a h; simp only [Sem.run] at h; exact ih _ h
  | getObj r k ih =>
    intro w w' a h
    simp only [Sem.run] at h
    split at h
    · cases h
    · exact ih _ h
    · cases h
  | setObj r o k ih =>
    intro w w' a h
    simp only [Sem.run] at h
    split at h
    · cases h
    · exact Nat.le_trans (Nat.le_of_eq (by rfl)) (ih h)
    · cases h
  | choose q k ih =>
    intro w w' a h
    simp only [Sem.run] at h
    split at h
    · exact ih _ h
    · exact Nat.le_trans (Nat.le_succ _) (ih _ h)
  | sys c k ih => intro w w' a h; simp only [Sem.run] at h; exact Nat.le_trans (sys_drawn w c) (ih _ h)
  | program k ih => intro w w' a h; simp only [Sem.run] at h; exact ih _ h
  | mark m k ih => intro w w' a h; simp only [Sem.run] at h; exact ih h
  | halt hh => intro w w' a h; cases h

theorem run_bind_ok {α β : Type} {P : Program} {s : Sem α} {f : α → Sem β} {w w' : World} {a : α} (h : s.run P w = .ok a w') : (s >>= f).run P w = (f a).run P w' := by
  have key : ∀ (s : Sem α) (w : World), s.run P w = .ok a w' → (s.bind f).run P w = (f a).run P w' := by
    intro s
    induction s with
    | pure b => intro w h; simp only [Sem.run, Result.ok.injEq] at h; obtain ⟨rfl, rfl⟩ := h; rfl
    | load m ad k ih =>
      intro w h
      simp only [Sem.run, Sem.bind] at h ⊢
      split at h
      · exact ih _ _ h
      · split at h
        · exact ih _ _ h
        · cases h
    | store m ad v k ih =>
      intro w h
      cases v <;> simp only [Sem.run, Sem.bind] at h ⊢
      case agg => cases h
      case tuple => cases h
      all_goals
        split at h
        · split at h
          · cases h
          · rename_i hf; simp only [hf]; exact ih _ h
        · split at h
          · exact ih _ h
          · cases h
    | new o k ih => intro w h; exact ih _ _ h
    | shape r k ih => intro w h; exact ih _ _ h
    | freeze ad n k ih => intro w h; exact ih _ h
    | frozen ad k ih => intro w h; exact ih _ _ h
    | getObj r k ih =>
      intro w h
      simp only [Sem.run, Sem.bind] at h ⊢
      split at h
      · cases h
      · exact ih _ _ h
      · cases h
    | setObj r o k ih =>
      intro w h
      simp only [Sem.run, Sem.bind] at h ⊢
      split at h
      · cases h
      · exact ih _ h
      · cases h
    | choose q k ih =>
      intro w h
      simp only [Sem.run, Sem.bind] at h ⊢
      split at h
      · rename_i hq; simp only [hq, if_true]; exact ih _ _ h
      · rename_i hq; simp only [hq]; exact ih _ _ h
    | sys c k ih => intro w h; exact ih _ _ h
    | program k ih => intro w h; exact ih _ _ h
    | mark m k ih => intro w h; exact ih _ h
    | halt hh => intro w h; cases h
  exact key s w h

def binOpS (op : BinOp) (t : TypeId) (x y : Operand) (a b : Value) : Sem Value := do
  eqGuard op t x y a b
  binOp op t a b

mutual
def eqB (P : Program) : Nat → TypeId → Value → Value → Option Bool
  | 0, _, _, _ => none
  | d + 1, t, x, y => match P.underlying t, x, y with
    | some .bool, .bool a, .bool b => some (a == b)
    | some (.int _), .int k a, .int k' b => cond (decide (k = k')) (some (a == b)) none
    | some .string, .string a, .string b => some (a == b)
    | some (.struct fs), .agg xs, .agg ys => cond (P.stoodInHeld t) none (eqBF P d xs ys fs.toList)
    | some (.array n e), .agg xs, .agg ys => match P.info? e with
      | some _ => eqBA P d xs ys e (P.cellsOf e) (List.range n)
      | none => none
    | _, _, _ => none
def eqBF (P : Program) : Nat → Array Value → Array Value → List Field → Option Bool
  | _, _, _, [] => some true
  | 0, _, _, _ => none
  | d + 1, xs, ys, f :: r => cond (f.name == "_") (eqBF P d xs ys r)
    (match pureRun P (part f.type xs f.offset), pureRun P (part f.type ys f.offset) with
      | some a, some b => match eqB P d f.type a b, eqBF P d xs ys r with
        | some x, some y => some (x && y)
        | _, _ => none
      | _, _ => none)
def eqBA (P : Program) : Nat → Array Value → Array Value → TypeId → Nat → List Nat → Option Bool
  | _, _, _, _, _, [] => some true
  | 0, _, _, _, _, _ => none
  | d + 1, xs, ys, e, sz, i :: r => match pureRun P (part e xs (i * sz)), pureRun P (part e ys (i * sz)) with
    | some a, some b => match eqB P d e a b, eqBA P d xs ys e sz r with
      | some x, some y => some (x && y)
      | _, _ => none
    | _, _ => none
end

theorem fieldsOf_of {P : Program} {t : TypeId} {fs : Array Field} (h : P.underlying t = some (.struct fs)) : P.fieldsOf t = fs := by
  simp [Program.fieldsOf, h]

mutual
theorem eqB_run {P : Program} (w : World) : ∀ (n d : Nat) (t : TypeId) (x y : Value) (r : Bool), eqB P n t x y = some r → n ≤ d → (Op.equalIn d t x y).run P w = .ok r w
  | 0, _, _, _, _, _, h, _ => by cases h
  | n + 1, 0, _, _, _, _, _, h => by omega
  | n + 1, d + 1, t, x, y, r, h, hd => by
    unfold eqB at h
    split at h
    · rename_i a b hu
      cases h
      exact run_equalIn_bool' w d t a b hu
    · rename_i k k1 a k2 b hu
      by_cases hk : k1 = k2
      · subst hk
        simp at h
        subst h
        exact run_equalIn_int w d t k1 k a b hu
      · simp [hk] at h
    · rename_i a b hu
      cases h
      rw [run_equalIn_string w d t a b hu, beq_toListBytes]
    · rename_i fs xs ys hu
      cases hp : P.stoodInHeld t with
      | true => simp [hp] at h
      | false =>
        simp only [hp, cond_false] at h
        have hf := fieldsOf_of hu
        rw [run_equalIn_agg w d t xs ys (by rw [hf]; exact hu) hp, hf]
        exact eqBF_run w n d xs ys _ r h (by omega)
    · rename_i m e xs ys hu
      split at h
      · rename_i inf hi
        rw [run_equalIn_array w d xs ys hu hi]
        exact eqBA_run w n d xs ys e _ _ r h (by omega)
      · cases h
    · cases h
theorem eqBA_run {P : Program} (w : World) : ∀ (n d : Nat) (xs ys : Array Value) (e : TypeId) (sz : Nat) (is : List Nat) (r : Bool), eqBA P n xs ys e sz is = some r → n ≤ d → (Op.eqItems d e sz xs ys is).run P w = .ok r w
  | n, d, xs, ys, e, sz, [], r, h, _ => by
    unfold eqBA at h
    cases h
    simp [Op.eqItems]
  | 0, d, xs, ys, e, sz, i :: is, r, h, _ => by
    unfold eqBA at h
    cases h
  | n + 1, d, xs, ys, e, sz, i :: is, r, h, hd => by
    unfold eqBA at h
    split at h
    · rename_i a b ha hb
      split at h
      · rename_i x y hx hy
        cases h
        simp only [Op.eqItems, Sem.run_bind, pureRun_run ha, pureRun_run hb, Result.andThen_ok, eqB_run w n d _ _ _ _ hx (by omega)]
        cases x
        · simp
        · simpa using eqBA_run w n d xs ys e sz is y hy (by omega)
      · cases h
    · cases h
theorem eqBF_run {P : Program} (w : World) : ∀ (n d : Nat) (xs ys : Array Value) (fs : List Field) (r : Bool), eqBF P n xs ys fs = some r → n ≤ d → (Op.eqFields d xs ys fs).run P w = .ok r w
  | n, d, xs, ys, [], r, h, _ => by
    unfold eqBF at h
    cases h
    simp [Op.eqFields]
  | 0, d, xs, ys, f :: fs, r, h, _ => by
    unfold eqBF at h
    cases h
  | n + 1, d, xs, ys, f :: fs, r, h, hd => by
    unfold eqBF at h
    have hs : f.name ≠ "_" ∨ f.name = "_" := by
      by_cases hn : f.name = "_" <;> simp [hn]
    rcases hs with hn | hn
    · have hnb : (f.name == "_") = false := by simpa using hn
      simp only [hnb, cond_false] at h
      split at h
      · rename_i a b ha hb
        split at h
        · rename_i x y hx hy
          cases h
          simp only [Op.eqFields, Sem.run_bind, Sem.run_ite, if_pos hn, pureRun_run ha, pureRun_run hb, Result.andThen_ok, eqB_run w n d _ _ _ _ hx (by omega)]
          cases x
          · simp
          · simpa using eqBF_run w n d xs ys fs y hy (by omega)
        · cases h
      · cases h
    · have hnb : (f.name == "_") = true := by simpa using hn
      simp only [hnb, cond_true] at h
      simp only [Op.eqFields, hn, ne_eq, not_true, if_false]
      exact eqBF_run w n d xs ys fs r h (by omega)
end


def aggEq (P : Program) (ρ : Operand → Value) (o : Oper) : Option Value :=
  match o.op with
  | .binOp op t x y _ => match op, ρ x, ρ y with
    | .eql, .agg a, .agg b => cond (P.eqGuardType P.depth t) none (match eqB P 30 t (.agg a) (.agg b) with
      | some r => some (.bool r)
      | none => none)
    | .neq, .agg a, .agg b => cond (P.eqGuardType P.depth t) none (match eqB P 30 t (.agg a) (.agg b) with
      | some r => some (.bool (!r))
      | none => none)
    | _, _, _ => none
  | _ => none

def runQ (P : Program) (ρ : Operand → Value) (o : Oper) : Option Value :=
  match aggEq P ρ o with
  | some v => some v
  | none => match pureRun P (execOp ρ o) with
    | some (.value v) => some v
    | _ => none

section
variable {P : Program}
theorem run_eqlS {t : TypeId} {x y : Operand} {a b : Array Value} {r : Bool} (hg : P.eqGuardType P.depth t = false) (h : eqB P 30 t (.agg a) (.agg b) = some r) (W : World) : (binOpS .eql t x y (.agg a) (.agg b)).run P W = .ok (.bool r) W := by
  unfold binOpS
  rw [run_bind_ok (run_eqGuard_agg W .eql t x y a b hg), run_eql_struct, eqB_run W 30 10000 t _ _ r h (by omega)]
  rfl
theorem run_neqS {t : TypeId} {x y : Operand} {a b : Array Value} {r : Bool} (hg : P.eqGuardType P.depth t = false) (h : eqB P 30 t (.agg a) (.agg b) = some r) (W : World) : (binOpS .neq t x y (.agg a) (.agg b)).run P W = .ok (.bool (!r)) W := by
  unfold binOpS
  rw [run_bind_ok (run_eqGuard_agg W .neq t x y a b hg), run_neq_struct, eqB_run W 30 10000 t _ _ r h (by omega)]
  rfl

theorem aggEq_run {ρ : Operand → Value} {o : Oper} {v : Value} (h : aggEq P ρ o = some v) (W : World) : (execOp ρ o).run P W = .ok (.value v) W := by
  unfold aggEq at h
  split at h
  · rename_i op t x y c ho
    have he : (execOp ρ o).run P W = (do pure (Next.value (← binOpS op t x y (ρ x) (ρ y))) : Sem Next).run P W := by
      simp only [execOp, ho, binOpS, bind_assoc]
    rw [he]
    split at h
    · rename_i a b hx hy
      cases hg : P.eqGuardType P.depth t with
      | true => simp [hg] at h
      | false =>
        simp only [hg, cond_false] at h
        split at h
        · rename_i r hr
          cases h
          rw [hx, hy, run_bind_ok (run_eqlS hg hr W)]
          rfl
        · cases h
    · rename_i a b hx hy
      cases hg : P.eqGuardType P.depth t with
      | true => simp [hg] at h
      | false =>
        simp only [hg, cond_false] at h
        split at h
        · rename_i r hr
          cases h
          rw [hx, hy, run_bind_ok (run_neqS hg hr W)]
          rfl
        · cases h
    · cases h
  · cases h

theorem runQ_run {ρ : Operand → Value} {o : Oper} {v : Value} (h : runQ P ρ o = some v) (W : World) : (execOp ρ o).run P W = .ok (.value v) W := by
  unfold runQ at h
  split at h
  · rename_i u hu
    cases h
    exact aggEq_run hu W
  · split at h
    · rename_i u hu
      cases h
      exact pureRun_run hu W
    · cases h
end
end Go.Vc

/- A generator of verification conditions for the model's code: it runs a function's code on values that may hold variables, keeps the function's own boxes out of sight, and leaves a formula that speaks of the memory that others see and of calls. -/
namespace Go.Vc
open Go Go.RowKit

/-! ### Values by their shape -/
inductive Sh where
  | int (k : IntKind)
  | bool
  | str
  | ptr
  | addr
  | sl
  | mp
  | any
  | nil
  | cons (a b : Sh)
  | agg (s : Sh)
  | tup (s : Sh)

@[reducible] def Sh.T : Sh → Type
  | .int _ => Int
  | .bool => Bool
  | .str => ByteArray
  | .ptr => Option Addr
  | .addr => Addr
  | .sl => Option Addr × Nat × Nat
  | .mp => Option Nat
  | .any => Value
  | .nil => Unit
  | .cons a b => a.T × b.T
  | .agg s => s.T
  | .tup s => s.T

def Sh.vals : (s : Sh) → s.T → List Value
  | .int k, x => [.int k x]
  | .bool, b => [.bool b]
  | .str, s => [.string s]
  | .ptr, a => [.pointer a]
  | .addr, a => [.pointer (some a)]
  | .sl, x => [.slice x.1 x.2.1 x.2.2]
  | .mp, r => [.map r]
  | .any, v => [v]
  | .nil, _ => []
  | .cons a b, x => a.vals x.1 ++ b.vals x.2
  | .agg s, x => [.agg (s.vals x).toArray]
  | .tup s, x => [.tuple (s.vals x).toArray]

def Sh.mk (s : Sh) (x : s.T) : Value := (s.vals x).headD undef

def Sh.get : (s : Sh) → List Value → Option (s.T × List Value)
  | .int k, l => match l with
    | .int k' n :: r => cond (decide (k' = k)) (some (n, r)) none
    | _ => none
  | .bool, l => match l with
    | .bool b :: r => some (b, r)
    | _ => none
  | .str, l => match l with
    | .string b :: r => some (b, r)
    | _ => none
  | .ptr, l => match l with
    | .pointer b :: r => some (b, r)
    | _ => none
  | .addr, l => match l with
    | .pointer (some b) :: r => some (b, r)
    | _ => none
  | .sl, l => match l with
    | .slice a n c :: r => some ((a, n, c), r)
    | _ => none
  | .mp, l => match l with
    | .map b :: r => some (b, r)
    | _ => none
  | .any, l => match l with
    | v :: r => some (v, r)
    | _ => none
  | .nil, l => some ((), l)
  | .cons a b, l => match a.get l with
    | some (x, r) => match b.get r with
      | some (y, r') => some ((x, y), r')
      | none => none
    | none => none
  | .agg s, l => match l with
    | .agg cs :: r => match s.get cs.toList with
      | some (x, []) => some (x, r)
      | _ => none
    | _ => none
  | .tup s, l => match l with
    | .tuple cs :: r => match s.get cs.toList with
      | some (x, []) => some (x, r)
      | _ => none
    | _ => none

def Sh.app : Sh → Sh → Sh
  | .nil, s => s
  | .cons a b, s => .cons a (b.app s)
  | x, s => .cons x s

def shapeBase (P : Program) (t : TypeId) : Sh :=
  match P.underlying t with
  | some .bool => .bool
  | some (.int k) => .int k
  | some .string => .str
  | some (.pointer _) => .ptr
  | some (.slice _) => .sl
  | some (.map _ _) => .mp
  | _ => .any

def flat (P : Program) : Nat → TypeId → Sh
  | 0, _ => .cons .any .nil
  | d + 1, t => match P.underlying t with
    | some (.struct fs) => fs.toList.foldr (fun f s => (flat P d f.type).app s) .nil
    | some (.array n e) => (List.replicate n ()).foldr (fun _ s => (flat P d e).app s) .nil
    | _ => .cons (shapeBase P t) .nil

def shape1 (P : Program) (t : TypeId) : Sh :=
  match P.underlying t with
  | some (.struct _) => .agg (flat P 12 t)
  | some (.array _ _) => .agg (flat P 12 t)
  | _ => shapeBase P t

def shapeOf (P : Program) (t : TypeId) : Sh :=
  match P.underlying t with
  | some (.tuple ts) => .tup (ts.toList.foldr (fun t s => .cons (shape1 P t) s) .nil)
  | _ => shape1 P t

/-- The shape of what an operation leaves. -/
def opShape (P : Program) (o : Oper) : Sh :=
  match o.op with
  | .indexAddr .. => .addr
  | .sliceToArrayPointer .. => .addr
  | .fieldAddr .. => .addr
  | .alloc _ => .addr
  | .box .. => .addr
  | .range .. => .addr
  | .buildSlice .. => .sl
  | .makeSlice .. => .sl
  | .makeMap .. => .mp
  | .mapEntry t .. => match P.underlying t with
    | some (.map _ e) => .tup (.cons (shape1 P e) (.cons (.int .i64) .nil))
    | _ => shapeOf P o.type
  | .entry .. => .tup (.cons .any (.cons .any .nil))
  | .binOp .eql .. => .bool
  | .binOp .neq .. => .bool
  | .binOp .lss .. => .bool
  | .binOp .leq .. => .bool
  | .binOp .gtr .. => .bool
  | .binOp .geq .. => .bool
  | .slice t .. => match P.underlying t with
    | some .string => .str
    | _ => .sl
  | _ => shapeOf P o.type

/-! ### Formulas -/
inductive Fm : Type 1 where
  | bad (why : Nat)
  | atom (p : Prop)
  | and (p : Prop) (f : Fm)
  | imp (p : Prop) (f : Fm)
  | both (f g : Fm)
  | all (α : Type) (f : α → Fm)
  | ex (α : Type) (f : α → Fm)
  | calls (P : Program) (fn : FuncId) (args : Array Value) (w : World) (k : Ending → World → Fm)
  | opw (P : Program) (s : Sem Next) (w : World) (k : Value → World → Fm)

def OpW (P : Program) (s : Sem Next) (w : World) (K : Value → World → Prop) : Prop :=
  match s.run P w with
  | .ok (.value v) w' => K v w'
  | .ok .skip w' => K undef w'
  | .ok (.enter f args) w' => Calls P f args w' fun e w'' => ∃ v, e = .returned v ∧ K v w''
  | .ok (.round l f tmps assign body) w' => ∀ nn, RoundIn Fence.wide nn P l f tmps assign body w' fun e w'' => ∃ v, e = .returned v ∧ K v w''
  | _ => False

def Fm.den : Fm → Prop
  | .bad _ => False
  | .atom p => p
  | .and p f => p ∧ f.den
  | .imp p f => p → f.den
  | .both f g => f.den ∧ g.den
  | .all α f => ∀ x : α, (f x).den
  | .ex α f => ∃ x : α, (f x).den
  | .calls P fn args w k => Calls P fn args w fun e w' => (k e w').den
  | .opw P s w k => OpW P s w fun v w' => (k v w').den

def badT (c : Operand) (n : Nat) : Fm := .bad (match c with
  | .tmp t => n * 1000 + t
  | _ => n)

def Sh.allF : (s : Sh) → (s.T → Fm) → Fm
  | .int _, f => .all Int f
  | .bool, f => .all Bool f
  | .str, f => .all ByteArray f
  | .ptr, f => .all (Option Addr) f
  | .addr, f => .all Addr f
  | .sl, f => .all (Option Addr) fun a => .all Nat fun n => .all Nat fun c => f (a, n, c)
  | .mp, f => .all (Option Nat) f
  | .any, f => .all Value f
  | .nil, f => f ()
  | .cons a b, f => a.allF fun x => b.allF fun y => f (x, y)
  | .agg s, f => s.allF f
  | .tup s, f => s.allF f

def Sh.exF : (s : Sh) → (s.T → Fm) → Fm
  | .int _, f => .ex Int f
  | .bool, f => .ex Bool f
  | .str, f => .ex ByteArray f
  | .ptr, f => .ex (Option Addr) f
  | .addr, f => .ex Addr f
  | .sl, f => .ex (Option Addr) fun a => .ex Nat fun n => .ex Nat fun c => f (a, n, c)
  | .mp, f => .ex (Option Nat) f
  | .any, f => .ex Value f
  | .nil, f => f ()
  | .cons a b, f => a.exF fun x => b.exF fun y => f (x, y)
  | .agg s, f => s.exF f
  | .tup s, f => s.exF f

/-! ### What the formula says of worlds -/
/-- What was there is as it was. -/
structure Bel (w W : World) : Prop where
  below : Below w.heap.size w W
  drawn : w.drawn ≤ W.drawn
structure Evo (ds : List Nat) (w W : World) : Prop where
  os : W.os = w.os
  tape : W.tape = w.tape
  output : W.output = w.output
  size : w.heap.size ≤ W.heap.size
  block : ∀ b, b < w.heap.size → b ∉ ds → W.heap[b]? = w.heap[b]?
  drawn : w.drawn ≤ W.drawn

def evoP (ds : List Nat) (w W : World) : Prop :=
  match ds with
  | [] => Bel w W
  | _ :: _ => Evo ds w W

def Gives (P : Program) (s : Sem Value) (v : Value) : Prop := ∀ W, s.run P W = .ok v W
def Reads (P : Program) (ds : List Nat) (s : Sem Value) (w : World) (v : Value) : Prop := ∀ W, evoP ds w W → s.run P W = .ok v W
def Under (gs : List Nat) (W : World) : Prop := ∀ g ∈ gs, g < W.heap.size
def Keeps (gs : List Nat) (W W' : World) : Prop := ∀ g ∈ gs, W'.heap[g]? = W.heap[g]?

/-! ### The state -/
inductive Slot where
  | val (v : Value)
  | lit (b : Bool)
  | loc (j off : Nat)
  | dead

def Slot.alive : Slot → Bool
  | .dead => false
  | _ => true

def Slot.value (gs : List Nat) : Slot → Value
  | .val v => v
  | .lit b => .bool b
  | .loc j off => .pointer (some ⟨gs.getD j 0, off, none⟩)
  | .dead => undef

inductive Pend where
  | pure (i : Nat)
  | box (i g : Nat) (cells : List Value) (ty : TypeId)
  | read (i : Nat) (s : Sem Value) (v : Value)

def Pend.idx : Pend → Nat
  | .pure i => i
  | .box i _ _ _ => i
  | .read i _ _ => i

def Pend.isBox : Pend → Bool
  | .box .. => true
  | _ => false

def Pend.inGs (gs : List Nat) : Pend → Prop
  | .box _ g _ _ => g ∈ gs
  | _ => True

def Slot.okAt (m : Nat) : Slot → Prop
  | .loc j _ => j < m
  | _ => True

def Pend.holds (P : Program) : Pend → World → Prop
  | .pure _, _ => True
  | .box _ g cells ty, W => W.heap[g]? = some (.cells cells.toArray ty (0, 0))
  | .read _ s v, W => s.run P W = .ok v W

structure St where
  env : List (Nat × Slot)
  boxes : List (List Value × TypeId)
  gs : List Nat
  ro : List Nat
  w : World
  clean : Bool
  dirty : List Nat
  pend : List Pend

structure LH where
  vars : List (Tmp × Sh)
  boxes : List (Tmp × Sh)

/-- An order, with choices. -/
inductive Ot where
  | nil
  | op (i : Nat) (r : Ot)
  | alt (a b : Ot)
def Ot.depth : Ot → Nat
  | .nil => 0
  | .op _ r => r.depth + 1
  | .alt a b => max a.depth b.depth
def Ot.heads : Ot → List Nat
  | .nil => []
  | .op i _ => [i]
  | .alt a b => a.heads ++ b.heads

structure Hints where
  promo : List Tmp
  asks : List Tmp
  splits : List Tmp
  ord : List (Nat × List Nat)
  unroll : List (Nat × Nat)
  loops : List (Nat × LH)
  cuts : List (Nat × LH)
  nexts : List (Nat × Sh)
  alts : List (Nat × Ot)

def look {α : Type} : List (Nat × α) → Nat → Option α
  | [], _ => none
  | (k, v) :: r, t => cond (Nat.beq k t) (some v) (look r t)

def has (l : List Nat) (t : Nat) : Bool := l.any fun k => Nat.beq k t
def hasO (l : List Nat) (t : Option Nat) : Bool := match t with
  | some t => has l t
  | none => false

def St.slot (st : St) : Operand → Slot
  | .tmp t => (look st.env t).getD .dead
  | .const (.bool b) => .lit b
  | .const v => .val v
  | .global g => .val (.pointer (some ⟨g, 0, none⟩))
  | .func f => .val (.func (.func f) #[] #[])

def St.rho (st : St) (x : Operand) : Value := (st.slot x).value st.gs
def St.alive (st : St) (o : Oper) : Bool := o.op.operands.toList.all fun x => (st.slot x).alive

def St.set (st : St) (dst : Option Tmp) (s : Slot) : St :=
  match dst with
  | some d => { st with env := (d, s) :: st.env }
  | none => st

def St.put (st : St) (dr : Bool) (p : Pend) : St := cond dr { st with pend := p :: st.pend } st

/-! ### One operation -/
def valueS (s : Sem Value) : Sem Next := do pure (.value (← s))
def skipS (s : Sem Unit) : Sem Next := do s; pure .skip
def invokeS (f : Value) (args : Array Value) : Sem Next := do
  let d ← Deferred.ofValue f args
  invoke d.target d.args

def valSem (ρ : Operand → Value) (o : Oper) : Option (Sem Value) :=
  match o.op with
  | .load t x => some (Instr.loadAt t (ρ x))
  | .binOp op xType x y _ => some (binOpS op xType x y (ρ x) (ρ y))
  | .unOp op _ x => some (Op.unary op (ρ x))
  | .convert src dst x => some (convert src dst (ρ x))
  | .sliceToArrayPointer arr x => some (Instr.arrayAt arr (ρ x))
  | .makeInterface xType x => some (Instr.makeInterface xType (ρ x))
  | .makeFunc fn first captured => some (Instr.makeFunc fn (first.map ρ) (captured.map ρ))
  | .slice t x lo hi mx => some (Instr.sliceAt t (ρ x) (lo.map ρ) (hi.map ρ) (mx.map ρ))
  | .fieldAddr s x f => some (Instr.fieldAt s (ρ x) f)
  | .field xType x f => some (Instr.field xType (ρ x) f)
  | .indexAddr t x ix => some (Instr.indexAt t (ρ x) (ρ ix))
  | .index xType x ix => some (Instr.index xType (ρ x) (ρ ix))
  | .lookup xType x ix ok => some (Instr.lookup xType (ρ x) (ρ ix) ok)
  | .extract t ix => some (Instr.extract (ρ t) ix)
  | .build t parts => some (Instr.build t (parts.map fun (i, x) => (i, ρ x)))
  | .call c => match c.callee with
    | .builtin .len => some (Builtin.len_ c.argTypes o.type (c.args.map ρ))
    | .builtin .cap => some (Builtin.cap_ c.argTypes o.type (c.args.map ρ))
    | .builtin .min => some (Builtin.min_ c.argTypes o.type (c.args.map ρ))
    | .builtin .max => some (Builtin.max_ c.argTypes o.type (c.args.map ρ))
    | _ => none
  | _ => none

def effSem (ρ : Operand → Value) (o : Oper) : Sem Next :=
  match o.op with
  | .alloc elem => valueS (Instr.alloc elem true (.tuple #[]))
  | .box elem x => valueS (Instr.box elem (ρ x))
  | .buildSlice t len parts => valueS (Instr.buildSlice t len (parts.map fun (i, x) => (i, ρ x)))
  | .store t a x => skipS (Instr.storeAt t (ρ a) (ρ x))
  | .convert src dst x => valueS (convert src dst (ρ x))
  | .makeMap t r => valueS (Instr.makeMap t (r.map ρ))
  | .makeSlice t l c => valueS (Instr.makeSlice t (ρ l) (ρ c))
  | .mapUpdate t m k x => skipS (Instr.mapUpdate t (ρ m) (ρ k) (ρ x))
  | .insert t m k x => skipS (Instr.mapUpdate t (ρ m) (ρ k) (ρ x))
  | .mapEntry t m k => valueS (Instr.mapEntry t (ρ m) (ρ k))
  | .entryStore t m s x => skipS (Instr.entryStore t (ρ m) (ρ s) (ρ x))
  | .range xType x => valueS (Instr.range xType (ρ x))
  | .next it isString => valueS (Instr.next (ρ it) isString o.type)
  | .call c => match c.callee with
    | .builtin b => builtin b c.argTypes o.type (c.args.map fun | .const _ => true | _ => false) (c.args.map ρ)
    | .value f => invokeS (ρ f) (c.args.map ρ)
    | _ => execOp ρ o
  | _ => execOp ρ o

def isSlice (P : Program) (t : TypeId) : Bool := match P.underlying t with
  | some (.slice _) => true
  | _ => false
def isMap (P : Program) (t : TypeId) : Bool := match P.underlying t with
  | some (.map _ _) => true
  | _ => false

/-- Operations that leave the world as it is. -/
def isQuiet (P : Program) (o : Oper) : Bool :=
  match o.op with
  | .move _ | .assign _ | .pick .. | .nilCheck _ | .load .. | .binOp .. | .unOp .. | .makeFunc .. | .makeInterface .. | .slice .. | .fieldAddr .. | .field .. | .indexAddr .. | .index .. | .lookup .. | .extract .. | .build .. | .sliceToArrayPointer .. => true
  | .convert src dst _ => !isSlice P src && !isSlice P dst
  | .call c => match c.callee with
    | .builtin .len | .builtin .cap | .builtin .min | .builtin .max => true
    | _ => false
  | _ => false

/-- Operations whose value hangs on the memory. -/
def isRead (P : Program) (o : Oper) : Bool :=
  match o.op with
  | .load .. | .lookup .. => true
  | .call c => match c.callee with
    | .builtin .len => isMap P (c.argTypes.getD 0 0)
    | _ => false
  | _ => false

def boolOf : Slot → Option Bool
  | .lit b => some b
  | .val (.bool b) => some b
  | _ => none

def oneCell : Value → Bool
  | .agg _ => false
  | .tuple _ => false
  | _ => true

def fieldOff (P : Program) (s : TypeId) (f : Nat) : Option Nat :=
  match P.underlying s with
  | some (.struct fs) => match fs[f]? with
    | some fl => match pureRun P (sizeOf fl.type) with
      | some (_ + 1) => some fl.offset
      | _ => none
    | none => none
  | _ => none

def arrOff (P : Program) (t : TypeId) (ix : Value) : Option Nat :=
  match P.underlying t, ix with
  | some (.array len e), .int _ i => match pureRun P (sizeOf e) with
    | some sz => cond (decide (0 ≤ i ∧ i < len)) (some (i.toNat * sz)) none
    | none => none
  | _, _ => none

/-- What a load of type t out of some cells from a place on gives. -/
def cellLoad (P : Program) (t : TypeId) (cells : List Value) (off : Nat) : Option Value :=
  match pureRun P (isAgg t), pureRun P (sizeOf t) with
  | some true, some m => cond (Nat.ble (off + m) cells.length) (some (.agg ((cells.drop off).take m).toArray)) none
  | some false, some _ => cells[off]?
  | _, _ => none

def cellStore (P : Program) (t : TypeId) (cells : List Value) (off : Nat) (v : Value) : Option (List Value) :=
  match pureRun P (sizeOf t) with
  | some m => cond (Nat.beq v.cells.toList.length m && Nat.ble (off + m) cells.length && v.cells.toList.all oneCell) (some (cells.take off ++ v.cells.toList ++ cells.drop (off + m))) none
  | none => none

section
variable (P : Program) (H : Hints)

/-- A pure operation. -/
def pureF (dr : Bool) (i : Nat) (o : Oper) (k : St → Fm) (st : St) : Fm :=
  cond (st.alive o)
    (cond (hasO H.asks o.dst)
      (match valSem st.rho o with
        | some s => (opShape P o).exF fun x => .and (Gives P s ((opShape P o).mk x)) (k ((st.set o.dst (.val ((opShape P o).mk x))).put dr (.pure i)))
        | none => .bad 1)
      (match runQ P st.rho o with
        | some v => k ((st.set o.dst (.val v)).put dr (.pure i))
        | none => .bad 2))
    (.bad 3)

def readF (dr : Bool) (i : Nat) (o : Oper) (k : St → Fm) (st : St) : Fm :=
  cond (st.alive o)
    (match valSem st.rho o with
      | some s => (opShape P o).exF fun x => .and (Reads P st.dirty s st.w ((opShape P o).mk x)) (k ((st.set o.dst (.val ((opShape P o).mk x))).put dr (.read i s ((opShape P o).mk x))))
      | none => .bad 4)
    (.bad 5)

def copyF (dr : Bool) (i : Nat) (o : Oper) (x : Operand) (k : St → Fm) (st : St) : Fm :=
  cond (st.slot x).alive (k ((st.set o.dst (st.slot x)).put dr (.pure i))) (.bad 6)

def evalQ (dr : Bool) (i : Nat) (o : Oper) (k : St → Fm) (st : St) : Fm :=
  match o.op with
  | .move x => copyF dr i o x k st
  | .assign x => copyF dr i o x k st
  | .pick c a b => match st.slot c with
    | .lit true => copyF dr i o a k st
    | .lit false => copyF dr i o b k st
    | .val (.bool c') => match boolOf (st.slot a), boolOf (st.slot b) with
      | some x, some y => k ((st.set o.dst (.val (.bool (cond c' x y)))).put dr (.pure i))
      | _, _ => .bad 7
    | _ => .bad 8
  | .nilCheck x => match st.slot x with
    | .loc j off => k ((st.set o.dst (.loc j off)).put dr (.pure i))
    | .val v => cond (hasO H.asks o.dst)
      (match v with
        | .pointer a => .ex Addr fun ad => .and (a = some ad) (k ((st.set o.dst (.val (.pointer (some ad)))).put dr (.pure i)))
        | _ => .bad 9)
      (match pureRun P (execOp st.rho o) with
        | some (.value v) => k ((st.set o.dst (.val v)).put dr (.pure i))
        | _ => .bad 10)
    | _ => .bad 11
  | .load t x => match st.slot x with
    | .loc j off => match st.boxes[j]?, st.gs[j]? with
      | some (cells, ty), some g => match cellLoad P t cells off with
        | some v => k ((st.set o.dst (.val v)).put dr (.box i g cells ty))
        | none => .bad 12
      | _, _ => .bad 13
    | _ => readF P dr i o k st
  | .fieldAddr s x f => match st.slot x with
    | .loc j off => match fieldOff P s f with
      | some d => k ((st.set o.dst (.loc j (off + d))).put dr (.pure i))
      | none => .bad 14
    | _ => pureF P H dr i o k st
  | .indexAddr t x ix => match st.slot x with
    | .loc j off => match arrOff P t (st.rho ix) with
      | some d => cond (st.slot ix).alive (k ((st.set o.dst (.loc j (off + d))).put dr (.pure i))) (.bad 15)
      | none => .bad 16
    | _ => pureF P H dr i o k st
  | _ => cond (isRead P o) (readF P dr i o k st) (pureF P H dr i o k st)

/-- The world at hand is shown: before whatever others may see. -/
def withW (st : St) (body : World → Fm) : Fm :=
  cond st.clean (body st.w) (.all World fun W => .imp (evoP st.dirty st.w W) (match st.gs with
    | [] => body W
    | g :: r => .imp (Under (g :: r) W) (body W)))

def keepF (gs : List Nat) (W W' : World) (f : Fm) : Fm :=
  match gs with
  | [] => f
  | g :: r => .and (Keeps (g :: r) W W') f

/-- What has been read before, and might have been read behind this, reads the same. -/
def pendF (ds : List Nat) (w : World) : List Pend → Fm → Fm
  | [], f => f
  | .read _ s v :: r, f => .and (Reads P ds s w v) (pendF ds w r f)
  | _ :: r, f => pendF ds w r f

def leftPend (wt : Nat → Bool) (l : List Pend) : List Pend := l.filter fun p => !wt p.idx

def locsOf (st : St) (o : Oper) : List Nat := o.op.operands.toList.filterMap fun x => match st.slot x with
  | .loc j _ => some j
  | _ => none

/-- The own boxes that are handed on by their address. -/
def boxF (st : St) (W : World) : List Nat → Fm → Fm
  | [], f => f
  | j :: r, f => match st.boxes[j]?, st.gs[j]? with
    | some (cells, ty), some g => .imp (W.heap[g]? = some (.cells cells.toArray ty (0, 0))) (boxF st W r f)
    | _, _ => boxF st W r f

def afterW (wt : Nat → Bool) (st : St) (w' : World) : St := { st with w := w', clean := true, dirty := [], pend := leftPend wt st.pend }

def boxE (wt : Nat → Bool) (o : Oper) (t : TypeId) (cells : List Value) (k : St → Fm) (st : St) : Fm :=
  .all Nat fun g => .imp (st.w.heap.size ≤ g) (pendF P st.dirty st.w (leftPend wt st.pend)
    (k ({ st with boxes := st.boxes ++ [(cells, t)], gs := st.gs ++ [g], clean := false, pend := leftPend wt st.pend }.set o.dst (.loc st.boxes.length 0))))

def storeE (wt : Nat → Bool) (o : Oper) (t : TypeId) (j off : Nat) (v : Value) (k : St → Fm) (st : St) : Fm :=
  match st.boxes[j]?, st.gs[j]? with
  | some (cells, ty), some g => match cellStore P t cells off v with
    | some cells' =>
      cond (has st.ro j || (leftPend wt st.pend).any Pend.isBox) (.bad 21)
        (pendF P (g :: st.dirty) st.w (leftPend wt st.pend)
          (k ({ st with boxes := st.boxes.set j (cells', ty), dirty := g :: st.dirty, clean := false, pend := leftPend wt st.pend }.set o.dst .dead)))
    | none => .bad 22
  | _, _ => .bad 23

def callE (wt : Nat → Bool) (o : Oper) (f : FuncId) (args : Array Value) (k : St → Fm) (st : St) : Fm :=
  withW st fun W => boxF st W (locsOf st o) (.calls P f args W fun e w' => (opShape P o).exF fun x =>
    .and (e = .returned ((opShape P o).mk x)) (keepF st.gs W w' (pendF P [] w' (leftPend wt st.pend) (k ((afterW wt st w').set o.dst (.val ((opShape P o).mk x)))))))

def effV (wt : Nat → Bool) (o : Oper) (k : St → Fm) (st : St) : Fm :=
  withW st fun W => boxF st W (locsOf st o) (.opw P (effSem st.rho o) W fun v w' => (opShape P o).exF fun x =>
    .and (v = (opShape P o).mk x) (keepF st.gs W w' (pendF P [] w' (leftPend wt st.pend) (k ((afterW wt st w').set o.dst (.val ((opShape P o).mk x)))))))

/-- The same, at a shape that is given. -/
def effVS (s : Sh) (wt : Nat → Bool) (o : Oper) (k : St → Fm) (st : St) : Fm :=
  withW st fun W => boxF st W (locsOf st o) (.opw P (effSem st.rho o) W fun v w' => s.exF fun x =>
    .and (v = s.mk x) (keepF st.gs W w' (pendF P [] w' (leftPend wt st.pend) (k ((afterW wt st w').set o.dst (.val (s.mk x)))))))

def effU (wt : Nat → Bool) (o : Oper) (k : St → Fm) (st : St) : Fm :=
  withW st fun W => boxF st W (locsOf st o) (.opw P (effSem st.rho o) W fun _ w' =>
    keepF st.gs W w' (pendF P [] w' (leftPend wt st.pend) (k ((afterW wt st w').set o.dst .dead))))

/-- What the next round of a range over a map, or a string, hands over: the shapes of the key and the element. -/
def nextShape (H : Hints) (o : Oper) : Sh :=
  match o.dst with
  | some d => (look H.nexts d).getD .nil
  | none => .nil

/-- What a range has at hand: the shapes of the key and the element, where the hints tell them. -/
def entryShape (H : Hints) (o : Oper) : Sh :=
  match o.dst with
  | some d => match look H.nexts d with
    | some s => .tup s
    | none => opShape P o
  | none => opShape P o

/-- The next round of a range: none, or a key and an element. -/
def nextE (wt : Nat → Bool) (o : Oper) (k : St → Fm) (st : St) : Fm :=
  withW st fun W => boxF st W (locsOf st o) (.opw P (effSem st.rho o) W fun v w' =>
    .and (v = .tuple #[.bool false] ∨ ∃ x, v = .tuple (.bool true :: (nextShape H o).vals x).toArray)
      (.both (.imp (v = .tuple #[.bool false]) (keepF st.gs W w' (pendF P [] w' (leftPend wt st.pend) (k ((afterW wt st w').set o.dst (.val (.tuple #[.bool false])))))))
        ((nextShape H o).allF fun x => .imp (v = .tuple (.bool true :: (nextShape H o).vals x).toArray)
          (keepF st.gs W w' (pendF P [] w' (leftPend wt st.pend) (k ((afterW wt st w').set o.dst (.val (.tuple (.bool true :: (nextShape H o).vals x).toArray)))))))))

def evalE (wt : Nat → Bool) (o : Oper) (k : St → Fm) (st : St) : Fm :=
  cond (st.alive o)
    (match o.op with
    | .box t x => cond (hasO H.promo o.dst) (boxE P wt o t (st.rho x).cells.toList k st) (effV P wt o k st)
    | .alloc t => cond (hasO H.promo o.dst)
      (match pureRun P (zeroValue t) with
        | some z => boxE P wt o t z.cells.toList k st
        | none => .bad 20)
      (effV P wt o k st)
    | .store t a x => match st.slot a with
      | .loc j off => storeE P wt o t j off (st.rho x) k st
      | _ => effU P wt o k st
    | .mapUpdate .. => effU P wt o k st
    | .insert .. => effU P wt o k st
    | .entryStore .. => effU P wt o k st
    | .next .. => nextE P H wt o k st
    | .entry .. => effVS P (entryShape P H o) wt o k st
    | .call c => match c.callee with
      | .value _ => cond (hasO H.asks o.dst) (effV P wt o k st)
        (match pureRun P (execOp st.rho o) with
          | some (.enter f args) => callE P wt o f args k st
          | _ => .bad 25)
      | _ => effV P wt o k st
    | _ => effV P wt o k st)
    (.bad 24)

/-- A guarded operation: it is carried out where its guard has yielded what it wants. -/
def guardF (ops : Array Oper) (o : Oper) (run skip : St → Fm) (st : St) : Fm :=
  match o.guard with
  | none => run st
  | some (j, want) => match (ops[j]?).bind (·.dst) with
    | none => .bad 30
    | some d => match look st.env d with
      | some (.lit c) => cond (c == want) (run st) (skip st)
      | some (.val (.bool c)) => cond (has H.splits d)
        (.both (.imp (c = true) (cond want (run { st with env := (d, .lit true) :: st.env }) (skip { st with env := (d, .lit true) :: st.env })))
          (.imp (c = false) (cond want (skip { st with env := (d, .lit false) :: st.env }) (run { st with env := (d, .lit false) :: st.env }))))
        (cond (c == want) (run st) (skip st))
      | some (.val (.tuple _)) => skip st
      | _ => .bad (31000 + d)

def evalOps (dr : Bool) (ops : Array Oper) : List Nat → (St → Fm) → St → Fm
  | [], k, st => k { st with pend := [] }
  | i :: r, k, st => match ops[i]? with
    | none => .bad 32
    | some o => guardF H ops o
      (fun st => cond (isQuiet P o) (evalQ P H dr i o (evalOps dr ops r k) st) (evalE P H (fun x => waits .any ops x i) o (evalOps dr ops r k) st))
      (fun st => evalOps dr ops r k ((st.set o.dst (.val undef)).put dr (.pure i))) st

/-- The same, along an order with choices. -/
def evalT (ops : Array Oper) : Ot → (St → Fm) → St → Fm
  | .nil, k, st => k { st with pend := [] }
  | .op i r, k, st => match ops[i]? with
    | none => .bad 32
    | some o => guardF H ops o
      (fun st => cond (isQuiet P o) (evalQ P H true i o (evalT ops r k) st) (evalE P H (fun x => waits .any ops x i) o (evalT ops r k) st))
      (fun st => evalT ops r k ((st.set o.dst (.val undef)).put true (.pure i))) st
  | .alt a b, k, st => .both (evalT ops a k st) (evalT ops b k st)

inductive Ex where
  | normal
  | exit (id : Nat)
  | ret

def key : Code → Option Nat
  | .region id _ _ => some id
  | .seq a b => match key a with
    | some k => some k
    | none => key b
  | .cond _ a b => match key a with
    | some k => some k
    | none => key b
  | .block _ b => key b
  | .loop b => key b
  | .scope b => key b
  | _ => none

def lookK {α : Type} (l : List (Nat × α)) (k : Option Nat) : Option α := match k with
  | some k => look l k
  | none => none

def dsts : Code → List Nat
  | .region _ ops _ => ops.toList.filterMap (·.dst)
  | .seq a b => dsts a ++ dsts b
  | .cond c a b => (match c with
    | .tmp t => [t]
    | _ => []) ++ (dsts a ++ dsts b)
  | .block _ b => dsts b
  | .loop b => dsts b
  | .scope b => dsts b
  | _ => []

/-- The shape of what a loop, or a joint, carries: its slots, then its boxes' cells. -/
def LH.sh (h : LH) : Sh := (h.vars.foldr (fun x s => Sh.cons x.2 s) Sh.nil).app (h.boxes.foldr (fun x s => x.2.app s) Sh.nil)

/-- The length of a shape that is a row of cells. -/
def Sh.len : Sh → Nat
  | .nil => 0
  | .cons _ b => b.len + 1
  | _ => 1

def valsV (st : St) : List (Tmp × Sh) → Option (List Value)
  | [] => some []
  | x :: r => match look st.env x.1, valsV st r with
    | some s, some l => cond s.alive (some (s.value st.gs :: l)) none
    | _, _ => none

def valsB (st : St) : List (Tmp × Sh) → Option (List Value)
  | [] => some []
  | x :: r => match look st.env x.1, valsB st r with
    | some (.loc j _), some l => match st.boxes[j]? with
      | some (cells, _) => cond (Nat.beq cells.length x.2.len) (some (cells ++ l)) none
      | none => none
    | _, _ => none

/-- What it carries, out of a state. -/
def LH.vals (h : LH) (st : St) : Option (List Value) :=
  match valsV st h.vars, valsB st h.boxes with
  | some a, some b => some (a ++ b)
  | _, _ => none

def boxIdx (h : LH) (st : St) : List Nat := h.boxes.filterMap fun x => match look st.env x.1 with
  | some (.loc j _) => some j
  | _ => none

def setVars : List (Tmp × Sh) → List Value → List (Nat × Slot) → List (Nat × Slot)
  | [], _, env => env
  | x :: r, v :: vs, env => (x.1, .val v) :: setVars r vs env
  | x :: r, [], env => (x.1, .dead) :: setVars r [] env

def setCells (bs : List (List Value × TypeId)) (j : Nat) (cells : List Value) : List (List Value × TypeId) :=
  match bs[j]? with
  | some (_, ty) => bs.set j (cells, ty)
  | none => bs

def setBoxes (env : List (Nat × Slot)) : List (Tmp × Sh) → List Value → List (List Value × TypeId) → List (List Value × TypeId)
  | [], _, bs => bs
  | x :: r, vs, bs => match look env x.1 with
    | some (.loc j _) => setBoxes env r (vs.drop x.2.len) (setCells bs j (vs.take x.2.len))
    | _ => setBoxes env r (vs.drop x.2.len) bs

/-- Boxes that may not be written meanwhile: those that are not carried. -/
def lockRo (h : LH) (st : St) : List Nat := (List.range st.boxes.length).filter fun j => !has (boxIdx h st) j

/-- The state at a loop's head, or at a joint: what was written is gone, but for what is carried. -/
def headSt (h : LH) (ds : List Nat) (st : St) (vs : List Value) (w : World) (ro : List Nat) : St :=
  { env := setVars h.vars vs (ds.map (fun d => (d, Slot.dead)) ++ st.env)
    boxes := setBoxes st.env h.boxes (vs.drop h.vars.length) st.boxes
    gs := st.gs
    ro := ro
    w := w
    clean := true
    dirty := []
    pend := [] }

/-- A carried slot is one that is written, a carried box's address is not; what is carried may be written here. -/
def hintOk (h : LH) (ds : List Nat) (st : St) : Bool :=
  h.vars.all (fun x => has ds x.1) && h.boxes.all (fun x => !has ds x.1) && (boxIdx h st).all fun j => !has st.ro j

def arriveF (h : LH) (st : St) (J : h.sh.T → World → Fm) : Fm :=
  match h.vals st with
  | some vs => match h.sh.get vs with
    | some (x, []) => withW st fun W => J x W
    | _ => .bad 40
  | none => .bad 41

def relSt (st0 st : St) : St := { st with ro := st0.ro }

def wpC : Code → (Ex → St → Fm) → St → Fm
  | .skip, K, st => K .normal st
  | .region id ops dr, K, st => match cond dr (look H.alts id) none with
    | some t => evalT P H ops t (K .normal) { st with clean := false }
    | none => evalOps P H dr ops (cond dr ((look H.ord id).getD []) (List.range ops.size)) (K .normal) (cond dr { st with clean := false } st)
  | .seq a b, K, st => match lookK H.cuts (key b) with
    | some h => cond (hintOk h (dsts a) st) (.ex (h.sh.T → World → Prop) fun J => .both
        (wpC a (fun e st' => match e with
          | .normal => arriveF h st' fun x W => .atom (J x W)
          | e => K e (relSt st st')) { st with ro := lockRo h st })
        (h.sh.allF fun x => .all World fun w' => .imp (J x w') (wpC b K (headSt h (dsts a) st (h.sh.vals x) w' st.ro)))) (.bad 56)
    | none => wpC a (fun e st' => match e with
        | .normal => wpC b K st'
        | e => K e st') st
  | .cond c a b, K, st => match st.slot c with
    | .lit true => wpC a K st
    | .lit false => wpC b K st
    | .val (.bool v) => match c with
      | .tmp t => cond (has H.splits t)
        (.both (.imp (v = true) (wpC a K { st with env := (t, .lit true) :: st.env })) (.imp (v = false) (wpC b K { st with env := (t, .lit false) :: st.env })))
        (cond v (wpC a K st) (wpC b K st))
      | _ => .bad 50
    | _ => badT c 51
  | .block id b, K, st => wpC b (fun e st' => match e with
    | .exit id' => cond (Nat.beq id' id) (K .normal st') (K (.exit id') st')
    | e => K e st') st
  | .exit id, K, st => K (.exit id) st
  | .scope b, K, st => wpC b K st
  | .label _, K, st => K .normal st
  | .ret, K, st => K .ret st
  | .loop b, K, st => match lookK H.unroll (key b) with
    | some n => Nat.rec (motive := fun _ => St → Fm) (fun _ => .bad 52) (fun _ ih st => wpC b (fun e st' => match e with
        | .normal => ih st'
        | e => K e st') st) n st
    | none => match lookK H.loops (key b) with
      | some h => cond (hintOk h (dsts b) st) (.ex (h.sh.T → World → Prop) fun J => .ex (h.sh.T → World → Nat) fun m => .both
          (arriveF h st fun x W => .atom (J x W))
          (h.sh.allF fun x => .all World fun w' => .imp (J x w') (wpC b (fun e st' => match e with
            | .normal => arriveF h st' fun y W => .both (.atom (J y W)) (.atom (m y W < m x w'))
            | e => K e (relSt st st')) (headSt h (dsts b) st (h.sh.vals x) w' (lockRo h st))))) (.bad 55)
      | none => .bad 53
  | _, _, _ => .bad 54

def resultsF (R : Ending → World → Prop) : List ResultVar → List Value → St → Fm
  | [], vs, st => withW st fun W => .atom (R (.returned (match vs.reverse with
    | [v] => v
    | l => .tuple l.toArray)) W)
  | .tmp t :: r, vs, st => match look st.env t with
    | some s => cond s.alive (resultsF R r (s.value st.gs :: vs) st) (.bad 60)
    | none => .bad 61
  | .cell a t :: r, vs, st => match look st.env a with
    | some (.loc j off) => match st.boxes[j]? with
      | some (cells, _) => match cellLoad P t cells off with
        | some v => resultsF R r (v :: vs) st
        | none => .bad 62
      | none => .bad 63
    | some (.val (.pointer (some ad))) => (shapeOf P t).exF fun x => .and (Reads P st.dirty (loadVar t ad) st.w ((shapeOf P t).mk x)) (resultsF R r ((shapeOf P t).mk x :: vs) st)
    | _ => .bad 64

def initEnv : Nat → List Value → List (Nat × Slot)
  | _, [] => []
  | i, v :: r => (i, .val v) :: initEnv (i + 1) r

/-- A function's formula. -/
def fnF (fn : Func) (args : List Value) (w : World) (R : Ending → World → Prop) : Fm :=
  match fn.body with
  | some c => wpC P H c (fun e st => match e with
      | .exit _ => .bad 70
      | _ => resultsF P R fn.results.toList [] st) { env := initEnv 0 args, boxes := [], gs := [], ro := [], w := w, clean := true, dirty := [], pend := [] }
  | none => .bad 71

/-! ### What is asked of the code and the hints, closed -/
def ordOk (ops : Array Oper) : List Nat → Array Bool → Bool
  | [], listed => (Region.ready .any ops listed).isEmpty
  | i :: r, listed => (match ops[i]? with
    | none => false
    | some o => cond (isQuiet P o) ((Region.ready .any ops listed).contains i && Region.free .any ops listed i) (Region.ready .any ops listed == [i])) && ordOk ops r (listed.setIfInBounds i true)

def ordOkT (ops : Array Oper) : Bool → Ot → Array Bool → Bool
  | sub, .nil, listed => !sub && (Region.ready .any ops listed).isEmpty
  | sub, .op i r, listed => (match ops[i]? with
    | none => false
    | some o => cond sub (!isQuiet P o) (cond (isQuiet P o) ((Region.ready .any ops listed).contains i && Region.free .any ops listed i) (Region.ready .any ops listed == [i]))) && ordOkT ops false r (listed.setIfInBounds i true)
  | sub, .alt a b, listed => cond sub true (!(Region.ready .any ops listed).isEmpty && (Region.ready .any ops listed).all fun j => (a.heads ++ b.heads).contains j) && ordOkT ops true a listed && ordOkT ops true b listed

def dstOk (n : Nat) (o : Oper) : Bool := match o.dst with
  | some d => Nat.ble (d + 1) n
  | none => true

def nodef (o : Oper) : Bool := match o.op with
  | .defer _ => false
  | _ => true

def opOk (n : Nat) (o : Oper) : Bool := dstOk n o && nodef o

def codeOk (n : Nat) : Code → Bool
  | .region id ops dr => Region.noSelect ops && ops.toList.all (opOk n) && cond dr (match cond dr (look H.alts id) none with
    | some t => Nat.ble t.depth ops.size && ordOkT P ops false t (Array.replicate ops.size false)
    | none => Nat.beq ((look H.ord id).getD []).length ops.size && ordOk P ops ((look H.ord id).getD []) (Array.replicate ops.size false)) true
  | .seq a b => codeOk n a && codeOk n b
  | .cond _ a b => codeOk n a && codeOk n b
  | .block _ b => codeOk n b
  | .loop b => codeOk n b
  | .scope b => codeOk n b
  | _ => true

def fnOk (fn : Func) (m : Nat) : Bool := match fn.body with
  | some c => codeOk P H fn.ntmps c && Nat.ble m fn.ntmps
  | none => false
end
end Go.Vc

/- What single operations do, as the formulas take them. -/
namespace Go.Vc
open Go Go.RowKit

theorem look_eq {α : Type} (k : Nat) (v : α) (r : List (Nat × α)) : look ((k, v) :: r) k = some v := by
  simp [look]

theorem look_ne {α : Type} {k t : Nat} (h : k ≠ t) (v : α) (r : List (Nat × α)) : look ((k, v) :: r) t = look r t := by
  have : Nat.beq k t = false := by
    rw [Bool.eq_false_iff]; intro hb; exact h (Nat.eq_of_beq_eq_true hb)
  simp [look, this]

theorem run_valueS {P : Program} {s : Sem Value} {w w' : World} {v : Value} (h : s.run P w = .ok v w') : (valueS s).run P w = .ok (.value v) w' := by
  unfold valueS
  rw [run_bind_ok h]
  rfl

theorem valSem_spec {ρ : Operand → Value} {o : Oper} {s : Sem Value} (h : valSem ρ o = some s) : execOp ρ o = valueS s := by
  obtain ⟨dst, op, type, pos, after, guard⟩ := o
  unfold valSem at h
  cases op <;> simp only [Option.some.injEq] at h <;> try (first | (cases h; done) | (subst h; rfl))
  case call c =>
    obtain ⟨callee, args, argTypes⟩ := c
    cases callee with
    | builtin b => cases b <;> simp only [Option.some.injEq] at h <;> first | (cases h; done) | (subst h; rfl)
    | value f => cases h
    | invoke r m => cases h

theorem effSem_spec (ρ : Operand → Value) (o : Oper) : effSem ρ o = execOp ρ o := by
  obtain ⟨dst, op, type, pos, after, guard⟩ := o
  cases op <;> try rfl
  case call c =>
    obtain ⟨callee, args, argTypes⟩ := c
    cases callee <;> rfl
end Go.Vc

/- How a state of the generator stands to the machine's own: the relation, and what keeps it. -/
namespace Go.Vc
open Go Go.RowKit

structure Rel (n : Nat) (st : St) (a : Act) (W : World) : Prop where
  defers : a.defers = []
  size : a.tmps.size = n
  env : ∀ t s, look st.env t = some s → s.alive = true → a.tmps[t]? = some (s.value st.gs)
  locs : ∀ t s, look st.env t = some s → s.okAt st.gs.length
  boxes : ∀ (j : Nat) (cells : List Value) (ty : TypeId), st.boxes[j]? = some (cells, ty) → ∃ g, st.gs[j]? = some g ∧ W.heap[g]? = some (.cells cells.toArray ty (0, 0))
  gsLen : st.gs.length = st.boxes.length
  gsOrd : st.gs.Pairwise (· < ·)
  gsLt : ∀ g ∈ st.gs, g < W.heap.size
  evo : Evo st.dirty st.w W
  clean : st.clean = true → W = st.w

structure Ext (ds : List Nat) (st st' : St) : Prop where
  env : ∀ t, t ∉ ds → look st'.env t = look st.env t
  gs : st.gs <+: st'.gs
  ro : st'.ro = st.ro
  box : ∀ j ∈ st.ro, j < st.boxes.length → st'.boxes[j]? = st.boxes[j]?
  ty : ∀ (j : Nat) (cells : List Value) (ty : TypeId), st.boxes[j]? = some (cells, ty) → ∃ cells', st'.boxes[j]? = some (cells', ty)

theorem Ext.refl (ds : List Nat) (st : St) : Ext ds st st := ⟨fun _ _ => rfl, List.prefix_rfl, rfl, fun _ _ _ => rfl, fun _ cells _ h => ⟨cells, h⟩⟩
theorem Ext.len {ds : List Nat} {a b : St} (h : Ext ds a b) : a.boxes.length ≤ b.boxes.length := by
  rcases Nat.lt_or_ge b.boxes.length a.boxes.length with hlt | hge
  · obtain ⟨c', hc'⟩ := h.ty b.boxes.length _ _ (List.getElem?_eq_getElem hlt)
    have := (List.getElem?_eq_some_iff.1 hc').1
    omega
  · exact hge
theorem Ext.trans {ds es : List Nat} {a b c : St} (h : Ext ds a b) (k : Ext es b c) : Ext (ds ++ es) a c :=
  ⟨fun t ht => by
    simp only [List.mem_append, not_or] at ht
    rw [k.env t ht.2, h.env t ht.1],
   h.gs.trans k.gs, k.ro.trans h.ro, fun j hj hl => by rw [k.box j (h.ro ▸ hj) (Nat.lt_of_lt_of_le hl h.len), h.box j hj hl], fun j c ty hj => by
    obtain ⟨c1, h1⟩ := h.ty j c ty hj
    exact k.ty j c1 ty h1⟩
theorem Ext.mono {ds es : List Nat} {a b : St} (h : Ext ds a b) (hs : ∀ t ∈ ds, t ∈ es) : Ext es a b :=
  ⟨fun t ht => h.env t fun hd => ht (hs t hd), h.gs, h.ro, h.box, h.ty⟩
theorem Ext.tr {ds : List Nat} {a b c : St} (h : Ext ds a b) (k : Ext ds b c) : Ext ds a c := (h.trans k).mono fun _ ht => (List.mem_append.1 ht).elim id id

theorem Evo.refl (w : World) : Evo [] w w := ⟨rfl, rfl, rfl, Nat.le_refl _, fun _ _ _ => rfl, Nat.le_refl _⟩
theorem Bel.refl (w : World) : Bel w w := ⟨Below.refl _ _, Nat.le_refl _⟩
theorem evoP_of {ds : List Nat} {w W : World} (h : Evo ds w W) : evoP ds w W := by
  cases ds with
  | nil => exact ⟨⟨h.os, h.tape, h.output, h.size, fun b hb => h.block b hb (by simp)⟩, h.drawn⟩
  | cons d r => exact h

theorem Rel.rho {n : Nat} {st : St} {a : Act} {W : World} (h : Rel n st a W) {x : Operand} (hx : (st.slot x).alive = true) : a.eval x = st.rho x := by
  cases x with
  | tmp t =>
    simp only [St.slot] at hx
    cases hl : look st.env t with
    | none => simp [hl, Slot.alive] at hx
    | some s =>
      simp only [hl, Option.getD_some] at hx
      have := h.env t s hl hx
      simp [Act.eval, St.rho, St.slot, hl, this]
  | const v => cases v <;> rfl
  | global g => rfl
  | func f => rfl

theorem Rel.slotOk {n : Nat} {st : St} {a : Act} {W : World} (h : Rel n st a W) (x : Operand) : (st.slot x).okAt st.gs.length := by
  cases x with
  | tmp t =>
    simp only [St.slot]
    cases hl : look st.env t with
    | none => trivial
    | some s => exact h.locs t s hl
  | const v => cases v <;> trivial
  | global g => trivial
  | func f => trivial

theorem Rel.exec {n : Nat} {st : St} {a : Act} {W : World} (h : Rel n st a W) {o : Oper} (hs : ∀ cs b, o.op ≠ .select cs b) (ho : st.alive o = true) : execOp a.eval o = execOp st.rho o :=
  execOp_congr o hs fun x hx => h.rho (by
    simp only [St.alive, List.all_eq_true] at ho
    exact ho x (Array.mem_toList_iff.2 hx))

theorem getElem?_put {a : Act} {d : Tmp} {v : Value} {n : Nat} (hn : a.tmps.size = n) (hd : d < n) : (a.put (some d) v).tmps[d]? = some v := by
  subst hn
  simp [Act.put, Array.getElem?_setIfInBounds_self_of_lt hd]

theorem put_ne {a : Act} {d t : Tmp} {v : Value} (h : d ≠ t) : (a.put (some d) v).tmps[t]? = a.tmps[t]? := by
  simp [Act.put, Array.getElem?_setIfInBounds_ne h]

/-- A temporary is written. -/
theorem Rel.set {n : Nat} {st : St} {a : Act} {W : World} (h : Rel n st a W) {o : Oper} (hd : dstOk n o = true) {s : Slot} {v : Value} (hl : s.okAt st.gs.length) (hv : s.alive = true → v = s.value st.gs) :
    Rel n (st.set o.dst s) (a.put o.dst v) W := by
  cases ho : o.dst with
  | none => exact h
  | some d =>
    have hlt : d < n := by
      simp only [dstOk, ho] at hd
      exact Nat.le_of_ble_eq_true hd
    refine ⟨h.defers, by simp [Act.put, h.size], fun t s' ht hs' => ?_, fun t s' ht => ?_, h.boxes, h.gsLen, h.gsOrd, h.gsLt, h.evo, h.clean⟩
    · by_cases hdt : d = t
      · subst hdt
        simp only [St.set, look_eq, Option.some.injEq] at ht
        subst ht
        rw [getElem?_put h.size hlt, hv hs']
        rfl
      · simp only [St.set, look_ne hdt] at ht
        rw [put_ne hdt]
        exact h.env t s' ht hs'
    · by_cases hdt : d = t
      · subst hdt
        simp only [St.set, look_eq, Option.some.injEq] at ht
        subst ht
        exact hl
      · simp only [St.set, look_ne hdt] at ht
        exact h.locs t s' ht

theorem Ext.set (st : St) (dst : Option Tmp) (s : Slot) : Ext dst.toList st (st.set dst s) := by
  cases dst with
  | none => exact Ext.refl _ _
  | some d => exact ⟨fun t ht => look_ne (fun e => ht (by simp [e])) _ _, List.prefix_rfl, rfl, fun _ _ _ => rfl, fun _ cells _ h => ⟨cells, h⟩⟩

theorem Rel.pend {n : Nat} {st : St} {a : Act} {W : World} (h : Rel n st a W) (l : List Pend) : Rel n { st with pend := l } a W :=
  ⟨h.defers, h.size, h.env, h.locs, h.boxes, h.gsLen, h.gsOrd, h.gsLt, h.evo, h.clean⟩
theorem Ext.pend (ds : List Nat) (st : St) (l : List Pend) : Ext ds st { st with pend := l } := ⟨fun _ _ => rfl, List.prefix_rfl, rfl, fun _ _ _ => rfl, fun _ cells _ h => ⟨cells, h⟩⟩
theorem Rel.putp {n : Nat} {st : St} {a : Act} {W : World} (h : Rel n st a W) (dr : Bool) (p : Pend) : Rel n (st.put dr p) a W := by
  cases dr
  · exact h
  · exact h.pend _
theorem Ext.putp (ds : List Nat) (st : St) (dr : Bool) (p : Pend) : Ext ds st (st.put dr p) := by
  cases dr
  · exact Ext.refl _ _
  · exact Ext.pend _ _ _

theorem Rel.box {n : Nat} {st : St} {a : Act} {W : World} (h : Rel n st a W) {j g : Nat} {cells : List Value} {ty : TypeId} (hb : st.boxes[j]? = some (cells, ty)) (hg : st.gs[j]? = some g) :
    W.heap[g]? = some (.cells cells.toArray ty (0, 0)) := by
  obtain ⟨g', hg', hc⟩ := h.boxes j cells ty hb
  rw [hg] at hg'
  cases hg'
  exact hc

/-! ### Loads and stores at a known block -/
section mem
variable {P : Program}

theorem addr_add (g off i : Nat) : (⟨g, off, none⟩ : Addr).add i = ⟨g, off + i, none⟩ := by
  unfold Addr.add
  split
  · rename_i h; subst h; rfl
  · rfl

theorem cell_at {W : World} {g : Nat} {cells : List Value} {ty : TypeId} {fr : Nat × Nat} (h : W.heap[g]? = some (.cells cells.toArray ty fr)) (i : Nat) : W.cell? ⟨g, i, none⟩ = cells[i]? := by
  simp [World.cell?, h]

theorem run_loadFrom {W : World} {g : Nat} {cells : List Value} {ty : TypeId} {fr : Nat × Nat} (h : W.heap[g]? = some (.cells cells.toArray ty fr)) (off : Nat) :
    ∀ (n i : Nat) (acc : Array Value), off + i + n ≤ cells.length → (loadCellsFrom ⟨g, off, none⟩ i n acc).run P W = .ok (acc ++ ((cells.drop (off + i)).take n).toArray) W
  | 0, i, acc, _ => by simp [loadCellsFrom, pure]
  | n + 1, i, acc, hl => by
    have hlt : off + i < cells.length := by omega
    have hc : W.cell? ⟨g, off + i, none⟩ = some cells[off + i] := by rw [cell_at h, List.getElem?_eq_getElem hlt]
    have hld : (load ((⟨g, off, none⟩ : Addr).add i)).run P W = .ok cells[off + i] W := by
      simp [load, Sem.run, addr_add, hc]
    rw [loadCellsFrom, run_bind_ok hld, run_loadFrom h off n (i + 1) _ (by omega)]
    congr 1
    rw [List.drop_eq_getElem_cons hlt, List.take_succ_cons]
    simp [Nat.add_assoc]

theorem run_cellLoad {W : World} {g off : Nat} {cells : List Value} {ty t : TypeId} {fr : Nat × Nat} {v : Value} (h : W.heap[g]? = some (.cells cells.toArray ty fr)) (hv : cellLoad P t cells off = some v) :
    (Instr.loadAt t (.pointer (some ⟨g, off, none⟩))).run P W = .ok v W := by
  unfold cellLoad at hv
  have hs : (Instr.sureAddr (.pointer (some ⟨g, off, none⟩))).run P W = .ok ⟨g, off, none⟩ W := rfl
  unfold Instr.loadAt
  rw [run_bind_ok hs]
  unfold loadVar
  split at hv
  · rename_i m hagg hsz
    rw [run_bind_ok (pureRun_run hagg W)]
    simp only [if_true]
    rw [run_bind_ok (pureRun_run hsz W)]
    cases hb : Nat.ble (off + m) cells.length with
    | false => simp [hb] at hv
    | true =>
      simp only [hb, cond_true, Option.some.injEq] at hv
      have hle := Nat.le_of_ble_eq_true hb
      have := run_loadFrom (P := P) h off m 0 #[] (by omega)
      rw [run_bind_ok (s := loadCells ⟨g, off, none⟩ m) this]
      subst hv
      simp [pure]
  · rename_i m hagg hsz
    rw [run_bind_ok (pureRun_run hagg W)]
    simp only [Bool.false_eq_true, if_false]
    simp [load, Sem.run, cell_at h, hv]
  · cases hv

theorem run_store_one {W : World} {ad : Addr} {v u : Value} (hc : W.cell? ad = some u) (hf : W.frozen? ad = false) (h1 : oneCell v = true) : (store ad v).run P W = .ok () (W.setCell ad v) := by
  unfold store
  cases v <;> simp [oneCell] at h1 <;> simp [Sem.run, hc, hf]

theorem frozen_none {W : World} {g : Nat} {cells : List Value} {ty : TypeId} (h : W.heap[g]? = some (.cells cells.toArray ty (0, 0))) (i : Nat) : W.frozen? ⟨g, i, none⟩ = false := by
  simp [World.frozen?, h]

theorem run_storeFrom {ty : TypeId} {g off : Nat} : ∀ (vs : List Value) (i : Nat) (W : World) (cells : List Value), W.heap[g]? = some (.cells cells.toArray ty (0, 0)) → off + i + vs.length ≤ cells.length → vs.all oneCell = true →
    ∃ W', (storeCells ⟨g, off, none⟩ vs i).run P W = .ok () W' ∧ W'.heap[g]? = some (.cells (cells.take (off + i) ++ vs ++ cells.drop (off + i + vs.length)).toArray ty (0, 0)) ∧
      (∀ b, b ≠ g → W'.heap[b]? = W.heap[b]?) ∧ W'.heap.size = W.heap.size ∧ W'.os = W.os ∧ W'.tape = W.tape ∧ W'.output = W.output
  | [], i, W, cells, h, _, _ => ⟨W, rfl, by simpa using h, fun _ _ => rfl, rfl, rfl, rfl, rfl⟩
  | v :: vs, i, W, cells, h, hl, ho => by
    simp only [List.length_cons] at hl
    simp only [List.all_cons, Bool.and_eq_true] at ho
    have hlt : off + i < cells.length := by omega
    have hc : W.cell? ⟨g, off + i, none⟩ = some cells[off + i] := by rw [cell_at h, List.getElem?_eq_getElem hlt]
    have hst : (store ((⟨g, off, none⟩ : Addr).add i) v).run P W = .ok () (W.setCell ⟨g, off + i, none⟩ v) := by
      rw [addr_add]; exact run_store_one hc (frozen_none h _) ho.1
    have h' : (W.setCell ⟨g, off + i, none⟩ v).heap[g]? = some (.cells (cells.set (off + i) v).toArray ty (0, 0)) := by
      simp [World.setCell, Array.getElem?_modify, h]
    obtain ⟨W', hr, hg, hb, hsz, h1, h2, h3⟩ := run_storeFrom (off := off) vs (i + 1) _ _ h' (by simp; omega) ho.2
    refine ⟨W', ?_, ?_, fun b hbg => ?_, ?_, h1, h2, h3⟩
    · rw [storeCells, run_bind_ok hst]; exact hr
    · rw [hg]
      congr 3
      have e1 : (cells.set (off + i) v).take (off + (i + 1)) = cells.take (off + i) ++ [v] := by
        rw [show off + (i + 1) = (off + i) + 1 from by omega, List.take_succ_eq_append_getElem (by simpa using hlt), List.take_set, List.set_eq_of_length_le (by simp only [List.length_take]; omega)]
        simp
      have e2 : (cells.set (off + i) v).drop (off + (i + 1) + vs.length) = cells.drop (off + i + (vs.length + 1)) := by
        rw [List.drop_set_of_lt (by omega)]
        congr 1
        omega
      rw [e1, e2]
      simp
    · rw [hb b hbg]
      simp only [World.setCell, Array.getElem?_modify]
      rw [if_neg (fun e => hbg e.symm)]
    · rw [hsz]; simp [World.setCell]

theorem run_cellStore {W : World} {g off : Nat} {cells cells' : List Value} {ty t : TypeId} {v : Value} (h : W.heap[g]? = some (.cells cells.toArray ty (0, 0))) (hv : cellStore P t cells off v = some cells') :
    ∃ W', (Instr.storeAt t (.pointer (some ⟨g, off, none⟩)) v).run P W = .ok () W' ∧ W'.heap[g]? = some (.cells cells'.toArray ty (0, 0)) ∧
      (∀ b, b ≠ g → W'.heap[b]? = W.heap[b]?) ∧ W'.heap.size = W.heap.size ∧ W'.os = W.os ∧ W'.tape = W.tape ∧ W'.output = W.output := by
  unfold cellStore at hv
  split at hv
  · rename_i m hsz
    cases hb : (Nat.beq v.cells.toList.length m && Nat.ble (off + m) cells.length && v.cells.toList.all oneCell) with
    | false => rw [hb] at hv; cases hv
    | true =>
      simp only [hb, cond_true, Option.some.injEq] at hv
      simp only [Bool.and_eq_true] at hb
      obtain ⟨⟨hm, hle⟩, hall⟩ := hb
      have hm' : v.cells.toList.length = m := Nat.eq_of_beq_eq_true hm
      have hle' := Nat.le_of_ble_eq_true hle
      obtain ⟨W', hr, rest⟩ := run_storeFrom (P := P) (off := off) v.cells.toList 0 W cells h (by omega) hall
      refine ⟨W', ?_, ?_⟩
      · have hs : (Instr.sureAddr (.pointer (some ⟨g, off, none⟩))).run P W = .ok ⟨g, off, none⟩ W := rfl
        unfold Instr.storeAt
        rw [run_bind_ok hs]
        unfold storeVar
        rw [run_bind_ok (pureRun_run hsz W)]
        have hne : ¬ (v.cells.size ≠ m) := by
          rw [← hm']; simp
        simp only [hne, if_false]
        exact hr
      · subst hv
        subst hm'
        simpa using rest
  · cases hv

theorem run_box {W : World} {t : TypeId} {v : Value} : (Instr.box t v).run P W = .ok (.pointer (some ⟨W.heap.size, 0, none⟩)) (W.alloc (.cells v.cells t)) := rfl

theorem run_alloc {W : World} {t : TypeId} {z : Value} (hz : pureRun P (zeroValue t) = some z) : (Instr.alloc t true (.tuple #[])).run P W = .ok (.pointer (some ⟨W.heap.size, 0, none⟩)) (W.alloc (.cells z.cells t)) := by
  unfold Instr.alloc
  rw [run_bind_ok (pureRun_run hz W)]
  rfl
end mem
end Go.Vc

/- Soundness of the formula of an operation that leaves the world as it is. -/
namespace Go.Vc
open Go Go.RowKit

theorem Sh.allF_den : ∀ (s : Sh) (f : s.T → Fm), (s.allF f).den → ∀ x, (f x).den
  | .int _, _, h, x => h x
  | .bool, _, h, x => h x
  | .str, _, h, x => h x
  | .ptr, _, h, x => h x
  | .addr, _, h, x => h x
  | .sl, _, h, (a, n, c) => h a n c
  | .mp, _, h, x => h x
  | .any, _, h, x => h x
  | .nil, _, h, () => h
  | .cons a b, _, h, (x, y) => Sh.allF_den b _ (Sh.allF_den a _ h x) y
  | .agg s, f, h, x => Sh.allF_den s f h x
  | .tup s, f, h, x => Sh.allF_den s f h x

theorem Sh.exF_den : ∀ (s : Sh) (f : s.T → Fm), (s.exF f).den → ∃ x, (f x).den
  | .int _, _, h => h
  | .bool, _, h => h
  | .str, _, h => h
  | .ptr, _, h => h
  | .addr, _, h => h
  | .sl, _, ⟨a, n, c, h⟩ => ⟨(a, n, c), h⟩
  | .mp, _, h => h
  | .any, _, h => h
  | .nil, _, h => ⟨(), h⟩
  | .cons a b, _, h => by
    obtain ⟨x, hx⟩ := Sh.exF_den a _ h
    obtain ⟨y, hy⟩ := Sh.exF_den b _ hx
    exact ⟨(x, y), hy⟩
  | .agg s, f, h => Sh.exF_den s f h
  | .tup s, f, h => Sh.exF_den s f h

section
variable {P : Program} {H : Hints} {n : Nat}

theorem run_exec_value {ρ : Operand → Value} {o : Oper} {s : Sem Value} {v : Value} {w w' : World} (hs : valSem ρ o = some s) (h : s.run P w = .ok v w') : (execOp ρ o).run P w = .ok (.value v) w' := by
  rw [valSem_spec hs]; exact run_valueS h

/-- What the formula of a quiet operation gives. -/
def QuietDone (P : Program) (n : Nat) (dr : Bool) (i : Nat) (o : Oper) (k : St → Fm) (st : St) (a : Act) (W : World) : Prop :=
  ∃ v s p, (k ((st.set o.dst s).put dr p)).den ∧ Rel n (st.set o.dst s) (a.put o.dst v) W ∧ p.idx = i ∧ p.inGs st.gs ∧ p.holds P W ∧ ∀ W', p.holds P W' → (execOp a.eval o).run P W' = .ok (.value v) W'

theorem pureF_sound {dr : Bool} {i : Nat} {o : Oper} {k : St → Fm} {st : St} {a : Act} {W : World} (hns : ∀ cs b, o.op ≠ .select cs b) (hd : dstOk n o = true)
    (h : (pureF P H dr i o k st).den) (hr : Rel n st a W) : QuietDone P n dr i o k st a W := by
  unfold pureF at h
  cases hal : st.alive o with
  | false => rw [hal] at h; exact h.elim
  | true =>
    rw [hal] at h
    simp only [cond_true] at h
    have he := hr.exec hns hal
    cases hop : hasO H.asks o.dst with
    | true =>
      rw [hop] at h
      simp only [cond_true] at h
      cases hv : valSem st.rho o with
      | none => rw [hv] at h; exact h.elim
      | some s =>
        rw [hv] at h
        obtain ⟨x, hg, hk⟩ := Sh.exF_den _ _ h
        exact ⟨_, .val _, .pure i, hk, hr.set hd trivial fun _ => rfl, rfl, trivial, trivial, fun W' _ => by rw [he]; exact run_exec_value hv (hg W')⟩
    | false =>
      rw [hop] at h
      simp only [cond_false] at h
      split at h
      · rename_i v hp
        exact ⟨v, .val v, .pure i, h, hr.set hd trivial fun _ => rfl, rfl, trivial, trivial, fun W' _ => by rw [he]; exact runQ_run hp W'⟩
      · exact h.elim

theorem readF_sound {dr : Bool} {i : Nat} {o : Oper} {k : St → Fm} {st : St} {a : Act} {W : World} (hns : ∀ cs b, o.op ≠ .select cs b) (hd : dstOk n o = true)
    (h : (readF P dr i o k st).den) (hr : Rel n st a W) : QuietDone P n dr i o k st a W := by
  unfold readF at h
  cases hal : st.alive o with
  | false => rw [hal] at h; exact h.elim
  | true =>
    rw [hal] at h
    simp only [cond_true] at h
    have he := hr.exec hns hal
    cases hv : valSem st.rho o with
    | none => rw [hv] at h; exact h.elim
    | some s =>
      rw [hv] at h
      obtain ⟨x, hg, hk⟩ := Sh.exF_den _ _ h
      exact ⟨_, .val _, .read i s _, hk, hr.set hd trivial fun _ => rfl, rfl, trivial, hg W (evoP_of hr.evo), fun W' hw => by rw [he]; exact run_exec_value hv hw⟩

theorem copyF_sound {dr : Bool} {i : Nat} {o : Oper} {x : Operand} {k : St → Fm} {st : St} {a : Act} {W : World} (hd : dstOk n o = true)
    (h : (copyF dr i o x k st).den) (hr : Rel n st a W) (he : a.eval x = st.rho x → ∀ W', (execOp a.eval o).run P W' = .ok (.value (a.eval x)) W') : QuietDone P n dr i o k st a W := by
  unfold copyF at h
  cases hal : (st.slot x).alive with
  | false => rw [hal] at h; exact h.elim
  | true =>
    rw [hal] at h
    have hx := hr.rho hal
    exact ⟨a.eval x, st.slot x, .pure i, h, hr.set hd (hr.slotOk x) fun _ => hx, rfl, trivial, trivial, fun W' _ => he hx W'⟩

theorem boolOf_spec {s : Slot} {b : Bool} {gs : List Nat} (h : boolOf s = some b) : s.alive = true ∧ s.value gs = .bool b := by
  unfold boolOf at h
  split at h
  · cases h; exact ⟨rfl, rfl⟩
  · cases h; exact ⟨rfl, rfl⟩
  · cases h

theorem fieldOff_spec {s : TypeId} {f d : Nat} {ad : Addr} (h : fieldOff P s f = some d) (W : World) : (Instr.fieldAt s (.pointer (some ad)) f).run P W = .ok (.pointer (some (ad.add d))) W := by
  unfold fieldOff at h
  split at h
  · rename_i fs hu
    split at h
    · rename_i fl hfl
      split at h
      · rename_i m hsz
        cases h
        unfold Instr.fieldAt
        have h1 : (underlying s).run P W = .ok (.struct fs) W := by
          simp [underlying, program, bind, Sem.bind, Sem.run, hu, pure]
        rw [run_bind_ok h1]
        simp only [hfl]
        have h2 : (Instr.sureAddr (.pointer (some ad))).run P W = .ok ad W := rfl
        rw [run_bind_ok h2]
        have h3 : (fieldPlace ad fl).run P W = .ok (ad.add fl.offset) W := by
          unfold fieldPlace
          rw [run_bind_ok (pureRun_run hsz W)]
          simp [pure]
        rw [run_bind_ok h3]
        rfl
      · cases h
    · cases h
  · cases h

theorem run_underlying' {t : TypeId} {d : TypeDesc} (h : P.underlying t = some d) (W : World) : (underlying t).run P W = .ok d W := by
  simp [underlying, program, bind, Sem.bind, Sem.run, h, pure]

theorem arrOff_spec {t : TypeId} {ix : Value} {d : Nat} {ad : Addr} (h : arrOff P t ix = some d) (W : World) : (Instr.indexAt t (.pointer (some ad)) ix).run P W = .ok (.pointer (some (ad.add d))) W := by
  unfold arrOff at h
  split at h
  · rename_i len e k i hu
    split at h
    · rename_i sz hsz
      cases hb : decide (0 ≤ i ∧ i < len) with
      | false => rw [hb] at h; cases h
      | true =>
        rw [hb] at h
        simp only [cond_true, Option.some.injEq] at h
        subst h
        have hb' := of_decide_eq_true hb
        unfold Instr.indexAt
        have h0 : (asIntOf (.int k i)).run P W = .ok (k, i) W := rfl
        rw [run_bind_ok h0]
        rw [run_bind_ok (run_underlying' hu W)]
        have h2 : (Instr.sureAddr (.pointer (some ad))).run P W = .ok ad W := rfl
        rw [run_bind_ok h2]
        simp only [pure_bind]
        rw [run_bind_ok (run_underlying' hu W)]
        simp only [hb', and_self, if_true]
        rw [run_bind_ok (pureRun_run hsz W)]
        rfl
    · cases h
  · cases h
end
end Go.Vc

/- Soundness of the formula of a quiet operation, whatever its kind. -/
namespace Go.Vc
open Go Go.RowKit

section
variable {P : Program} {H : Hints} {n : Nat}

theorem run_asBool (b : Bool) (W : World) : (asBool (.bool b)).run P W = .ok b W := rfl

theorem run_pick {ρ : Operand → Value} {o : Oper} {c x y : Operand} {b : Bool} (ho : o.op = .pick c x y) (hc : ρ c = .bool b) (W : World) :
    (execOp ρ o).run P W = .ok (.value (if b = true then ρ x else ρ y)) W := by
  simp only [execOp, ho, hc]
  rw [run_bind_ok (run_asBool b W)]
  rfl

theorem evalQ_sound {dr : Bool} {i : Nat} {o : Oper} {k : St → Fm} {st : St} {a : Act} {W : World} (hns : ∀ cs b, o.op ≠ .select cs b) (hd : dstOk n o = true)
    (h : (evalQ P H dr i o k st).den) (hr : Rel n st a W) : QuietDone P n dr i o k st a W := by
  unfold evalQ at h
  split at h
  case h_1 x ho => exact copyF_sound hd h hr fun _ W' => by simp [execOp, ho, pure]
  case h_2 x ho => exact copyF_sound hd h hr fun _ W' => by simp [execOp, ho, pure]
  case h_3 c x y ho =>
    split at h
    · rename_i hc
      have hce : a.eval c = .bool true := by rw [hr.rho (x := c) (by rw [hc]; rfl), St.rho, hc]; rfl
      exact copyF_sound hd h hr fun _ W' => by rw [run_pick ho hce]; rfl
    · rename_i hc
      have hce : a.eval c = .bool false := by rw [hr.rho (x := c) (by rw [hc]; rfl), St.rho, hc]; rfl
      exact copyF_sound hd h hr fun _ W' => by rw [run_pick ho hce]; rfl
    · rename_i c' hc
      have hce : a.eval c = .bool c' := by rw [hr.rho (x := c) (by rw [hc]; rfl), St.rho, hc]; rfl
      split at h
      · rename_i bx b_y hx hy
        have hxe : a.eval x = .bool bx := by rw [hr.rho (boolOf_spec (gs := st.gs) hx).1]; exact (boolOf_spec hx).2
        have hye : a.eval y = .bool b_y := by rw [hr.rho (boolOf_spec (gs := st.gs) hy).1]; exact (boolOf_spec hy).2
        refine ⟨_, .val _, .pure i, h, hr.set hd trivial fun _ => rfl, rfl, trivial, trivial, fun W' _ => ?_⟩
        rw [run_pick ho hce, hxe, hye]
        cases c' <;> rfl
      · exact h.elim
    · exact h.elim
  case h_4 x ho =>
    split at h
    · rename_i j off hx
      have hxe : a.eval x = .pointer (some ⟨st.gs.getD j 0, off, none⟩) := by rw [hr.rho (x := x) (by rw [hx]; rfl), St.rho, hx]; rfl
      refine ⟨_, .loc j off, .pure i, h, hr.set hd (by have := hr.slotOk x; rw [hx] at this; exact this) fun _ => rfl, rfl, trivial, trivial, fun W' _ => ?_⟩
      simp only [execOp, ho, hxe]
      rfl
    · rename_i v hx
      have hxe : a.eval x = v := by rw [hr.rho (x := x) (by rw [hx]; rfl), St.rho, hx]; rfl
      cases hop : hasO H.asks o.dst with
      | true =>
        rw [hop] at h
        simp only [cond_true] at h
        split at h
        · obtain ⟨ad, rfl, hk⟩ := h
          refine ⟨_, .val _, .pure i, hk, hr.set hd trivial fun _ => rfl, rfl, trivial, trivial, fun W' _ => ?_⟩
          simp only [execOp, ho, hxe]
          rfl
        · exact h.elim
      | false =>
        rw [hop] at h
        simp only [cond_false] at h
        split at h
        · rename_i u hp
          have hal : st.alive o = true := by
            simp only [St.alive, ho, Op.operands, List.all_eq_true]
            intro y hy
            simp only [List.mem_singleton] at hy
            subst hy
            rw [hx]; rfl
          refine ⟨u, .val u, .pure i, h, hr.set hd trivial fun _ => rfl, rfl, trivial, trivial, fun W' _ => ?_⟩
          rw [hr.exec hns hal]
          exact pureRun_run hp W'
        · exact h.elim
    · exact h.elim
  case h_5 t x ho =>
    split at h
    · rename_i j off hx
      split at h
      · rename_i cells ty g hb hg
        split at h
        · rename_i v hv
          have hgd : st.gs.getD j 0 = g := by simp [List.getD_eq_getElem?_getD, hg]
          have hxe : a.eval x = .pointer (some ⟨g, off, none⟩) := by rw [hr.rho (x := x) (by rw [hx]; rfl), St.rho, hx, ← hgd]; rfl
          refine ⟨v, .val v, .box i g cells ty, h, hr.set hd trivial fun _ => rfl, rfl, List.mem_of_getElem? hg, hr.box hb hg, fun W' hw => ?_⟩
          have := run_cellLoad (P := P) hw hv
          simp only [execOp, ho, hxe]
          exact run_valueS this
        · exact h.elim
      · exact h.elim
    · exact readF_sound hns hd h hr
  case h_6 s x f ho =>
    split at h
    · rename_i j off hx
      split at h
      · rename_i d hf
        have hxe : a.eval x = .pointer (some ⟨st.gs.getD j 0, off, none⟩) := by rw [hr.rho (x := x) (by rw [hx]; rfl), St.rho, hx]; rfl
        refine ⟨_, .loc j (off + d), .pure i, h, hr.set hd (by have := hr.slotOk x; rw [hx] at this; exact this) fun _ => rfl, rfl, trivial, trivial, fun W' _ => ?_⟩
        have := fieldOff_spec (ad := ⟨st.gs.getD j 0, off, none⟩) hf W'
        rw [addr_add] at this
        simp only [execOp, ho, hxe]
        exact run_valueS this
      · exact h.elim
    · exact pureF_sound hns hd h hr
  case h_7 t x ix ho =>
    split at h
    · rename_i j off hx
      split at h
      · rename_i d hf
        cases hal : (st.slot ix).alive with
        | false => rw [hal] at h; exact h.elim
        | true =>
          rw [hal] at h
          have hxe : a.eval x = .pointer (some ⟨st.gs.getD j 0, off, none⟩) := by rw [hr.rho (x := x) (by rw [hx]; rfl), St.rho, hx]; rfl
          have hie : a.eval ix = st.rho ix := hr.rho hal
          refine ⟨_, .loc j (off + d), .pure i, h, hr.set hd (by have := hr.slotOk x; rw [hx] at this; exact this) fun _ => rfl, rfl, trivial, trivial, fun W' _ => ?_⟩
          have := arrOff_spec (ad := ⟨st.gs.getD j 0, off, none⟩) hf W'
          rw [addr_add] at this
          simp only [execOp, ho, hxe, hie]
          exact run_valueS this
      · exact h.elim
    · exact pureF_sound hns hd h hr
  case h_8 =>
    cases hrd : isRead P o with
    | true => rw [hrd] at h; exact readF_sound hns hd h hr
    | false => rw [hrd] at h; exact pureF_sound hns hd h hr
end
end Go.Vc

/- Soundness of the formula of an operation that changes the world: a box of the function's own, a store into one, a call, whatever others may see. -/
namespace Go.Vc
open Go Go.RowKit

section
variable {P : Program} {H : Hints} {n : Nat}

def PendOk (P : Program) (l : List Pend) (gs : List Nat) (W : World) : Prop := ∀ p ∈ l, p.inGs gs ∧ p.holds P W

theorem leftPend_mem {wt : Nat → Bool} {l : List Pend} {p : Pend} (h : p ∈ leftPend wt l) : p ∈ l := (List.mem_filter.1 h).1

theorem PendOk.left {l : List Pend} {gs : List Nat} {W : World} (h : PendOk P l gs W) (wt : Nat → Bool) : PendOk P (leftPend wt l) gs W := fun p hp => h p (leftPend_mem hp)

theorem withW_den {st : St} {body : World → Fm} {a : Act} {W : World} (h : (withW st body).den) (hr : Rel n st a W) : (body W).den := by
  unfold withW at h
  cases hc : st.clean with
  | true => rw [hc] at h; rw [hr.clean hc]; exact h
  | false =>
    rw [hc] at h
    have h1 := h W (evoP_of hr.evo)
    split at h1
    · exact h1
    · rename_i g r hg
      exact h1 (by rw [← hg]; exact hr.gsLt)

theorem boxF_den {st : St} {a : Act} {W : World} (hr : Rel n st a W) : ∀ (l : List Nat) (f : Fm), (boxF st W l f).den → f.den
  | [], _, h => h
  | j :: r, f, h => by
    unfold boxF at h
    split at h
    · rename_i cells ty g hb hg
      exact boxF_den hr r f (h (hr.box hb hg))
    · exact boxF_den hr r f h

theorem keepF_den {gs : List Nat} {W W' : World} {f : Fm} (h : (keepF gs W W' f).den) : Keeps gs W W' ∧ f.den := by
  unfold keepF at h
  split at h
  · exact ⟨fun g hg => by simp at hg, h⟩
  · exact h

theorem pendF_den {ds : List Nat} {w : World} : ∀ (l : List Pend) (f : Fm), (pendF P ds w l f).den → (∀ i s v, Pend.read i s v ∈ l → Reads P ds s w v) ∧ f.den
  | [], _, h => ⟨fun _ _ _ hm => by simp at hm, h⟩
  | .read i s v :: r, f, h => by
    obtain ⟨h1, h2⟩ := pendF_den r f h.2
    refine ⟨fun i' s' v' hm => ?_, h2⟩
    rcases List.mem_cons.1 hm with hm | hm
    · cases hm; exact h.1
    · exact h1 i' s' v' hm
  | .pure i :: r, f, h => by
    obtain ⟨h1, h2⟩ := pendF_den r f h
    refine ⟨fun i' s' v' hm => ?_, h2⟩
    rcases List.mem_cons.1 hm with hm | hm
    · cases hm
    · exact h1 i' s' v' hm
  | .box i g c t :: r, f, h => by
    obtain ⟨h1, h2⟩ := pendF_den r f h
    refine ⟨fun i' s' v' hm => ?_, h2⟩
    rcases List.mem_cons.1 hm with hm | hm
    · cases hm
    · exact h1 i' s' v' hm

/-- What follows an operation, in the machine's terms. -/
def After (P : Program) (n : Nat) (wt : Nat → Bool) (o : Oper) (k : St → Fm) (st : St) (a : Act) (next : Act → World → Prop) : Prop :=
  ∀ st' v W', (k st').den → Rel n st' (a.put o.dst v) W' → Ext o.dst.toList st st' → st'.pend = leftPend wt st.pend → PendOk P st'.pend st'.gs W' → next (a.put o.dst v) W'

theorem alloc_size (W : World) (o : Obj) : (W.alloc o).heap.size = W.heap.size + 1 := Array.size_push ..

theorem evo_alloc {ds : List Nat} {w W : World} (h : Evo ds w W) (o : Obj) : Evo ds w (W.alloc o) :=
  ⟨h.os, h.tape, h.output, by have := h.size; rw [alloc_size]; omega, fun b hb hd => by rw [Below.heap_alloc W o b (by have := h.size; omega)]; exact h.block b hb hd, h.drawn⟩

theorem boxE_sound {wt : Nat → Bool} {o : Oper} {t : TypeId} {cells : List Value} {k : St → Fm} {st : St} {a : Act} {W : World} {next : Act → World → Prop} (hd : dstOk n o = true)
    (h : (boxE P wt o t cells k st).den) (hr : Rel n st a W) (hp : PendOk P st.pend st.gs W) (hk : After P n wt o k st a next) :
    next (a.put o.dst (.pointer (some ⟨W.heap.size, 0, none⟩))) (W.alloc (.cells cells.toArray t)) := by
  have h1 := h W.heap.size hr.evo.size
  obtain ⟨hreads, hden⟩ := pendF_den _ _ h1
  have hev := evo_alloc hr.evo (.cells cells.toArray t)
  have hnew : (W.alloc (.cells cells.toArray t)).heap[W.heap.size]? = some (.cells cells.toArray t (0, 0)) := heap_alloc_new W _
  have hval : ∀ s : Slot, s.okAt st.gs.length → s.value (st.gs ++ [W.heap.size]) = s.value st.gs := by
    intro s hs
    cases s with
    | loc j off =>
      have hj : j < st.gs.length := hs
      simp only [Slot.value, List.getD_eq_getElem?_getD]
      rw [List.getElem?_append_left hj]
    | _ => rfl
  have hrel0 : Rel n { st with boxes := st.boxes ++ [(cells, t)], gs := st.gs ++ [W.heap.size], clean := false, pend := leftPend wt st.pend } a (W.alloc (.cells cells.toArray t)) := by
    refine ⟨hr.defers, hr.size, fun t' s ht hs => ?_, fun t' s ht => ?_, fun j cs ty hj => ?_, by simp [hr.gsLen], ?_, fun g hg => ?_, hev, fun hc => by cases hc⟩
    · rw [hr.env t' s ht hs]; exact congrArg some (hval s (hr.locs t' s ht)).symm
    · have := hr.locs t' s ht
      cases s with
      | loc j off => exact Nat.lt_of_lt_of_le (show j < st.gs.length from this) (by simp)
      | _ => trivial
    · simp only at hj ⊢
      by_cases hlt : j < st.boxes.length
      · rw [List.getElem?_append_left hlt] at hj
        obtain ⟨g, hg, hc⟩ := hr.boxes j cs ty hj
        refine ⟨g, ?_, ?_⟩
        · rw [List.getElem?_append_left (by rw [hr.gsLen]; exact hlt)]; exact hg
        · rw [Below.heap_alloc W _ g (hr.gsLt g (List.mem_of_getElem? hg))]; exact hc
      · have hj' : j = st.boxes.length := by
          have := (List.getElem?_eq_some_iff.1 hj).1
          simp at this
          omega
        subst hj'
        simp at hj
        obtain ⟨rfl, rfl⟩ := hj
        exact ⟨W.heap.size, by rw [← hr.gsLen]; simp, hnew⟩
    · simp only
      rw [List.pairwise_append]
      exact ⟨hr.gsOrd, by simp, fun x hx y hy => by simp at hy; subst hy; exact hr.gsLt x hx⟩
    · simp only [List.mem_append, List.mem_singleton] at hg
      rcases hg with hg | hg
      · have := hr.gsLt g hg; rw [alloc_size]; omega
      · subst hg; rw [alloc_size]; omega
  refine hk _ _ _ hden (hrel0.set hd ?_ ?_) ?_ ?_ ?_
  · show st.boxes.length < (st.gs ++ [W.heap.size]).length
    simp [hr.gsLen]
  · intro _
    simp only [Slot.value]
    rw [← hr.gsLen]
    simp [List.getD_eq_getElem?_getD]
  · refine Ext.trans (ds := []) (b := { st with boxes := st.boxes ++ [(cells, t)], gs := st.gs ++ [W.heap.size], clean := false, pend := leftPend wt st.pend }) ⟨fun _ _ => rfl, ?_, rfl, fun j _ hj => ?_, fun j c ty hj => ⟨c, ?_⟩⟩ (Ext.set _ _ _)
    · exact List.prefix_append _ _
    · exact List.getElem?_append_left hj
    · show (st.boxes ++ _)[j]? = _
      rw [List.getElem?_append_left (List.getElem?_eq_some_iff.1 hj).1]; exact hj
  · cases o.dst <;> rfl
  · have hgs : ({ st with boxes := st.boxes ++ [(cells, t)], gs := st.gs ++ [W.heap.size], clean := false, pend := leftPend wt st.pend }.set o.dst (.loc st.boxes.length 0)).gs = st.gs ++ [W.heap.size] := by cases o.dst <;> rfl
    have hpd : ({ st with boxes := st.boxes ++ [(cells, t)], gs := st.gs ++ [W.heap.size], clean := false, pend := leftPend wt st.pend }.set o.dst (.loc st.boxes.length 0)).pend = leftPend wt st.pend := by cases o.dst <;> rfl
    rw [hgs, hpd]
    intro p hpm
    obtain ⟨hin, hh⟩ := hp p (leftPend_mem hpm)
    cases p with
    | pure i => exact ⟨trivial, trivial⟩
    | box i g c ty =>
      refine ⟨List.mem_append_left _ hin, ?_⟩
      show (W.alloc _).heap[g]? = _
      rw [Below.heap_alloc W _ g (hr.gsLt g hin)]
      exact hh
    | read i s v => exact ⟨trivial, hreads i s v hpm _ (evoP_of hev)⟩

theorem storeE_sound {wt : Nat → Bool} {o : Oper} {t : TypeId} {j off : Nat} {v : Value} {k : St → Fm} {st : St} {a : Act} {W : World} {next : Act → World → Prop} (hd : dstOk n o = true)
    (h : (storeE P wt o t j off v k st).den) (hr : Rel n st a W) (hp : PendOk P st.pend st.gs W) (hk : After P n wt o k st a next) :
    ∃ W', (Instr.storeAt t (.pointer (some ⟨st.gs.getD j 0, off, none⟩)) v).run P W = .ok () W' ∧ next (a.put o.dst undef) W' := by
  unfold storeE at h
  split at h
  · rename_i cells ty g hb hg
    have hgd : st.gs.getD j 0 = g := by simp [List.getD_eq_getElem?_getD, hg]
    split at h
    · rename_i cells' hc
      obtain ⟨W', hrun, hW, hoth, hsz, hos, htp, hout⟩ := run_cellStore (P := P) (hr.box hb hg) hc
      refine ⟨W', by rw [hgd]; exact hrun, ?_⟩
      cases hbad : (has st.ro j || (leftPend wt st.pend).any Pend.isBox) with
      | true => rw [hbad] at h; exact h.elim
      | false =>
        rw [hbad] at h
        simp only [Bool.or_eq_false_iff] at hbad
        obtain ⟨hreads, hden⟩ := pendF_den _ _ h
        have hjl : j < st.boxes.length := (List.getElem?_eq_some_iff.1 hb).1
        have hev : Evo (g :: st.dirty) st.w W' := ⟨hos.trans hr.evo.os, htp.trans hr.evo.tape, hout.trans hr.evo.output, by rw [hsz]; exact hr.evo.size, fun b hbl hbd => by
          simp only [List.mem_cons, not_or] at hbd
          rw [hoth b hbd.1]
          exact hr.evo.block b hbl hbd.2, Nat.le_trans hr.evo.drawn (run_drawn hrun)⟩
        have hrel0 : Rel n { st with boxes := st.boxes.set j (cells', ty), dirty := g :: st.dirty, clean := false, pend := leftPend wt st.pend } a W' := by
          refine ⟨hr.defers, hr.size, hr.env, hr.locs, fun i cs ty' hi => ?_, by simp [hr.gsLen], hr.gsOrd, fun g' hg' => by rw [hsz]; exact hr.gsLt g' hg', hev, fun hc => by cases hc⟩
          simp only at hi ⊢
          by_cases hij : j = i
          · subst hij
            rw [List.getElem?_set_self hjl] at hi
            cases hi
            exact ⟨g, hg, hW⟩
          · rw [List.getElem?_set_ne hij] at hi
            obtain ⟨g', hg', hc'⟩ := hr.boxes i cs ty' hi
            refine ⟨g', hg', ?_⟩
            rw [hoth g' ?_]
            · exact hc'
            · intro e
              subst e
              obtain ⟨hl1, he1⟩ := List.getElem?_eq_some_iff.1 hg
              obtain ⟨hl2, he2⟩ := List.getElem?_eq_some_iff.1 hg'
              have hpw := List.pairwise_iff_getElem.1 hr.gsOrd
              rcases Nat.lt_or_gt_of_ne hij with hlt | hlt
              · have := hpw j i hl1 hl2 hlt; omega
              · have := hpw i j hl2 hl1 hlt; omega
        have hgs : ({ st with boxes := st.boxes.set j (cells', ty), dirty := g :: st.dirty, clean := false, pend := leftPend wt st.pend }.set o.dst .dead).gs = st.gs := by cases o.dst <;> rfl
        have hpd : ({ st with boxes := st.boxes.set j (cells', ty), dirty := g :: st.dirty, clean := false, pend := leftPend wt st.pend }.set o.dst .dead).pend = leftPend wt st.pend := by cases o.dst <;> rfl
        refine hk _ _ _ hden (hrel0.set hd trivial (fun hx => by cases hx)) ?_ hpd ?_
        · refine Ext.trans (ds := []) (b := { st with boxes := st.boxes.set j (cells', ty), dirty := g :: st.dirty, clean := false, pend := leftPend wt st.pend }) ⟨fun _ _ => rfl, List.prefix_rfl, rfl, fun i hi _ => ?_, fun i c ty' hi => ?_⟩ (Ext.set _ _ _)
          · refine List.getElem?_set_ne ?_
            intro e
            subst e
            have : has st.ro j = true := by
              simp only [has, List.any_eq_true]
              exact ⟨j, hi, Nat.beq_refl j⟩
            rw [this] at hbad
            exact absurd hbad.1 (by simp)
          · show ∃ c', (st.boxes.set j (cells', ty))[i]? = some (c', ty')
            by_cases hij : j = i
            · subst hij
              rw [hb] at hi
              cases hi
              exact ⟨cells', List.getElem?_set_self hjl⟩
            · exact ⟨c, by rw [List.getElem?_set_ne hij]; exact hi⟩
        · rw [hgs, hpd]
          intro p hpm
          obtain ⟨hin, hh⟩ := hp p (leftPend_mem hpm)
          cases p with
          | pure i => exact ⟨trivial, trivial⟩
          | box i g' c ty' =>
            have := List.any_eq_false.1 hbad.2 _ hpm
            simp [Pend.isBox] at this
          | read i s u => exact ⟨trivial, hreads i s u hpm _ (evoP_of hev)⟩
    · exact h.elim
  · exact h.elim

/-- Behind a call, or whatever others may see. -/
theorem Rel.after {st : St} {a : Act} {W W' : World} (hr : Rel n st a W) (wt : Nat → Bool) (hkeep : Keeps st.gs W W') : Rel n (afterW wt st W') a W' := by
  refine ⟨hr.defers, hr.size, hr.env, hr.locs, fun j cs ty hj => ?_, hr.gsLen, hr.gsOrd, fun g hg => ?_, Evo.refl _, fun _ => rfl⟩
  · obtain ⟨g, hg, hc⟩ := hr.boxes j cs ty hj
    exact ⟨g, hg, by rw [hkeep g (List.mem_of_getElem? hg)]; exact hc⟩
  · have h1 := hkeep g hg
    have h2 := hr.gsLt g hg
    rw [Array.getElem?_eq_getElem h2] at h1
    exact (Array.getElem?_eq_some_iff.1 h1).1

theorem pend_after {wt : Nat → Bool} {st : St} {W W' : World} (hp : PendOk P st.pend st.gs W) (hkeep : Keeps st.gs W W') (hreads : ∀ i s v, Pend.read i s v ∈ leftPend wt st.pend → Reads P [] s W' v) :
    PendOk P (leftPend wt st.pend) st.gs W' := by
  intro p hpm
  obtain ⟨hin, hh⟩ := hp p (leftPend_mem hpm)
  cases p with
  | pure i => exact ⟨trivial, trivial⟩
  | box i g c ty => exact ⟨hin, (hkeep g hin).trans hh⟩
  | read i s v => exact ⟨trivial, hreads i s v hpm W' (Bel.refl _)⟩

theorem tail_sound {wt : Nat → Bool} {o : Oper} {k : St → Fm} {st : St} {a : Act} {W W' : World} {next : Act → World → Prop} {s : Slot} {v : Value} (hd : dstOk n o = true) (hr : Rel n st a W)
    (hp : PendOk P st.pend st.gs W) (hk : After P n wt o k st a next) (hs : s.okAt st.gs.length) (hv : s.alive = true → v = s.value st.gs)
    (h : (keepF st.gs W W' (pendF P [] W' (leftPend wt st.pend) (k ((afterW wt st W').set o.dst s)))).den) : next (a.put o.dst v) W' := by
  obtain ⟨hkeep, h1⟩ := keepF_den h
  obtain ⟨hreads, hden⟩ := pendF_den _ _ h1
  have hrel := hr.after wt hkeep
  have hgs : ((afterW wt st W').set o.dst s).gs = st.gs := by cases o.dst <;> rfl
  have hpd : ((afterW wt st W').set o.dst s).pend = leftPend wt st.pend := by cases o.dst <;> rfl
  refine hk _ _ _ hden (hrel.set hd hs hv) ?_ hpd ?_
  · exact Ext.trans (ds := []) (b := afterW wt st W') ⟨fun _ _ => rfl, List.prefix_rfl, rfl, fun _ _ _ => rfl, fun _ c _ h => ⟨c, h⟩⟩ (Ext.set _ _ _)
  · rw [hgs, hpd]; exact pend_after hp hkeep hreads

theorem upon_of_opw {r : Option Nat} {nn : Nat} {o : Oper} {a : Act} {next : Act → World → Prop} {Q : Exit → Act → World → Prop} {s : Sem Next} {W : World} {K : Value → World → Prop} (h : OpW P s W K)
    (hn : ∀ v W', K v W' → next (a.put o.dst v) W') : o.uponIn (FW r) nn P a next Q (s.run P W) := by
  unfold OpW at h
  generalize s.run P W = r at h ⊢
  cases r with
  | halt x w => exact h.elim
  | ok x w =>
    cases x <;> try exact h.elim
    case value v => exact hn v w h
    case skip => exact hn _ w h
    case enter f args =>
      refine ⟨(fun hx => by cases hx), CallsIn.mono ((callsIn_wide (n := nn - 1)).2 h : CallsIn (FW r) (nn - 1) P f args w _) fun e w'' he => ?_⟩
      obtain ⟨v, rfl, hv⟩ := he
      exact hn v w'' hv
    case round l f tmps assign body =>
      refine ⟨(fun hx => by cases hx), RoundIn.mono (h (nn - 1) : RoundIn (FW r) (nn - 1) P l f tmps assign body w _) fun e w'' he => ?_⟩
      obtain ⟨v, rfl, hv⟩ := he
      exact hn v w'' hv

theorem effV_sound {r : Option Nat} {nn : Nat} {wt : Nat → Bool} {o : Oper} {k : St → Fm} {st : St} {a : Act} {W : World} {next : Act → World → Prop} {Q : Exit → Act → World → Prop} (hns : ∀ cs b, o.op ≠ .select cs b) (hnd : ∀ c, o.op ≠ .defer c) (hd : dstOk n o = true) (hal : st.alive o = true)
    (h : (effV P wt o k st).den) (hr : Rel n st a W) (hp : PendOk P st.pend st.gs W) (hk : After P n wt o k st a next) : o.wpIn (FW r) nn P a W next Q := by
  have h1 := boxF_den hr _ _ (withW_den h hr)
  unfold Oper.wpIn
  refine ⟨fun _ _ => trivial, ?_⟩
  rw [Oper.semAt_eq _ _ _ hnd, hr.exec hns hal, ← effSem_spec]
  refine upon_of_opw h1 fun v W' hv => ?_
  obtain ⟨x, rfl, hx⟩ := Sh.exF_den _ _ hv
  exact tail_sound (s := .val _) hd hr hp hk trivial (fun _ => rfl) hx

theorem effVS_sound {r : Option Nat} {nn : Nat} {s : Sh} {wt : Nat → Bool} {o : Oper} {k : St → Fm} {st : St} {a : Act} {W : World} {next : Act → World → Prop} {Q : Exit → Act → World → Prop} (hns : ∀ cs b, o.op ≠ .select cs b) (hnd : ∀ c, o.op ≠ .defer c) (hd : dstOk n o = true) (hal : st.alive o = true)
    (h : (effVS P s wt o k st).den) (hr : Rel n st a W) (hp : PendOk P st.pend st.gs W) (hk : After P n wt o k st a next) : o.wpIn (FW r) nn P a W next Q := by
  have h1 := boxF_den hr _ _ (withW_den h hr)
  unfold Oper.wpIn
  refine ⟨fun _ _ => trivial, ?_⟩
  rw [Oper.semAt_eq _ _ _ hnd, hr.exec hns hal, ← effSem_spec]
  refine upon_of_opw h1 fun v W' hv => ?_
  obtain ⟨x, rfl, hx⟩ := Sh.exF_den _ _ hv
  exact tail_sound (s := .val _) hd hr hp hk trivial (fun _ => rfl) hx

theorem effU_sound {r : Option Nat} {nn : Nat} {wt : Nat → Bool} {o : Oper} {k : St → Fm} {st : St} {a : Act} {W : World} {next : Act → World → Prop} {Q : Exit → Act → World → Prop} (hns : ∀ cs b, o.op ≠ .select cs b) (hnd : ∀ c, o.op ≠ .defer c) (hd : dstOk n o = true) (hal : st.alive o = true)
    (h : (effU P wt o k st).den) (hr : Rel n st a W) (hp : PendOk P st.pend st.gs W) (hk : After P n wt o k st a next) : o.wpIn (FW r) nn P a W next Q := by
  have h1 := boxF_den hr _ _ (withW_den h hr)
  unfold Oper.wpIn
  refine ⟨fun _ _ => trivial, ?_⟩
  rw [Oper.semAt_eq _ _ _ hnd, hr.exec hns hal, ← effSem_spec]
  refine upon_of_opw h1 fun v W' hv => ?_
  exact tail_sound (s := .dead) hd hr hp hk trivial (fun hx => by cases hx) hv

theorem nextE_sound {r : Option Nat} {nn : Nat} {wt : Nat → Bool} {o : Oper} {k : St → Fm} {st : St} {a : Act} {W : World} {next : Act → World → Prop} {Q : Exit → Act → World → Prop} (hns : ∀ cs b, o.op ≠ .select cs b) (hnd : ∀ c, o.op ≠ .defer c) (hd : dstOk n o = true) (hal : st.alive o = true)
    (h : (nextE P H wt o k st).den) (hr : Rel n st a W) (hp : PendOk P st.pend st.gs W) (hk : After P n wt o k st a next) : o.wpIn (FW r) nn P a W next Q := by
  have h1 := boxF_den hr _ _ (withW_den h hr)
  unfold Oper.wpIn
  refine ⟨fun _ _ => trivial, ?_⟩
  rw [Oper.semAt_eq _ _ _ hnd, hr.exec hns hal, ← effSem_spec]
  refine upon_of_opw h1 fun v W' hv => ?_
  obtain ⟨hv0, hv1, hv2⟩ := hv
  rcases hv0 with rfl | ⟨x, rfl⟩
  · exact tail_sound (s := .val _) hd hr hp hk trivial (fun _ => rfl) (hv1 rfl)
  · exact tail_sound (s := .val _) hd hr hp hk trivial (fun _ => rfl) (Sh.allF_den _ _ hv2 x rfl)

theorem callE_sound {r : Option Nat} {nn : Nat} {wt : Nat → Bool} {o : Oper} {f : FuncId} {args : Array Value} {k : St → Fm} {st : St} {a : Act} {W : World} {next : Act → World → Prop} {Q : Exit → Act → World → Prop} (hns : ∀ cs b, o.op ≠ .select cs b) (hnd : ∀ c, o.op ≠ .defer c) (hd : dstOk n o = true) (hal : st.alive o = true)
    (hrun : pureRun P (execOp st.rho o) = some (.enter f args))
    (h : (callE P wt o f args k st).den) (hr : Rel n st a W) (hp : PendOk P st.pend st.gs W) (hk : After P n wt o k st a next) : o.wpIn (FW r) nn P a W next Q := by
  have h1 := boxF_den hr _ _ (withW_den h hr)
  unfold Oper.wpIn
  refine ⟨fun _ _ => trivial, ?_⟩
  rw [Oper.semAt_eq _ _ _ hnd, hr.exec hns hal, pureRun_run hrun W]
  refine ⟨(fun hx => by cases hx), CallsIn.mono ((callsIn_wide (n := nn - 1)).2 h1 : CallsIn (FW r) (nn - 1) P f args W _) fun e w'' he => ?_⟩
  obtain ⟨x, rfl, hx⟩ := Sh.exF_den _ _ he
  exact tail_sound (s := .val _) hd hr hp hk trivial (fun _ => rfl) hx

theorem evalE_sound {r : Option Nat} {nn : Nat} {wt : Nat → Bool} {o : Oper} {k : St → Fm} {st : St} {a : Act} {W : World} {next : Act → World → Prop} {Q : Exit → Act → World → Prop} (hns : ∀ cs b, o.op ≠ .select cs b) (hnd : ∀ c, o.op ≠ .defer c) (hd : dstOk n o = true)
    (h : (evalE P H wt o k st).den) (hr : Rel n st a W) (hp : PendOk P st.pend st.gs W) (hk : After P n wt o k st a next) : o.wpIn (FW r) nn P a W next Q := by
  unfold evalE at h
  cases hal : st.alive o with
  | false => rw [hal] at h; exact h.elim
  | true =>
    rw [hal] at h
    simp only [cond_true] at h
    have he := hr.exec hns hal
    split at h
    case h_1 t x ho =>
      cases hpr : hasO H.promo o.dst with
      | false => rw [hpr] at h; exact effV_sound hns hnd hd hal h hr hp hk
      | true =>
        rw [hpr] at h
        have := boxE_sound hd h hr hp hk
        unfold Oper.wpIn
        refine ⟨fun _ _ => trivial, ?_⟩
        rw [Oper.semAt_eq _ _ _ hnd, he]
        have hx : execOp st.rho o = valueS (Instr.box t (st.rho x)) := by simp [execOp, ho, valueS]
        rw [hx, run_valueS (run_box (P := P))]
        show next _ _
        simpa using this
    case h_2 t ho =>
      cases hpr : hasO H.promo o.dst with
      | false => rw [hpr] at h; exact effV_sound hns hnd hd hal h hr hp hk
      | true =>
        rw [hpr] at h
        simp only [cond_true] at h
        split at h
        · rename_i z hz
          have := boxE_sound hd h hr hp hk
          unfold Oper.wpIn
          refine ⟨fun _ _ => trivial, ?_⟩
          rw [Oper.semAt_eq _ _ _ hnd, he]
          have hx : execOp st.rho o = valueS (Instr.alloc t true (.tuple #[])) := by simp [execOp, ho, valueS]
          rw [hx, run_valueS (run_alloc hz)]
          show next _ _
          simpa using this
        · exact h.elim
    case h_3 t ad x ho =>
      split at h
      · rename_i j off hs
        obtain ⟨W', hrun, hnext⟩ := storeE_sound hd h hr hp hk
        unfold Oper.wpIn
        refine ⟨fun _ _ => trivial, ?_⟩
        rw [Oper.semAt_eq _ _ _ hnd, he]
        have hx : execOp st.rho o = skipS (Instr.storeAt t (st.rho ad) (st.rho x)) := by simp [execOp, ho, skipS]
        have hade : st.rho ad = .pointer (some ⟨st.gs.getD j 0, off, none⟩) := by rw [St.rho, hs]; rfl
        rw [hx, hade]
        unfold skipS
        rw [run_bind_ok hrun]
        exact hnext
      · exact effU_sound hns hnd hd hal h hr hp hk
    case h_4 => exact effU_sound hns hnd hd hal h hr hp hk
    case h_5 => exact effU_sound hns hnd hd hal h hr hp hk
    case h_6 => exact effU_sound hns hnd hd hal h hr hp hk
    case h_7 => exact nextE_sound hns hnd hd hal h hr hp hk
    case h_8 => exact effVS_sound hns hnd hd hal h hr hp hk
    case h_9 c ho =>
      split at h
      · cases hop : hasO H.asks o.dst with
        | true => rw [hop] at h; exact effV_sound hns hnd hd hal h hr hp hk
        | false =>
          rw [hop] at h
          simp only [cond_false] at h
          split at h
          · rename_i f args hpr
            exact callE_sound hns hnd hd hal hpr h hr hp hk
          · exact h.elim
      · exact effV_sound hns hnd hd hal h hr hp hk
    case h_10 => exact effV_sound hns hnd hd hal h hr hp hk
end
end Go.Vc

/- Soundness of the formula of a region, in the text's order or in whatever order the tape draws. -/
namespace Go.Vc
open Go Go.RowKit

section
variable {P : Program} {H : Hints} {n : Nat}

theorem yielded_of {ops : Array Oper} {tmps : Array Value} {j d : Nat} {c : Bool} (hd : (ops[j]?).bind (·.dst) = some d) (ht : tmps[d]? = some (.bool c)) : yielded ops tmps j = some c := by
  unfold yielded
  rw [hd]
  simp [ht]

theorem mem_dsts {ops : Array Oper} {j d : Nat} (hd : (ops[j]?).bind (·.dst) = some d) : d ∈ ops.toList.filterMap (·.dst) := by
  cases hj : ops[j]? with
  | none => rw [hj] at hd; cases hd
  | some o =>
    rw [hj] at hd
    exact List.mem_filterMap.2 ⟨o, Array.mem_toList_iff.2 (Array.mem_of_getElem? hj), hd⟩

theorem Rel.lit {st : St} {a : Act} {W : World} (h : Rel n st a W) {d : Nat} {c : Bool} (hl : look st.env d = some (.val (.bool c))) : Rel n { st with env := (d, .lit c) :: st.env } a W := by
  refine ⟨h.defers, h.size, fun t s ht hs => ?_, fun t s ht => ?_, h.boxes, h.gsLen, h.gsOrd, h.gsLt, h.evo, h.clean⟩
  · by_cases hdt : d = t
    · subst hdt
      simp only [look_eq, Option.some.injEq] at ht
      subst ht
      exact h.env d (.val (.bool c)) hl rfl
    · rw [look_ne hdt] at ht
      exact h.env t s ht hs
  · by_cases hdt : d = t
    · subst hdt
      simp only [look_eq, Option.some.injEq] at ht
      subst ht
      trivial
    · rw [look_ne hdt] at ht
      exact h.locs t s ht

theorem Ext.lit {ds : List Nat} (st : St) {d : Nat} (s : Slot) (hd : d ∈ ds) : Ext ds st { st with env := (d, s) :: st.env } :=
  ⟨fun _ ht => look_ne (fun e => ht (by rw [← e]; exact hd)) _ _, List.prefix_rfl, rfl, fun _ _ _ => rfl, fun _ c _ h => ⟨c, h⟩⟩

/-- The guard has been asked. -/
theorem guardF_sound {ops : Array Oper} {o : Oper} {run skip : St → Fm} {st : St} {a : Act} {W : World} (h : (guardF H ops o run skip st).den) (hr : Rel n st a W) :
    ∃ st1, Rel n st1 a W ∧ Ext (ops.toList.filterMap (·.dst)) st st1 ∧ st1.pend = st.pend ∧ st1.gs = st.gs ∧
      ((Region.wanted o (yielded ops a.tmps) = true ∧ (run st1).den) ∨ (Region.wanted o (yielded ops a.tmps) = false ∧ (skip st1).den)) := by
  unfold guardF at h
  split at h
  · rename_i hg
    exact ⟨st, hr, Ext.refl _ _, rfl, rfl, .inl ⟨by simp [Region.wanted, hg], h⟩⟩
  · rename_i j want hg
    have hwant : ∀ c, yielded ops a.tmps j = some c → Region.wanted o (yielded ops a.tmps) = (c == want) := by
      intro c hc
      simp only [Region.wanted, hg, hc]
      cases c <;> cases want <;> rfl
    split at h
    · exact h.elim
    · rename_i d hd
      split at h
      · rename_i c hl
        have hy := yielded_of hd (hr.env d _ hl rfl)
        refine ⟨st, hr, Ext.refl _ _, rfl, rfl, ?_⟩
        rw [hwant c hy]
        cases hcw : (c == want) with
        | true => rw [hcw] at h; exact .inl ⟨rfl, h⟩
        | false => rw [hcw] at h; exact .inr ⟨rfl, h⟩
      · rename_i c hl
        have hy := yielded_of hd (hr.env d _ hl rfl)
        rw [hwant c hy]
        cases hop : has H.splits d with
        | true =>
          rw [hop] at h
          simp only [cond_true] at h
          cases c with
          | true =>
            have h1 := h.1 rfl
            refine ⟨_, hr.lit hl, Ext.lit st (.lit true) (mem_dsts hd), rfl, rfl, ?_⟩
            cases want with
            | true => exact .inl ⟨rfl, h1⟩
            | false => exact .inr ⟨rfl, h1⟩
          | false =>
            have h1 := h.2 rfl
            refine ⟨_, hr.lit hl, Ext.lit st (.lit false) (mem_dsts hd), rfl, rfl, ?_⟩
            cases want with
            | true => exact .inr ⟨rfl, h1⟩
            | false => exact .inl ⟨rfl, h1⟩
        | false =>
          rw [hop] at h
          simp only [cond_false] at h
          refine ⟨st, hr, Ext.refl _ _, rfl, rfl, ?_⟩
          cases hcw : (c == want) with
          | true => rw [hcw] at h; exact .inl ⟨rfl, h⟩
          | false => rw [hcw] at h; exact .inr ⟨rfl, h⟩
      · rename_i vs hl
        have hy : yielded ops a.tmps j = none := by
          unfold yielded
          rw [hd]
          simp [hr.env d _ hl rfl, Slot.value]
        exact ⟨st, hr, Ext.refl _ _, rfl, rfl, .inr ⟨by simp [Region.wanted, hg, hy], h⟩⟩
      · exact h.elim

/-- What follows a region. -/
def Ends (n : Nat) (ds : List Nat) (k : St → Fm) (st : St) (Q : Act → World → Prop) : Prop :=
  ∀ st' a' W', (k st').den → Rel n st' a' W' → Ext ds st st' → st'.pend = [] → Q a' W'

theorem Ends.step {ds : List Nat} {k : St → Fm} {st st1 : St} {Q : Act → World → Prop} (h : Ends n ds k st Q) (he : Ext ds st st1) : Ends n ds k st1 Q :=
  fun st' a' W' hd hr hx hp => h st' a' W' hd hr (he.tr hx) hp

theorem dst_sub {ops : Array Oper} {i : Nat} {o : Oper} (ho : ops[i]? = some o) : ∀ t ∈ o.dst.toList, t ∈ ops.toList.filterMap (·.dst) := by
  intro t ht
  rw [Option.mem_toList] at ht
  exact List.mem_filterMap.2 ⟨o, Array.mem_toList_iff.2 (Array.mem_of_getElem? ho), ht⟩

theorem opOk_spec {ops : Array Oper} (hds : ops.toList.all (opOk n) = true) {i : Nat} {o : Oper} (ho : ops[i]? = some o) : dstOk n o = true ∧ ∀ c, o.op ≠ .defer c := by
  have h := List.all_eq_true.1 hds o (Array.mem_toList_iff.2 (Array.mem_of_getElem? ho))
  unfold opOk at h
  rw [Bool.and_eq_true] at h
  refine ⟨h.1, fun c hc => ?_⟩
  have h2 := h.2
  unfold nodef at h2
  rw [hc] at h2
  cases h2

theorem evalOps_plain {ro : Option Nat} {nn : Nat} {ops : Array Oper} {k : St → Fm} {Q : Exit → Act → World → Prop} (hsel : Region.noSelect ops = true) (hds : ops.toList.all (opOk n) = true) :
    ∀ (l : List Nat) (st : St) (a : Act) (W : World), (evalOps P H false ops l k st).den → Rel n st a W → st.pend = [] → Ends n (ops.toList.filterMap (·.dst)) k st (Q .normal) → wpOpsIn (FW ro) nn P ops Q l a W
  | [], st, a, W, h, hr, hp, hk => hk _ a W h (hr.pend _) (Ext.pend _ _ _) rfl
  | i :: r, st, a, W, h, hr, hp, hk => by
    unfold evalOps at h
    unfold wpOpsIn
    cases ho : ops[i]? with
    | none => rw [ho] at h; exact h.elim
    | some o =>
      rw [ho] at h
      have hns : ∀ cs b, o.op ≠ .select cs b := fun cs b => Region.noSelect_spec hsel i o cs b ho
      have hd : dstOk n o = true := (opOk_spec hds ho).1
      have hnd : ∀ c, o.op ≠ .defer c := (opOk_spec hds ho).2
      obtain ⟨st1, hr1, hx1, hp1, hg1, hcase⟩ := guardF_sound h hr
      have hpn : st1.pend = [] := hp1.trans hp
      rcases hcase with ⟨hw, h1⟩ | ⟨hw, h1⟩
      · simp only [hw, if_true]
        
        cases hq : isQuiet P o with
        | true =>
          rw [hq] at h1
          obtain ⟨v, s, p, hden, hrel, _, _, hS, hrun⟩ := evalQ_sound hns hd h1 hr1
          unfold Oper.wpIn
          refine ⟨fun _ _ => trivial, ?_⟩
          rw [Oper.semAt_eq _ _ _ hnd, hrun W hS]
          refine evalOps_plain hsel hds r _ _ W hden hrel ?_ (hk.step (hx1.tr ((Ext.set _ _ _).mono (dst_sub ho))))
          cases o.dst <;> exact hpn
        | false =>
          rw [hq] at h1
          refine evalE_sound hns hnd hd h1 hr1 (by rw [hpn]; intro p hp; cases hp) ?_
          intro st' v W' hden hrel hext hpe _
          refine evalOps_plain hsel hds r _ _ W' hden hrel ?_ (hk.step (hx1.tr (hext.mono (dst_sub ho))))
          rw [hpe, hpn]; rfl
      · simp only [hw, Bool.false_eq_true, if_false]
        refine ⟨fun _ _ => trivial, ?_⟩
        refine evalOps_plain hsel hds r _ _ W h1 (hr1.set hd (s := .val undef) trivial (fun _ => rfl)) ?_ (hk.step (hx1.tr ((Ext.set _ _ _).mono (dst_sub ho))))
        cases o.dst <;> exact hpn

def promOf (P : Program) (l : List Pend) : Prom := l.map fun p => (p.idx, p.holds P)

theorem promOf_drop {ops : Array Oper} {i : Nat} (l : List Pend) : dropProm .any ops (promOf P l) i = promOf P (leftPend (fun x => waits .any ops x i) l) := by
  simp only [dropProm, promOf, leftPend, List.filter_map]
  rfl

theorem promOf_holds {l : List Pend} {gs : List Nat} {W : World} (h : PendOk P l gs W) : ∀ p ∈ promOf P l, p.2 W := by
  intro p hp
  obtain ⟨q, hq, rfl⟩ := List.mem_map.1 hp
  exact (h q hq).2

theorem promOf_keeps {ops : Array Oper} {i : Nat} {l : List Pend} {gs : List Nat} {W : World} (h : PendOk P (leftPend (fun x => waits .any ops x i) l) gs W) : keepsProm .any ops (promOf P l) i W := by
  intro p hp hw
  obtain ⟨q, hq, rfl⟩ := List.mem_map.1 hp
  exact (h q (List.mem_filter.2 ⟨hq, by simp only at hw; simp [hw]⟩)).2

/-- A post that says nothing of a panic. -/
def Only (Q : Act → World → Prop) : Exit → Act → World → Prop
  | .normal, a, w => Q a w
  | _, _, _ => False

theorem evalOps_draw {ro : Option Nat} {nn : Nat} {ops : Array Oper} {k : St → Fm} {Q : Act → World → Prop} (hsel : Region.noSelect ops = true) (hds : ops.toList.all (opOk n) = true) :
    ∀ (l : List Nat) (fuel : Nat) (listed : Array Bool) (st : St) (a : Act) (W : World), l.length ≤ fuel → ordOk P ops l listed = true → (evalOps P H true ops l k st).den → Rel n st a W →
      PendOk P st.pend st.gs W → Ends n (ops.toList.filterMap (·.dst)) k st Q → wpV ro nn P .any ops (Only Q) fuel listed (promOf P st.pend) a W
  | [], fuel, listed, st, a, W, _, hord, h, hr, hp, hk => by
    have hre : Region.ready .any ops listed = [] := by
      simp only [ordOk, List.isEmpty_iff] at hord
      exact hord
    exact wpV_done hre (hk _ a W h (hr.pend _) (Ext.pend _ _ _) rfl) fuel
  | i :: r, 0, _, _, _, _, hl, _, _, _, _, _ => by simp at hl
  | i :: r, fuel + 1, listed, st, a, W, hl, hord, h, hr, hp, hk => by
    have hl' : r.length ≤ fuel := by simp at hl; omega
    unfold evalOps at h
    simp only [ordOk, Bool.and_eq_true] at hord
    cases ho : ops[i]? with
    | none => rw [ho] at h; exact h.elim
    | some o =>
      rw [ho] at h
      simp only [ho] at hord
      obtain ⟨hthis, hrest⟩ := hord
      have hns : ∀ cs b, o.op ≠ .select cs b := fun cs b => Region.noSelect_spec hsel i o cs b ho
      have hd : dstOk n o = true := (opOk_spec hds ho).1
      have hnd : ∀ c, o.op ≠ .defer c := (opOk_spec hds ho).2
      obtain ⟨st1, hr1, hx1, hp1, hg1, hcase⟩ := guardF_sound h hr
      have hpo1 : PendOk P st1.pend st1.gs W := by rw [hp1, hg1]; exact hp
      rw [← hp1]
      have hpset : ∀ s : Slot, (st1.set o.dst s).pend = st1.pend := fun s => by cases o.dst <;> rfl
      have hgset : ∀ s : Slot, (st1.set o.dst s).gs = st1.gs := fun s => by cases o.dst <;> rfl
      cases hq : isQuiet P o with
      | true =>
        rw [hq] at hthis
        simp only [cond_true, Bool.and_eq_true] at hthis
        obtain ⟨hready, hfree⟩ := hthis
        have main : ∀ (v : Value) (s : Slot) (p : Pend), (evalOps P H true ops r k ((st1.set o.dst s).put true p)).den → Rel n (st1.set o.dst s) (a.put o.dst v) W → p.idx = i → p.inGs st1.gs → p.holds P W →
            YieldsIf P ops (p.holds P) o v a → wpV ro nn P .any ops (Only Q) (fuel + 1) listed (promOf P st1.pend) a W := by
          intro v s p hden hrel hidx hin hS hy
          refine wpV_take ho hsel (fun j o c hj => (opOk_spec hds hj).2 c) hfree hready (fun _ _ _ hx => hx) hy hS (promOf_holds hpo1) ?_
          have := evalOps_draw (ro := ro) (nn := nn) (Q := Q) hsel hds r fuel (listed.setIfInBounds i true) ((st1.set o.dst s).put true p) (a.put o.dst v) W hl' hrest hden (hrel.putp _ _) ?_
            (hk.step (hx1.tr (((Ext.set _ _ _).mono (dst_sub ho)).tr (Ext.putp _ _ _ _))))
          · have he : promOf P ((st1.set o.dst s).put true p).pend = (i, p.holds P) :: promOf P st1.pend := by
              show promOf P (p :: (st1.set o.dst s).pend) = _
              rw [hpset, ← hidx]
              rfl
            rw [he] at this
            exact this
          · show PendOk P (p :: (st1.set o.dst s).pend) (st1.set o.dst s).gs W
            rw [hpset, hgset]
            intro q hqm
            rcases List.mem_cons.1 hqm with rfl | hqm
            · exact ⟨hin, hS⟩
            · exact hpo1 q hqm
        rcases hcase with ⟨hw, h1⟩ | ⟨hw, h1⟩
        · rw [hq] at h1
          obtain ⟨v, s, p, hden, hrel, hidx, hin, hS, hrun⟩ := evalQ_sound hns hd h1 hr1
          exact main v s p hden hrel hidx hin hS (.inl ⟨hw, hrun⟩)
        · exact main undef (.val undef) (.pure i) h1 (hr1.set hd trivial (fun _ => rfl)) rfl trivial trivial (.inr ⟨hw, rfl⟩)
      | false =>
        rw [hq] at hthis
        simp only [cond_false] at hthis
        have hready : Region.ready .any ops listed = [i] := by simpa using hthis
        refine wpV_one hready ?_
        unfold wpOpIn
        simp only [ho]
        rcases hcase with ⟨hw, h1⟩ | ⟨hw, h1⟩
        · simp only [hw, if_true]
          
          rw [hq] at h1
          refine evalE_sound hns hnd hd h1 hr1 hpo1 ?_
          intro st' v W' hden hrel hext hpe hpo
          refine ⟨promOf_keeps (gs := st'.gs) (by rw [← hpe]; exact hpo), ?_⟩
          rw [promOf_drop, ← hpe]
          exact evalOps_draw hsel hds r fuel _ st' _ W' hl' hrest hden hrel hpo (hk.step (hx1.tr (hext.mono (dst_sub ho))))
        · simp only [hw, Bool.false_eq_true, if_false]
          refine ⟨fun _ _ => trivial, fun p hpm _ => promOf_holds hpo1 p hpm, ?_⟩
          have := evalOps_draw (ro := ro) (nn := nn) (Q := Q) hsel hds r fuel (listed.setIfInBounds i true) ((st1.set o.dst (.val undef)).put true (.pure i)) (a.put o.dst undef) W hl' hrest h1 ((hr1.set hd (s := .val undef) trivial (fun _ => rfl)).putp _ _) ?_
            (hk.step (hx1.tr (((Ext.set _ _ _).mono (dst_sub ho)).tr (Ext.putp _ _ _ _))))
          · refine wpV_mono _ _ _ _ _ _ (fun p hpm => ?_) this
            have hpm' : p ∈ promOf P st1.pend := (List.mem_filter.1 hpm).1
            show p ∈ promOf P (.pure i :: (st1.set o.dst (.val undef)).pend)
            rw [hpset]
            exact List.mem_cons_of_mem _ hpm'
          · show PendOk P (.pure i :: (st1.set o.dst (.val undef)).pend) (st1.set o.dst (.val undef)).gs W
            rw [hpset, hgset]
            intro q hqm
            rcases List.mem_cons.1 hqm with rfl | hqm
            · exact ⟨trivial, trivial⟩
            · exact hpo1 q hqm
theorem evalT_draw {ro : Option Nat} {nn : Nat} {ops : Array Oper} {k : St → Fm} {Q : Act → World → Prop} (hsel : Region.noSelect ops = true) (hds : ops.toList.all (opOk n) = true) :
    ∀ (t : Ot) (fuel : Nat) (listed : Array Bool) (st : St) (a : Act) (W : World), t.depth ≤ fuel → (evalT P H ops t k st).den → Rel n st a W →
      PendOk P st.pend st.gs W → Ends n (ops.toList.filterMap (·.dst)) k st Q → (ordOkT P ops false t listed = true → wpV ro nn P .any ops (Only Q) fuel listed (promOf P st.pend) a W) ∧
      (ordOkT P ops true t listed = true → ∀ j ∈ t.heads, 0 < fuel ∧ wpOpIn (FW ro) nn P ops (Only Q) j (fun a' w' => keepsProm .any ops (promOf P st.pend) j w' ∧ wpV ro nn P .any ops (Only Q) (fuel - 1) (listed.setIfInBounds j true) (dropProm .any ops (promOf P st.pend) j) a' w') a W)
  | .nil, fuel, listed, st, a, W, _, h, hr, hp, hk => by
    refine ⟨fun hord => ?_, fun hord => by simp [ordOkT] at hord⟩
    have hre : Region.ready .any ops listed = [] := by
      simpa [ordOkT, List.isEmpty_iff] using hord
    exact wpV_done hre (hk _ a W h (hr.pend _) (Ext.pend _ _ _) rfl) fuel
  | .alt x y, fuel, listed, st, a, W, hl, h, hr, hp, hk => by
    have hlx : x.depth ≤ fuel := Nat.le_trans (Nat.le_max_left ..) hl
    have hly : y.depth ≤ fuel := Nat.le_trans (Nat.le_max_right ..) hl
    obtain ⟨_, ix⟩ := evalT_draw hsel hds x fuel listed st a W hlx h.1 hr hp hk
    obtain ⟨_, iy⟩ := evalT_draw hsel hds y fuel listed st a W hly h.2 hr hp hk
    have sub : ordOkT P ops true x listed = true → ordOkT P ops true y listed = true → ∀ j ∈ x.heads ++ y.heads, 0 < fuel ∧ wpOpIn (FW ro) nn P ops (Only Q) j (fun a' w' => keepsProm .any ops (promOf P st.pend) j w' ∧ wpV ro nn P .any ops (Only Q) (fuel - 1) (listed.setIfInBounds j true) (dropProm .any ops (promOf P st.pend) j) a' w') a W := by
      intro h1 h2 j hj
      rcases List.mem_append.1 hj with hj | hj
      · exact ix h1 j hj
      · exact iy h2 j hj
    refine ⟨fun hord => ?_, fun hord => ?_⟩
    · simp only [ordOkT, cond_false, Bool.and_eq_true, Bool.not_eq_true', List.all_eq_true, List.contains_iff_mem] at hord
      obtain ⟨⟨⟨hne, hall⟩, h1⟩, h2⟩ := hord
      have hs := sub h1 h2
      cases hre : Region.ready .any ops listed with
      | nil => rw [hre] at hne; simp at hne
      | cons j0 js =>
        have hpos := (hs j0 (hall j0 (by rw [hre]; exact List.mem_cons_self ..))).1
        obtain ⟨f, rfl⟩ : ∃ f, fuel = f + 1 := ⟨fuel - 1, by omega⟩
        exact ⟨fun h0 => (by rw [hre] at h0; cases h0), fun j hj => (hs j (hall j hj)).2⟩
    · simp only [ordOkT, cond_true, Bool.true_and, Bool.and_eq_true] at hord
      exact sub hord.1 hord.2
  | .op i r, 0, _, _, _, _, hl, _, _, _, _ => by simp [Ot.depth] at hl
  | .op i r, fuel + 1, listed, st, a, W, hl, h, hr, hp, hk => by
    have hl' : r.depth ≤ fuel := by simp [Ot.depth] at hl; omega
    unfold evalT at h
    cases ho : ops[i]? with
    | none => rw [ho] at h; exact h.elim
    | some o =>
      rw [ho] at h
      have hns : ∀ cs b, o.op ≠ .select cs b := fun cs b => Region.noSelect_spec hsel i o cs b ho
      have hd : dstOk n o = true := (opOk_spec hds ho).1
      have hnd : ∀ c, o.op ≠ .defer c := (opOk_spec hds ho).2
      obtain ⟨st1, hr1, hx1, hp1, hg1, hcase⟩ := guardF_sound h hr
      have hpo1 : PendOk P st1.pend st1.gs W := by rw [hp1, hg1]; exact hp
      rw [← hp1]
      have hpset : ∀ s : Slot, (st1.set o.dst s).pend = st1.pend := fun s => by cases o.dst <;> rfl
      have hgset : ∀ s : Slot, (st1.set o.dst s).gs = st1.gs := fun s => by cases o.dst <;> rfl
      cases hq : isQuiet P o with
      | true =>
        refine ⟨fun hord => ?_, fun hord => by simp [ordOkT, ho, hq] at hord⟩
        simp only [ordOkT, ho, hq, cond_false, cond_true, Bool.and_eq_true] at hord
        obtain ⟨⟨hready, hfree⟩, hrest⟩ := hord
        have main : ∀ (v : Value) (s : Slot) (p : Pend), (evalT P H ops r k ((st1.set o.dst s).put true p)).den → Rel n (st1.set o.dst s) (a.put o.dst v) W → p.idx = i → p.inGs st1.gs → p.holds P W →
            YieldsIf P ops (p.holds P) o v a → wpV ro nn P .any ops (Only Q) (fuel + 1) listed (promOf P st1.pend) a W := by
          intro v s p hden hrel hidx hin hS hy
          refine wpV_take ho hsel (fun j o c hj => (opOk_spec hds hj).2 c) hfree hready (fun _ _ _ hx => hx) hy hS (promOf_holds hpo1) ?_
          have := (evalT_draw (ro := ro) (nn := nn) (Q := Q) hsel hds r fuel (listed.setIfInBounds i true) ((st1.set o.dst s).put true p) (a.put o.dst v) W hl' hden (hrel.putp _ _) ?_
            (hk.step (hx1.tr (((Ext.set _ _ _).mono (dst_sub ho)).tr (Ext.putp _ _ _ _))))).1 hrest
          · have he : promOf P ((st1.set o.dst s).put true p).pend = (i, p.holds P) :: promOf P st1.pend := by
              show promOf P (p :: (st1.set o.dst s).pend) = _
              rw [hpset, ← hidx]
              rfl
            rw [he] at this
            exact this
          · show PendOk P (p :: (st1.set o.dst s).pend) (st1.set o.dst s).gs W
            rw [hpset, hgset]
            intro q hqm
            rcases List.mem_cons.1 hqm with rfl | hqm
            · exact ⟨hin, hS⟩
            · exact hpo1 q hqm
        rcases hcase with ⟨hw, h1⟩ | ⟨hw, h1⟩
        · rw [hq] at h1
          obtain ⟨v, s, p, hden, hrel, hidx, hin, hS, hrun⟩ := evalQ_sound hns hd h1 hr1
          exact main v s p hden hrel hidx hin hS (.inl ⟨hw, hrun⟩)
        · exact main undef (.val undef) (.pure i) h1 (hr1.set hd trivial (fun _ => rfl)) rfl trivial trivial (.inr ⟨hw, rfl⟩)
      | false =>
        have step : ordOkT P ops false r (listed.setIfInBounds i true) = true → wpOpIn (FW ro) nn P ops (Only Q) i (fun a' w' => keepsProm .any ops (promOf P st1.pend) i w' ∧ wpV ro nn P .any ops (Only Q) fuel (listed.setIfInBounds i true) (dropProm .any ops (promOf P st1.pend) i) a' w') a W := by
          intro hrest
          unfold wpOpIn
          simp only [ho]
          rcases hcase with ⟨hw, h1⟩ | ⟨hw, h1⟩
          · simp only [hw, if_true]
            
            rw [hq] at h1
            refine evalE_sound hns hnd hd h1 hr1 hpo1 ?_
            intro st' v W' hden hrel hext hpe hpo
            refine ⟨promOf_keeps (gs := st'.gs) (by rw [← hpe]; exact hpo), ?_⟩
            rw [promOf_drop, ← hpe]
            exact (evalT_draw hsel hds r fuel _ st' _ W' hl' hden hrel hpo (hk.step (hx1.tr (hext.mono (dst_sub ho))))).1 hrest
          · simp only [hw, Bool.false_eq_true, if_false]
            refine ⟨fun _ _ => trivial, fun p hpm _ => promOf_holds hpo1 p hpm, ?_⟩
            have := (evalT_draw (ro := ro) (nn := nn) (Q := Q) hsel hds r fuel (listed.setIfInBounds i true) ((st1.set o.dst (.val undef)).put true (.pure i)) (a.put o.dst undef) W hl' h1 ((hr1.set hd (s := .val undef) trivial (fun _ => rfl)).putp _ _) ?_
              (hk.step (hx1.tr (((Ext.set _ _ _).mono (dst_sub ho)).tr (Ext.putp _ _ _ _))))).1 hrest
            · refine wpV_mono _ _ _ _ _ _ (fun p hpm => ?_) this
              have hpm' : p ∈ promOf P st1.pend := (List.mem_filter.1 hpm).1
              show p ∈ promOf P (.pure i :: (st1.set o.dst (.val undef)).pend)
              rw [hpset]
              exact List.mem_cons_of_mem _ hpm'
            · show PendOk P (.pure i :: (st1.set o.dst (.val undef)).pend) (st1.set o.dst (.val undef)).gs W
              rw [hpset, hgset]
              intro q hqm
              rcases List.mem_cons.1 hqm with rfl | hqm
              · exact ⟨trivial, trivial⟩
              · exact hpo1 q hqm
        refine ⟨fun hord => ?_, fun hord j hj => ?_⟩
        · simp only [ordOkT, ho, hq, cond_false, Bool.and_eq_true] at hord
          have hready : Region.ready .any ops listed = [i] := by simpa using hord.1
          exact wpV_one hready (step hord.2)
        · simp only [ordOkT, ho, hq, cond_true, Bool.not_false, Bool.true_and] at hord
          have hj : j = i := by simpa [Ot.heads] using hj
          subst hj
          exact ⟨by omega, step hord⟩
end
end Go.Vc

/- Soundness of the formula of a function's whole code: loops by what they carry, joints, branches; and of the function itself. -/
namespace Go.Vc
open Go Go.RowKit

theorem Sh.get_spec : ∀ (s : Sh) (l : List Value) (x : s.T) (r : List Value), s.get l = some (x, r) → l = s.vals x ++ r
  | .int k, l, x, r, h => by
    unfold Sh.get at h
    split at h
    · rename_i k' m r'
      cases hk : decide (k' = k) with
      | false => rw [hk] at h; cases h
      | true =>
        rw [hk] at h
        have := of_decide_eq_true hk
        subst this
        cases h
        rfl
    · cases h
  | .bool, l, x, r, h => by unfold Sh.get at h; split at h <;> cases h; rfl
  | .str, l, x, r, h => by unfold Sh.get at h; split at h <;> cases h; rfl
  | .ptr, l, x, r, h => by unfold Sh.get at h; split at h <;> cases h; rfl
  | .addr, l, x, r, h => by unfold Sh.get at h; split at h <;> cases h; rfl
  | .sl, l, x, r, h => by unfold Sh.get at h; split at h <;> cases h; rfl
  | .mp, l, x, r, h => by unfold Sh.get at h; split at h <;> cases h; rfl
  | .any, l, x, r, h => by unfold Sh.get at h; split at h <;> cases h; rfl
  | .nil, l, x, r, h => by cases h; rfl
  | .cons a b, l, x, r, h => by
    unfold Sh.get at h
    split at h
    · rename_i xa ra ha
      split at h
      · rename_i y r' hb
        cases h
        have h1 := Sh.get_spec a _ _ _ ha
        have h2 := Sh.get_spec b _ _ _ hb
        rw [h1, h2]
        simp [Sh.vals]
      · cases h
    · cases h
  | .agg s, l, x, r, h => by
    unfold Sh.get at h
    split at h
    · rename_i cs r'
      split at h
      · rename_i y hs
        cases h
        have h1 := Sh.get_spec s _ _ _ hs
        simp only [List.append_nil] at h1
        have : cs = (s.vals x).toArray := by rw [← h1]
        rw [this]
        rfl
      · cases h
    · cases h
  | .tup s, l, x, r, h => by
    unfold Sh.get at h
    split at h
    · rename_i cs r'
      split at h
      · rename_i y hs
        cases h
        have h1 := Sh.get_spec s _ _ _ hs
        simp only [List.append_nil] at h1
        have : cs = (s.vals x).toArray := by rw [← h1]
        rw [this]
        rfl
      · cases h
    · cases h

section
variable {P : Program} {H : Hints} {n : Nat}

theorem has_iff {l : List Nat} {t : Nat} : has l t = true ↔ t ∈ l := by
  simp only [has, List.any_eq_true]
  constructor
  · rintro ⟨k, hk, hb⟩
    rw [Nat.eq_of_beq_eq_true hb] at hk
    exact hk
  · intro h
    exact ⟨t, h, Nat.beq_refl t⟩

theorem look_append {α : Type} {l r : List (Nat × α)} {t : Nat} : look (l ++ r) t = (look l t).or (look r t) := by
  induction l with
  | nil => rfl
  | cons x l ih =>
    obtain ⟨k, v⟩ := x
    by_cases hk : k = t
    · subst hk; rw [List.cons_append, look_eq, look_eq]; rfl
    · rw [List.cons_append, look_ne hk, look_ne hk, ih]

theorem look_dead {ds : List Nat} {t : Nat} : look (ds.map fun d => (d, Slot.dead)) t = if t ∈ ds then some .dead else none := by
  induction ds with
  | nil => rfl
  | cons d ds ih =>
    rw [List.map_cons]
    by_cases hd : d = t
    · subst hd; rw [look_eq]; simp
    · rw [look_ne hd, ih]
      simp [Ne.symm hd]

/-- What a carried slot reads as. -/
theorem look_setVars {st' : St} : ∀ (l : List (Tmp × Sh)) (vs rest : List Value) (env : List (Nat × Slot)), valsV st' l = some vs → ∀ t,
    (∃ s, look st'.env t = some s ∧ s.alive = true ∧ look (setVars l (vs ++ rest) env) t = some (.val (s.value st'.gs))) ∨ (look (setVars l (vs ++ rest) env) t = look env t ∧ ∀ x ∈ l, x.1 ≠ t)
  | [], vs, rest, env, h, t => by cases h; exact .inr ⟨rfl, by simp⟩
  | x :: r, vs, rest, env, h, t => by
    unfold valsV at h
    split at h
    · rename_i s l hs hl
      cases hal : s.alive with
      | false => rw [hal] at h; cases h
      | true =>
        rw [hal] at h
        simp only [cond_true, Option.some.injEq] at h
        subst h
        simp only [List.cons_append, setVars]
        by_cases hx : x.1 = t
        · subst hx
          exact .inl ⟨s, hs, hal, look_eq _ _ _⟩
        · rw [look_ne hx]
          rcases look_setVars r l rest env hl t with hin | ⟨hlk, hne⟩
          · exact .inl hin
          · exact .inr ⟨hlk, fun y hy => by
              rcases List.mem_cons.1 hy with rfl | hy
              · exact hx
              · exact hne y hy⟩
    · cases h

theorem setVars_length {st' : St} : ∀ (l : List (Tmp × Sh)) (vs : List Value), valsV st' l = some vs → vs.length = l.length
  | [], vs, h => by cases h; rfl
  | x :: r, vs, h => by
    unfold valsV at h
    split at h
    · rename_i s l hs hl
      cases hal : s.alive with
      | false => rw [hal] at h; cases h
      | true =>
        rw [hal] at h
        simp only [cond_true, Option.some.injEq] at h
        subst h
        simp [setVars_length r l hl]
    · cases h

/-- The boxes of the head are those of the state at hand. -/
theorem setBoxes_spec {st' : St} {env : List (Nat × Slot)} {bs0 : List (List Value × TypeId)} (hty : ∀ (j : Nat) (c c' : List Value) (ty ty' : TypeId), bs0[j]? = some (c, ty) → st'.boxes[j]? = some (c', ty') → ty = ty') :
    ∀ (l : List (Tmp × Sh)) (vs : List Value) (bs : List (List Value × TypeId)), (∀ x ∈ l, look env x.1 = look st'.env x.1) → valsB st' l = some vs →
      (∀ (j : Nat) (c : List Value) (ty : TypeId), bs[j]? = some (c, ty) → ∃ c0, bs0[j]? = some (c0, ty)) →
      (∀ (j : Nat) (c : List Value) (ty : TypeId), bs[j]? = some (c, ty) → (∃ x ∈ l, ∃ off, look env x.1 = some (.loc j off)) ∨ st'.boxes[j]? = some (c, ty)) →
      (∀ (j : Nat) (c : List Value) (ty : TypeId), (setBoxes env l vs bs)[j]? = some (c, ty) → st'.boxes[j]? = some (c, ty)) ∧ (setBoxes env l vs bs).length = bs.length
  | [], vs, bs, _, _, _, h2 => ⟨fun j c ty hj => by
      rcases h2 j c ty hj with ⟨x, hx, _⟩ | h
      · cases hx
      · exact h, rfl⟩
  | x :: r, vs, bs, he, hv, h1, h2 => by
    unfold valsB at hv
    split at hv
    · rename_i j off l hs hl
      split at hv
      · rename_i cells ty hb
        cases hlen : Nat.beq cells.length x.2.len with
        | false => rw [hlen] at hv; cases hv
        | true =>
          rw [hlen] at hv
          simp only [cond_true, Option.some.injEq] at hv
          subst hv
          have hlen' := Nat.eq_of_beq_eq_true hlen
          have hse : look env x.1 = some (.loc j off) := by rw [he x (List.mem_cons_self ..)]; exact hs
          unfold setBoxes
          rw [hse]
          simp only [← hlen', List.drop_left, List.take_left]
          have main := setBoxes_spec hty r l (setCells bs j cells) (fun y hy => he y (List.mem_cons_of_mem _ hy)) hl ?_ ?_
          · refine ⟨main.1, ?_⟩
            rw [main.2]
            unfold setCells
            split
            · simp
            · rfl
          · intro i c ty' hi
            unfold setCells at hi
            split at hi
            · rename_i c1 ty1 hbj
              by_cases hij : j = i
              · subst hij
                rw [List.getElem?_set_self (List.getElem?_eq_some_iff.1 hbj).1] at hi
                cases hi
                exact h1 _ _ _ hbj
              · rw [List.getElem?_set_ne hij] at hi
                exact h1 _ _ _ hi
            · exact h1 _ _ _ hi
          · intro i c ty' hi
            unfold setCells at hi
            split at hi
            · rename_i c1 ty1 hbj
              by_cases hij : j = i
              · subst hij
                rw [List.getElem?_set_self (List.getElem?_eq_some_iff.1 hbj).1] at hi
                cases hi
                obtain ⟨c0, hc0⟩ := h1 _ _ _ hbj
                have := hty _ _ _ _ _ hc0 hb
                subst this
                exact .inr hb
              · rw [List.getElem?_set_ne hij] at hi
                rcases h2 _ _ _ hi with ⟨y, hy, off', hl'⟩ | h
                · rcases List.mem_cons.1 hy with rfl | hy
                  · rw [hse] at hl'
                    cases hl'
                    exact absurd rfl hij
                  · exact .inl ⟨y, hy, off', hl'⟩
                · exact .inr h
            · rename_i hbj
              rcases h2 _ _ _ hi with ⟨y, hy, off', hl'⟩ | h
              · rcases List.mem_cons.1 hy with rfl | hy
                · rw [hse] at hl'
                  cases hl'
                  rw [hbj] at hi
                  cases hi
                · exact .inl ⟨y, hy, off', hl'⟩
              · exact .inr h
      · cases hv
    · cases hv

/-- How a state in the midst of a loop, or at a joint, stands to the state at the entry. -/
structure Near (h : LH) (ds : List Nat) (st st' : St) : Prop where
  env : ∀ t, t ∉ ds → look st'.env t = look st.env t
  gs : st.gs <+: st'.gs
  box : ∀ j, j < st.boxes.length → j ∉ boxIdx h st → st'.boxes[j]? = st.boxes[j]?
  ty : ∀ (j : Nat) (c : List Value) (ty : TypeId), st.boxes[j]? = some (c, ty) → ∃ c', st'.boxes[j]? = some (c', ty)

theorem value_prefix {gs gs' : List Nat} (hp : gs <+: gs') {s : Slot} (hs : s.okAt gs.length) : s.value gs' = s.value gs := by
  obtain ⟨t, rfl⟩ := hp
  cases s with
  | loc j off =>
    simp only [Slot.value, List.getD_eq_getElem?_getD]
    rw [List.getElem?_append_left (show j < gs.length from hs)]
  | _ => rfl

theorem hintOk_spec {h : LH} {ds : List Nat} {st : St} (hh : hintOk h ds st = true) : (∀ x ∈ h.vars, x.1 ∈ ds) ∧ (∀ x ∈ h.boxes, x.1 ∉ ds) ∧ (∀ j ∈ boxIdx h st, j ∉ st.ro) := by
  simp only [hintOk, Bool.and_eq_true, List.all_eq_true] at hh
  obtain ⟨⟨h1, h2⟩, h3⟩ := hh
  refine ⟨fun x hx => has_iff.1 (h1 x hx), fun x hx hd => ?_, fun j hj hd => ?_⟩
  · have := h2 x hx
    rw [has_iff.2 hd] at this
    cases this
  · have := h3 j hj
    rw [has_iff.2 hd] at this
    cases this

theorem rel_head {h : LH} {ds : List Nat} {st st' : St} {a' : Act} {W' : World} {vs : List Value} (hh : hintOk h ds st = true) (hnear : Near h ds st st') (hloc : ∀ t s, look st.env t = some s → s.okAt st.gs.length) (hgl : st.gs.length = st.boxes.length)
    (hv : h.vals st' = some vs) (hr : Rel n st' a' W') (ro : List Nat) : Rel n (headSt h ds st vs W' ro) a' W' := by
  obtain ⟨hvin, hbout, _⟩ := hintOk_spec hh
  unfold LH.vals at hv
  split at hv
  · rename_i va vb hva hvb
    cases hv
    have hlen := setVars_length _ _ hva
    have hdrop : (va ++ vb).drop h.vars.length = vb := by rw [← hlen]; exact List.drop_left
    have henv : ∀ t s, look (headSt h ds st (va ++ vb) W' ro).env t = some s → s.okAt st.gs.length ∧ (s.alive = true → a'.tmps[t]? = some (s.value st.gs)) := by
      intro t s hs
      rcases look_setVars h.vars va vb (ds.map (fun d => (d, Slot.dead)) ++ st.env) hva t with ⟨s', hs', hal, hlk⟩ | ⟨hlk, hne⟩
      · have : s = .val (s'.value st'.gs) := by
          have := hs.symm.trans hlk
          exact Option.some.inj this
        subst this
        exact ⟨trivial, fun _ => hr.env t s' hs' hal⟩
      · have hs2 := hlk.symm.trans hs
        rw [look_append, look_dead] at hs2
        by_cases htd : t ∈ ds
        · rw [if_pos htd] at hs2
          cases hs2
          exact ⟨trivial, fun hx => by cases hx⟩
        · rw [if_neg htd] at hs2
          have hs3 : look st.env t = some s := hs2
          refine ⟨hloc t s hs3, fun hal => ?_⟩
          rw [← value_prefix hnear.gs (hloc t s hs3)]
          exact hr.env t s (by rw [hnear.env t htd]; exact hs3) hal
    have hbx := setBoxes_spec (st' := st') (env := st.env) (bs0 := st.boxes) (fun j c c' ty ty' h1 h2 => by
        obtain ⟨c2, h3⟩ := hnear.ty j c ty h1
        rw [h2] at h3
        cases h3
        rfl) h.boxes vb st.boxes (fun x hx => (hnear.env x.1 (hbout x hx)).symm) hvb (fun j c ty hj => ⟨c, hj⟩) (fun j c ty hj => by
        by_cases hin : j ∈ boxIdx h st
        · unfold boxIdx at hin
          obtain ⟨x, hx, hxj⟩ := List.mem_filterMap.1 hin
          split at hxj
          · rename_i j' off hl
            cases hxj
            exact .inl ⟨x, hx, off, hl⟩
          · cases hxj
        · refine .inr ?_
          rw [hnear.box j (List.getElem?_eq_some_iff.1 hj).1 hin]
          exact hj)
    refine ⟨hr.defers, hr.size, fun t s hs => (henv t s hs).2, fun t s hs => (henv t s hs).1, fun j cells ty hj => ?_, ?_, hr.gsOrd.sublist hnear.gs.sublist, fun g hg => hr.gsLt g (hnear.gs.subset hg), Evo.refl _, fun _ => rfl⟩
    · have hj' : (setBoxes st.env h.boxes ((va ++ vb).drop h.vars.length) st.boxes)[j]? = some (cells, ty) := hj
      rw [hdrop] at hj'
      obtain ⟨g, hg, hc⟩ := hr.boxes j cells ty (hbx.1 j cells ty hj')
      refine ⟨g, ?_, hc⟩
      have hjl : j < st.gs.length := by
        rw [hgl, ← hbx.2]
        exact (List.getElem?_eq_some_iff.1 hj').1
      obtain ⟨tl, htl⟩ := hnear.gs
      show st.gs[j]? = some g
      rw [← htl, List.getElem?_append_left hjl] at hg
      exact hg
    · show st.gs.length = (setBoxes st.env h.boxes ((va ++ vb).drop h.vars.length) st.boxes).length
      rw [hdrop, hbx.2, hgl]
  · cases hv

theorem near_lock {h : LH} {ds : List Nat} {st st0 st' : St} (h0 : Near h ds st st0) (hro : st0.ro = lockRo h st) (hx : Ext ds st0 st') (hl : st.boxes.length ≤ st0.boxes.length) : Near h ds st st' := by
  refine ⟨fun t ht => (hx.env t ht).trans (h0.env t ht), h0.gs.trans hx.gs, fun j hj hn => ?_, fun j c ty hj => ?_⟩
  · rw [hx.box j ?_ (Nat.lt_of_lt_of_le hj hl)]
    · exact h0.box j hj hn
    · rw [hro]
      unfold lockRo
      rw [List.mem_filter]
      refine ⟨List.mem_range.2 hj, ?_⟩
      cases hb : has (boxIdx h st) j with
      | false => rfl
      | true => exact absurd (has_iff.1 hb) hn
  · obtain ⟨c1, h1⟩ := h0.ty j c ty hj
    exact hx.ty j c1 ty h1

theorem setBoxes_keep (env : List (Nat × Slot)) : ∀ (l : List (Tmp × Sh)) (vs : List Value) (bs : List (List Value × TypeId)),
    (setBoxes env l vs bs).length = bs.length ∧ (∀ (j : Nat) (c : List Value) (ty : TypeId), bs[j]? = some (c, ty) → ∃ c', (setBoxes env l vs bs)[j]? = some (c', ty)) ∧
      (∀ j : Nat, (∀ x ∈ l, ∀ off, look env x.1 ≠ some (.loc j off)) → (setBoxes env l vs bs)[j]? = bs[j]?)
  | [], vs, bs => ⟨rfl, fun j c ty h => ⟨c, h⟩, fun _ _ => rfl⟩
  | x :: r, vs, bs => by
    unfold setBoxes
    split
    · rename_i j off hl
      obtain ⟨h1, h2, h3⟩ := setBoxes_keep env r (vs.drop x.2.len) (setCells bs j (vs.take x.2.len))
      refine ⟨?_, fun i c ty hi => ?_, fun i hi => ?_⟩
      · rw [h1]; unfold setCells; split
        · simp
        · rfl
      · by_cases hij : j = i
        · subst hij
          refine h2 j (vs.take x.2.len) ty ?_
          unfold setCells
          rw [hi]
          exact List.getElem?_set_self (List.getElem?_eq_some_iff.1 hi).1
        · refine h2 i c ty ?_
          unfold setCells
          split
          · rw [List.getElem?_set_ne hij]; exact hi
          · exact hi
      · rw [h3 i fun y hy off' => hi y (List.mem_cons_of_mem _ hy) off']
        have hij : j ≠ i := fun e => hi x (List.mem_cons_self ..) off (by rw [hl, e])
        unfold setCells
        split
        · rw [List.getElem?_set_ne hij]
        · rfl
    · obtain ⟨h1, h2, h3⟩ := setBoxes_keep env r (vs.drop x.2.len) bs
      exact ⟨h1, h2, fun i hi => h3 i fun y hy off' => hi y (List.mem_cons_of_mem _ hy) off'⟩

theorem look_setVars_ne : ∀ (l : List (Tmp × Sh)) (vs : List Value) (env : List (Nat × Slot)) (t : Nat), (∀ x ∈ l, x.1 ≠ t) → look (setVars l vs env) t = look env t
  | [], vs, env, t, _ => by cases vs <;> rfl
  | x :: r, v :: vs, env, t, h => by
    rw [setVars, look_ne (h x (List.mem_cons_self ..))]
    exact look_setVars_ne r vs env t fun y hy => h y (List.mem_cons_of_mem _ hy)
  | x :: r, [], env, t, h => by
    rw [setVars, look_ne (h x (List.mem_cons_self ..))]
    exact look_setVars_ne r [] env t fun y hy => h y (List.mem_cons_of_mem _ hy)

theorem not_boxIdx {h : LH} {st : St} {j : Nat} (hn : j ∉ boxIdx h st) : ∀ x ∈ h.boxes, ∀ off, look st.env x.1 ≠ some (.loc j off) := by
  intro x hx off hl
  refine hn ?_
  unfold boxIdx
  exact List.mem_filterMap.2 ⟨x, hx, by rw [hl]⟩

theorem near_head {h : LH} {ds : List Nat} {st : St} {vs : List Value} {w : World} {ro : List Nat} (hh : hintOk h ds st = true) : Near h ds st (headSt h ds st vs w ro) := by
  obtain ⟨hvin, hbout, _⟩ := hintOk_spec hh
  obtain ⟨h1, h2, h3⟩ := setBoxes_keep st.env h.boxes (vs.drop h.vars.length) st.boxes
  refine ⟨fun t ht => ?_, List.prefix_rfl, fun j _ hn => h3 j (not_boxIdx hn), fun j c ty hj => h2 j c ty hj⟩
  show look (setVars h.vars vs (ds.map (fun d => (d, Slot.dead)) ++ st.env)) t = _
  rw [look_setVars_ne _ _ _ _ (fun x hx e => ht (by rw [← e]; exact hvin x hx)), look_append, look_dead, if_neg ht]
  rfl

/-- What stands behind, seen from the entry. -/
theorem ext_of_near {h : LH} {ds : List Nat} {st st' : St} (hh : hintOk h ds st = true) (hn : Near h ds st st') (hro : st'.ro = st.ro) : Ext ds st st' := by
  obtain ⟨_, _, hb⟩ := hintOk_spec hh
  exact ⟨hn.env, hn.gs, hro, fun j hj hl => hn.box j hl fun hin => hb j hin hj, hn.ty⟩

theorem rel_ro {st : St} {a : Act} {W : World} (h : Rel n st a W) (ro : List Nat) : Rel n { st with ro := ro } a W :=
  ⟨h.defers, h.size, h.env, h.locs, h.boxes, h.gsLen, h.gsOrd, h.gsLt, h.evo, h.clean⟩

def toExit : Ex → Exit
  | .normal => .normal
  | .exit id => .exit id
  | .ret => .ret

def Done (n : Nat) (ds : List Nat) (K : Ex → St → Fm) (st : St) (Q : Exit → Act → World → Prop) : Prop :=
  ∀ e st' a' W', (K e st').den → Rel n st' a' W' → Ext ds st st' → st'.pend = [] → Q (toExit e) a' W'

theorem Done.step {ds es : List Nat} {K : Ex → St → Fm} {st st1 : St} {Q : Exit → Act → World → Prop} (h : Done n ds K st Q) (he : Ext ds st st1) (hs : ∀ t ∈ es, t ∈ ds) : Done n es K st1 Q :=
  fun e st' a' W' hd hr hx hp => h e st' a' W' hd hr (he.tr (hx.mono hs)) hp

theorem arrive_den {h : LH} {st : St} {J : h.sh.T → World → Fm} {a : Act} {W : World} (hd : (arriveF h st J).den) (hr : Rel n st a W) : ∃ x, h.vals st = some (h.sh.vals x) ∧ (J x W).den := by
  unfold arriveF at hd
  split at hd
  · rename_i vs hv
    split at hd
    · rename_i x hg
      have := Sh.get_spec _ _ _ _ hg
      rw [List.append_nil] at this
      subst this
      exact ⟨x, hv, withW_den hd hr⟩
    · exact hd.elim
  · exact hd.elim

theorem region_sound {ro : Option Nat} {nn : Nat} {id : Nat} {ops : Array Oper} {dr : Bool} {K : Ex → St → Fm} {st : St} {a : Act} {W : World} {Q : Exit → Act → World → Prop} (hm : P.follows .mixedOrders = true) (hok : codeOk P H n (.region id ops dr) = true) (hp : st.pend = [])
    (h : (wpC P H (.region id ops dr) K st).den) (hr : Rel n st a W) (hk : Done n (dsts (.region id ops dr)) K st Q) : (Code.region id ops dr).wpIn (FW ro) nn P Q a W := by
  simp only [codeOk, Bool.and_eq_true] at hok
  obtain ⟨⟨hsel, hds⟩, hdr⟩ := hok
  unfold wpC at h
  cases dr with
  | false =>
    simp only [cond_false] at h
    exact wpIn_region (evalOps_plain hsel hds _ _ _ _ h hr hp fun st' a' W' h1 h2 h3 h4 => hk .normal st' a' W' h1 h2 h3 h4)
  | true =>
    have hrel : Rel n { st with clean := false } a { W with drawn := W.drawn + 1 } :=
      ⟨hr.defers, hr.size, hr.env, hr.locs, hr.boxes, hr.gsLen, hr.gsOrd, hr.gsLt, ⟨hr.evo.os, hr.evo.tape, hr.evo.output, hr.evo.size, hr.evo.block, Nat.le_succ_of_le hr.evo.drawn⟩, fun hc => by cases hc⟩
    have hpn : promOf P ({ st with clean := false } : St).pend = [] := by show promOf P st.pend = []; rw [hp]; rfl
    have hV : wpV ro nn P .any ops (Only fun a' W' => Q .normal a' W') ops.size (Array.replicate ops.size false) (promOf P ({ st with clean := false } : St).pend) a { W with drawn := W.drawn + 1 } := by
      simp only [cond_true] at h hdr
      split at h
      · rename_i t ht
        simp only [ht, Bool.and_eq_true] at hdr
        exact (evalT_draw (P := P) (H := H) (n := n) (ops := ops) (k := K .normal) (Q := fun a' W' => Q .normal a' W') hsel hds t ops.size (Array.replicate ops.size false) { st with clean := false } a { W with drawn := W.drawn + 1 } (Nat.le_of_ble_eq_true hdr.1) h hrel
          (by show PendOk P st.pend st.gs _; rw [hp]; intro p hpm; cases hpm)
          (fun st' a' W' h1 h2 h3 h4 => hk .normal st' a' W' h1 h2 ((⟨fun _ _ => rfl, List.prefix_rfl, rfl, fun _ _ _ => rfl, fun _ c _ h => ⟨c, h⟩⟩ : Ext (dsts (.region id ops true)) st { st with clean := false }).tr h3) h4)).1 hdr.2
      · rename_i ht
        simp only [ht, Bool.and_eq_true] at hdr
        have hlen : ((look H.ord id).getD []).length = ops.size := Nat.eq_of_beq_eq_true hdr.1
        exact evalOps_draw (P := P) (H := H) (n := n) (ops := ops) (k := K .normal) (Q := fun a' W' => Q .normal a' W') hsel hds ((look H.ord id).getD []) ops.size (Array.replicate ops.size false) { st with clean := false } a { W with drawn := W.drawn + 1 } (by omega) hdr.2 h hrel
          (by show PendOk P st.pend st.gs _; rw [hp]; intro p hpm; cases hpm)
          (fun st' a' W' h1 h2 h3 h4 => hk .normal st' a' W' h1 h2 ((⟨fun _ _ => rfl, List.prefix_rfl, rfl, fun _ _ _ => rfl, fun _ c _ h => ⟨c, h⟩⟩ : Ext (dsts (.region id ops true)) st { st with clean := false }).tr h3) h4)
    rw [hpn] at hV
    refine wpIn_mono (wpIn_region_V hm hV) fun e a' w' hq => ?_
    cases e with
    | normal => exact hq
    | _ => exact hq.elim
end
end Go.Vc

/- Soundness of the formula of a function: whoever proves the formula has proved what a call of the function comes to. -/
namespace Go.Vc
open Go Go.RowKit

section
variable {P : Program} {H : Hints} {n : Nat}

theorem near_refl (h : LH) (ds : List Nat) (st : St) (ro : List Nat) : Near h ds st { st with ro := ro } :=
  ⟨fun _ _ => rfl, List.prefix_rfl, fun _ _ _ => rfl, fun _ c _ hj => ⟨c, hj⟩⟩

theorem near_rel {h : LH} {ds : List Nat} {st st' : St} (hn : Near h ds st st') : Near h ds st (relSt st st') := ⟨hn.env, hn.gs, hn.box, hn.ty⟩

theorem head_len {h : LH} {ds : List Nat} {st : St} {vs : List Value} {w : World} {ro : List Nat} : (headSt h ds st vs w ro).boxes.length = st.boxes.length :=
  (setBoxes_keep st.env h.boxes (vs.drop h.vars.length) st.boxes).1

theorem near_trans {h : LH} {ds : List Nat} {st st1 st2 : St} (hn : Near h ds st st1) (hx : Ext ds st1 st2) (hro : st1.ro = lockRo h st) (hl : st.boxes.length ≤ st1.boxes.length) : Near h ds st st2 := near_lock hn hro hx hl

theorem wpC_sound {ro : Option Nat} {nn : Nat} (hm : P.follows .mixedOrders = true) : ∀ (c : Code) (K : Ex → St → Fm) (st : St) (a : Act) (W : World) (Q : Exit → Act → World → Prop),
    codeOk P H n c = true → st.pend = [] → (wpC P H c K st).den → Rel n st a W → Done n (dsts c) K st Q → c.wpIn (FW ro) nn P Q a W := by
  intro c
  induction c with
  | skip => intro K st a W Q _ hp h hr hk; exact wpIn_skip (hk .normal st a W h hr (Ext.refl _ _) hp)
  | region id ops dr => intro K st a W Q hok hp h hr hk; exact region_sound hm hok hp h hr hk
  | seq x y ihx ihy =>
    intro K st a W Q hok hp h hr hk
    simp only [codeOk, Bool.and_eq_true] at hok
    unfold wpC at h
    have hsx : ∀ t ∈ dsts x, t ∈ dsts (.seq x y) := fun t ht => List.mem_append_left _ ht
    have hsy : ∀ t ∈ dsts y, t ∈ dsts (.seq x y) := fun t ht => List.mem_append_right _ ht
    refine wpIn_seq ?_
    split at h
    · rename_i lh hcut
      cases hh : hintOk lh (dsts x) st with
      | false => rw [hh] at h; exact h.elim
      | true =>
        rw [hh] at h
        obtain ⟨J, hx, hy⟩ := h
        have hlock : Near lh (dsts x) st { st with ro := lockRo lh st } := near_refl _ _ _ _
        refine ihx _ { st with ro := lockRo lh st } a W _ hok.1 hp hx (rel_ro hr _) ?_
        intro e st' a' W' hd hr' hx' hp'
        have hnear := near_trans hlock hx' rfl (Nat.le_refl _)
        cases e with
        | normal =>
          obtain ⟨v, hv, hJ⟩ := arrive_den hd hr'
          have hyv := Sh.allF_den _ _ hy v W' hJ
          have hrel := rel_head hh hnear hr.locs hr.gsLen hv hr' st.ro
          refine ihy K _ a' W' Q hok.2 rfl hyv hrel ?_
          refine hk.step ?_ hsy
          exact (ext_of_near hh (near_head hh) rfl).mono hsx
        | exit id => exact hk (.exit id) (relSt st st') a' W' hd (rel_ro hr' _) ((ext_of_near hh (near_rel hnear) rfl).mono hsx) hp'
        | ret => exact hk .ret (relSt st st') a' W' hd (rel_ro hr' _) ((ext_of_near hh (near_rel hnear) rfl).mono hsx) hp'
    · refine ihx _ st a W _ hok.1 hp h hr ?_
      intro e st' a' W' hd hr' hx' hp'
      cases e with
      | normal => exact ihy K st' a' W' Q hok.2 hp' hd hr' (hk.step (hx'.mono hsx) hsy)
      | exit id => exact hk (.exit id) st' a' W' hd hr' (hx'.mono hsx) hp'
      | ret => exact hk .ret st' a' W' hd hr' (hx'.mono hsx) hp'
  | cond c x y ihx ihy =>
    intro K st a W Q hok hp h hr hk
    simp only [codeOk, Bool.and_eq_true] at hok
    have hsx : ∀ t ∈ dsts x, t ∈ dsts (.cond c x y) := fun t ht => List.mem_append_right _ (List.mem_append_left _ ht)
    have hsy : ∀ t ∈ dsts y, t ∈ dsts (.cond c x y) := fun t ht => List.mem_append_right _ (List.mem_append_right _ ht)
    unfold wpC at h
    split at h
    · rename_i hc
      have he : a.eval c = .bool true := by rw [hr.rho (x := c) (by rw [hc]; rfl), St.rho, hc]; rfl
      exact wpIn_cond_true he (ihx K st a W Q hok.1 hp h hr (hk.step (Ext.refl _ _) hsx))
    · rename_i hc
      have he : a.eval c = .bool false := by rw [hr.rho (x := c) (by rw [hc]; rfl), St.rho, hc]; rfl
      exact wpIn_cond_false he (ihy K st a W Q hok.2 hp h hr (hk.step (Ext.refl _ _) hsy))
    · rename_i v hc
      have he : a.eval c = .bool v := by rw [hr.rho (x := c) (by rw [hc]; rfl), St.rho, hc]; rfl
      split at h
      · rename_i t
        have hl : look st.env t = some (.val (.bool v)) := by
          simp only [St.slot] at hc
          cases hlk : look st.env t with
          | none => rw [hlk] at hc; cases hc
          | some s => rw [hlk] at hc; exact congrArg some hc
        cases hop : has H.splits t with
        | true =>
          rw [hop] at h
          have hin : t ∈ dsts (.cond (.tmp t) x y) := List.mem_append_left _ (List.mem_singleton.2 rfl)
          refine wpIn_cond_split he (fun hv => ?_) (fun hv => ?_)
          · subst hv
            exact ihx K { st with env := (t, .lit true) :: st.env } a W Q hok.1 hp (h.1 rfl) (hr.lit hl) (hk.step (Ext.lit st (.lit true) hin) hsx)
          · subst hv
            exact ihy K { st with env := (t, .lit false) :: st.env } a W Q hok.2 hp (h.2 rfl) (hr.lit hl) (hk.step (Ext.lit st (.lit false) hin) hsy)
        | false =>
          rw [hop] at h
          simp only [cond_false] at h
          cases v with
          | true => exact wpIn_cond_true he (ihx K st a W Q hok.1 hp h hr (hk.step (Ext.refl _ _) hsx))
          | false => exact wpIn_cond_false he (ihy K st a W Q hok.2 hp h hr (hk.step (Ext.refl _ _) hsy))
      · exact h.elim
    · exact h.elim
  | block id b ih =>
    intro K st a W Q hok hp h hr hk
    unfold wpC at h
    refine wpIn_block (ih _ st a W _ hok hp h hr ?_)
    intro e st' a' W' hd hr' hx' hp'
    cases e with
    | normal => exact hk .normal st' a' W' hd hr' hx' hp'
    | exit id' =>
      simp only at hd
      cases hb : Nat.beq id' id with
      | true =>
        rw [hb] at hd
        have := Nat.eq_of_beq_eq_true hb
        show Exit.inBlock id Q (.exit id') a' W'
        simp only [Exit.inBlock, this, if_true]
        exact hk .normal st' a' W' hd hr' hx' hp'
      | false =>
        rw [hb] at hd
        have hne : id' ≠ id := fun e => by rw [e, Nat.beq_refl] at hb; cases hb
        show Exit.inBlock id Q (.exit id') a' W'
        simp only [Exit.inBlock, hne, if_false]
        exact hk (.exit id') st' a' W' hd hr' hx' hp'
    | ret => exact hk .ret st' a' W' hd hr' hx' hp'
  | scope b ih =>
    intro K st a W Q hok hp h hr hk
    unfold wpC at h
    refine wpIn_scope_straight (ih K st a W _ hok hp h hr ?_)
    intro e st' a' W' hd hr' hx' hp'
    have := hk e st' a' W' hd hr' hx' hp'
    cases e <;> exact this
  | label l =>
    intro K st a W Q hok hp h hr hk
    unfold wpC at h
    exact wpIn_label (hk .normal st a W h hr (Ext.refl _ _) hp)
  | loop b ih =>
    intro K st a W Q hok hp h hr hk
    unfold wpC at h
    split at h
    · rename_i m hun
      refine wpIn_loop_rounds m ?_
      clear hun
      have key : ∀ (m : Nat) (st1 : St) (a : Act) (W : World), st1.pend = [] → Ext (dsts b) st st1 → (Nat.rec (motive := fun _ => St → Fm) (fun _ => .bad 52) (fun _ ih st => wpC P H b (fun e st' => match e with
          | .normal => ih st'
          | e => K e st') st) m st1 : Fm).den → Rel n st1 a W → Code.roundsIn (FW ro) nn P b Q m a W := by
        intro m
        induction m with
        | zero => intro st1 a W _ _ hd _; exact hd.elim
        | succ m ihm =>
          intro st1 a W hp1 hx1 hd hr1
          rw [roundsIn_succ]
          refine ih _ st1 a W _ hok hp1 hd hr1 ?_
          intro e st' a' W' hd' hr' hx' hp'
          cases e with
          | normal => exact ihm st' a' W' hp' (hx1.tr hx') hd' hr'
          | exit id => exact hk (.exit id) st' a' W' hd' hr' (hx1.tr hx') hp'
          | ret => exact hk .ret st' a' W' hd' hr' (hx1.tr hx') hp'
      exact key m st a W hp (Ext.refl _ _) h hr
    · split at h
      · rename_i lh hlp
        cases hh : hintOk lh (dsts b) st with
        | false => rw [hh] at h; exact h.elim
        | true =>
          rw [hh] at h
          obtain ⟨J, m, h0, hround⟩ := h
          obtain ⟨x0, hv0, hJ0⟩ := arrive_den h0 hr
          have hnear0 : Near lh (dsts b) st st := ⟨fun _ _ => rfl, List.prefix_rfl, fun _ _ _ => rfl, fun _ c _ hj => ⟨c, hj⟩⟩
          refine wpIn_loop_num (fun k a W => ∃ x, k = m x W ∧ J x W ∧ Rel n (headSt lh (dsts b) st (lh.sh.vals x) W (lockRo lh st)) a W) (m x0 W) ⟨x0, rfl, hJ0, rel_head hh hnear0 hr.locs hr.gsLen hv0 hr _⟩ ?_
          rintro k a1 W1 ⟨x, rfl, hJ, hr1⟩
          have hb := Sh.allF_den _ _ hround x W1 hJ
          refine ih _ _ a1 W1 _ hok rfl hb hr1 ?_
          intro e st' a' W' hd hr' hx' hp'
          have hnear : Near lh (dsts b) st st' := near_trans (near_head hh) hx' rfl (by rw [head_len]; exact Nat.le_refl _)
          cases e with
          | normal =>
            obtain ⟨y, hv, hJ', hlt⟩ := arrive_den hd hr'
            exact ⟨m y W', hlt, y, rfl, hJ', rel_head hh hnear hr.locs hr.gsLen hv hr' _⟩
          | exit id => exact hk (.exit id) (relSt st st') a' W' hd (rel_ro hr' _) (ext_of_near hh (near_rel hnear) rfl) hp'
          | ret => exact hk .ret (relSt st st') a' W' hd (rel_ro hr' _) (ext_of_near hh (near_rel hnear) rfl) hp'
      · exact h.elim
  | exit id => intro K st a W Q _ hp h hr hk; exact wpIn_exit (hk (.exit id) st a W h hr (Ext.refl _ _) hp)
  | ret => intro K st a W Q _ hp h hr hk; exact wpIn_ret (hk .ret st a W h hr (Ext.refl _ _) hp)
  | rangeFunc f ps x y => intro K st a W Q _ hp h hr hk; exact h.elim
  | goto l => intro K st a W Q _ hp h hr hk; exact h.elim
  | refuse why => intro K st a W Q _ hp h hr hk; exact h.elim

/-! ### Results -/
theorem run_pure {α : Type} (P : Program) (x : α) (W : World) : (pure x : Sem α).run P W = .ok x W := rfl

def resSem (tmps : Array Value) : ResultVar → Sem Value
  | .tmp t => pure (tmps.getD t undef)
  | .cell a t => do loadVar t (← asAddr (tmps.getD a undef))

def AllRun (P : Program) (tmps : Array Value) (W : World) : List ResultVar → List Value → Prop
  | [], [] => True
  | r :: l, v :: vs => (resSem tmps r).run P W = .ok v W ∧ AllRun P tmps W l vs
  | _, _ => False

theorem run_mapM {tmps : Array Value} {W : World} : ∀ (l : List ResultVar) (vs : List Value), AllRun P tmps W l vs → (l.mapM (resSem tmps)).run P W = .ok vs W
  | [], [], _ => rfl
  | [], _ :: _, h => h.elim
  | _ :: _, [], h => h.elim
  | r :: l, v :: vs, h => by
    rw [List.mapM_cons, run_bind_ok h.1, run_bind_ok (run_mapM l vs h.2)]
    rfl

/-- How a function's results are handed back. -/
def packed : List Value → Value
  | [v] => v
  | l => .tuple l.toArray

theorem run_results {fn : Func} {tmps : Array Value} {W : World} {vs : List Value} (h : AllRun P tmps W fn.results.toList vs) : (results fn tmps).run P W = .ok (packed vs) W := by
  have h1 : (fn.results.mapM (resSem tmps)).run P W = .ok vs.toArray W := by
    rw [Array.mapM_eq_mapM_toList, map_eq_pure_bind, run_bind_ok (run_mapM _ _ h), run_pure]
  have he : results fn tmps = (fn.results.mapM (resSem tmps)) >>= fun vs => pure (if h : vs.size = 1 then vs[0] else .tuple vs) := by
    unfold results
    congr
  rw [he, run_bind_ok h1]
  match vs with
  | [] => rfl
  | [v] => rfl
  | v :: u :: r => rfl

theorem resultsF_sound {R : Ending → World → Prop} {a : Act} {W : World} : ∀ (l : List ResultVar) (acc : List Value) (st : St), (resultsF P R l acc st).den → Rel n st a W →
    ∃ vs, AllRun P a.tmps W l vs ∧ R (.returned (packed (acc.reverse ++ vs))) W
  | [], acc, st, h, hr => by
    have h1 := withW_den h hr
    refine ⟨[], trivial, ?_⟩
    rw [List.append_nil]
    have : (match acc.reverse with
      | [v] => v
      | l => Value.tuple l.toArray) = packed acc.reverse := by
      unfold packed
      split <;> rfl
    rw [← this]
    exact h1
  | .tmp t :: r, acc, st, h, hr => by
    unfold resultsF at h
    split at h
    · rename_i s hs
      cases hal : s.alive with
      | false => rw [hal] at h; exact h.elim
      | true =>
        rw [hal] at h
        obtain ⟨vs, h1, h2⟩ := resultsF_sound r (s.value st.gs :: acc) st h hr
        refine ⟨s.value st.gs :: vs, ⟨?_, h1⟩, by simpa using h2⟩
        have := hr.env t s hs hal
        simp [resSem, this]
    · exact h.elim
  | .cell ad t :: r, acc, st, h, hr => by
    unfold resultsF at h
    split at h
    · rename_i j off hs
      have hgt := hr.env ad _ hs rfl
      split at h
      · rename_i cells ty hb
        split at h
        · rename_i v hv
          obtain ⟨vs, h1, h2⟩ := resultsF_sound r (v :: acc) st h hr
          refine ⟨v :: vs, ⟨?_, h1⟩, by simpa using h2⟩
          obtain ⟨g, hg, hc⟩ := hr.boxes j cells ty hb
          have hgd : st.gs.getD j 0 = g := by simp [List.getD_eq_getElem?_getD, hg]
          have hload := run_cellLoad (P := P) hc hv
          have hval : a.tmps.getD ad undef = .pointer (some ⟨g, off, none⟩) := by
            simp only [Array.getD_eq_getD_getElem?, hgt, Option.getD_some, Slot.value, hgd]
          have e1 : (asAddr (.pointer (some ⟨g, off, none⟩))).run P W = .ok ⟨g, off, none⟩ W := rfl
          have e2 : (Instr.sureAddr (.pointer (some ⟨g, off, none⟩))).run P W = .ok ⟨g, off, none⟩ W := rfl
          show ((asAddr (a.tmps.getD ad undef)) >>= fun x => loadVar t x).run P W = _
          rw [hval, run_bind_ok e1]
          unfold Instr.loadAt at hload
          rw [run_bind_ok e2] at hload
          exact hload
        · exact h.elim
      · exact h.elim
    · rename_i p hs
      have hgt := hr.env ad _ hs rfl
      obtain ⟨x, hrd, hd⟩ := Sh.exF_den _ _ h
      obtain ⟨vs, h1, h2⟩ := resultsF_sound r ((shapeOf P t).mk x :: acc) st hd hr
      refine ⟨(shapeOf P t).mk x :: vs, ⟨?_, h1⟩, by simpa using h2⟩
      have hval : a.tmps.getD ad undef = .pointer (some p) := by
        simp only [Array.getD_eq_getD_getElem?, hgt, Option.getD_some, Slot.value]
      have e1 : (asAddr (.pointer (some p))).run P W = .ok p W := rfl
      show ((asAddr (a.tmps.getD ad undef)) >>= fun x => loadVar t x).run P W = _
      rw [hval, run_bind_ok e1]
      exact hrd W (evoP_of hr.evo)
    · exact h.elim

theorem look_initEnv : ∀ (l : List Value) (i t : Nat) (s : Slot), look (initEnv i l) t = some s → ∃ v, s = .val v ∧ i ≤ t ∧ l[t - i]? = some v
  | [], _, _, _, h => by cases h
  | v :: r, i, t, s, h => by
    unfold initEnv at h
    by_cases hit : i = t
    · subst hit
      rw [look_eq] at h
      cases h
      exact ⟨v, rfl, Nat.le_refl _, by simp⟩
    · rw [look_ne hit] at h
      obtain ⟨u, hu, hle, hg⟩ := look_initEnv r (i + 1) t s h
      refine ⟨u, hu, by omega, ?_⟩
      rw [show t - i = (t - (i + 1)) + 1 from by omega, List.getElem?_cons_succ]
      exact hg

/-- THE THEOREM: the formula of a function, proved, is a contract of the function. -/
theorem fn_sound {f : FuncId} {fn : Func} {args : List Value} {w : World} {R : Ending → World → Prop} (hm : P.follows .mixedOrders = true) (hf : P.funcs[f]? = some fn) (hok : fnOk P H fn args.length = true)
    (h : (fnF P H fn args w R).den) : Calls P f args.toArray w R := by
  unfold fnOk at hok
  unfold fnF at h
  cases hb : fn.body with
  | none => rw [hb] at hok; cases hok
  | some c =>
    rw [hb] at hok h
    simp only [Bool.and_eq_true] at hok h
    have hlen := Nat.le_of_ble_eq_true hok.2
    refine calls_of_wp hf hb (wpIn_wide (n := 0).1 ?_)
    refine wpC_sound (ro := none) (nn := 0) (n := fn.ntmps) hm c _ { env := initEnv 0 args, boxes := [], gs := [], ro := [], w := w, clean := true, dirty := [], pend := [] } _ w _ hok.1 rfl h ?_ ?_
    · refine ⟨rfl, ?_, fun t s ht hs => ?_, fun t s ht => ?_, fun j cells ty hj => by simp at hj, rfl, List.Pairwise.nil, fun g hg => (by simp at hg), Evo.refl _, fun _ => rfl⟩
      · simp; omega
      · obtain ⟨v, rfl, _, hv⟩ := look_initEnv _ _ _ _ ht
        simp only [Nat.sub_zero] at hv
        have hlt := (List.getElem?_eq_some_iff.1 hv).1
        rw [Array.getElem?_append_left (by simpa using hlt)]
        simpa [Slot.value] using hv
      · obtain ⟨v, rfl, _, _⟩ := look_initEnv _ _ _ _ ht
        trivial
    · intro e st' a' W' hd hr' hx' hp'
      have fin : (resultsF P R fn.results.toList [] st').den → a'.defers = [] ∧ ∃ v, (results fn a'.tmps).run P W' = .ok v W' ∧ R (.returned v) W' := by
        intro hd
        obtain ⟨vs, h1, h2⟩ := resultsF_sound _ _ _ hd hr'
        exact ⟨hr'.defers, _, run_results h1, by simpa using h2⟩
      cases e with
      | normal => exact fin hd
      | exit id => exact hd.elim
      | ret => exact fin hd
end
end Go.Vc

/- Go data as Lean data: integers, bools, strings, structs, arrays, slices; how a reading of the claim's form becomes one, and that what lies in memory goes on reading so while no old block turns. -/
namespace Go.Vc
open Go Go.RowKit

inductive GT where
  | int (k : IntKind)
  | bool
  | str
  | sl (e : GT)
  | st (s : GT)
  | unit
  | pair (a b : GT)

@[reducible] def GT.T : GT → Type
  | .int _ => Int
  | .bool => Bool
  | .str => ByteArray
  | .sl e => List e.T
  | .st s => s.T
  | .unit => Unit
  | .pair a b => a.T × b.T

/-- How many cells. -/
def GT.n : GT → Nat
  | .st s => s.n
  | .unit => 0
  | .pair a b => a.n + b.n
  | _ => 1

/-- A slice that reads as a list: R tells how an element lies in its cells. -/
def SlR {α : Type} (w : World) (n : Nat) (R : α → List Value → Prop) (l : List α) (a : Option Addr) (len cap : Nat) : Prop :=
  len = l.length ∧ len ≤ cap ∧ cap ≤ maxLen ∧ (a = none → cap = 0) ∧
    ∀ (i : Nat) (x : α), l[i]? = some x → ∃ ad cs, a = some ad ∧ cs.length = n ∧ (∀ (j : Nat) (v : Value), cs[j]? = some v → w.cell? ((ad.add (i * n)).add j) = some v) ∧ R x cs

def GT.R (w : World) : (g : GT) → g.T → List Value → Prop
  | .int k, x, cs => cs = [.int k x] ∧ k.min ≤ x ∧ x ≤ k.max
  | .bool, b, cs => cs = [.bool b]
  | .str, s, cs => cs = [.string s] ∧ s.size ≤ maxLen
  | .sl e, l, cs => ∃ a len cap, cs = [.slice a len cap] ∧ SlR w e.n (e.R w) l a len cap
  | .st s, x, cs => s.R w x cs
  | .unit, _, cs => cs = []
  | .pair a b, x, cs => ∃ c1 c2, cs = c1 ++ c2 ∧ a.R w x.1 c1 ∧ b.R w x.2 c2

theorem GT.R_len {w : World} : ∀ (g : GT) (x : g.T) (cs : List Value), g.R w x cs → cs.length = g.n
  | .int _, _, _, h => by obtain ⟨rfl, _⟩ := h; rfl
  | .bool, _, _, h => by cases h; rfl
  | .str, _, _, h => by obtain ⟨rfl, _⟩ := h; rfl
  | .sl _, _, _, h => by obtain ⟨_, _, _, rfl, _⟩ := h; rfl
  | .st s, x, cs, h => GT.R_len s x cs h
  | .unit, _, _, h => by cases h; rfl
  | .pair a b, x, cs, h => by
    obtain ⟨c1, c2, rfl, h1, h2⟩ := h
    simp [GT.n, GT.R_len a _ _ h1, GT.R_len b _ _ h2]

/-- While every cell that there was reads on as it did, the data do. -/
theorem SlR.mono {α : Type} {w w' : World} {n : Nat} {R R' : α → List Value → Prop} {l : List α} {a : Option Addr} {len cap : Nat} (h : SlR w n R l a len cap) (hc : ∀ ad v, w.cell? ad = some v → w'.cell? ad = some v) (hR : ∀ x cs, R x cs → R' x cs) :
    SlR w' n R' l a len cap := by
  obtain ⟨h1, h2, h3, h4, h6⟩ := h
  refine ⟨h1, h2, h3, h4, fun i x hx => ?_⟩
  obtain ⟨ad, cs, ha, hl, hcs, hr⟩ := h6 i x hx
  exact ⟨ad, cs, ha, hl, fun j v hv => hc _ _ (hcs j v hv), hR _ _ hr⟩

theorem GT.R_mono {w w' : World} (hc : ∀ ad v, w.cell? ad = some v → w'.cell? ad = some v) : ∀ (g : GT) (x : g.T) (cs : List Value), g.R w x cs → g.R w' x cs
  | .int _, _, _, h => h
  | .bool, _, _, h => h
  | .str, _, _, h => h
  | .sl e, _, _, h => by
    obtain ⟨a, len, cap, rfl, hs⟩ := h
    exact ⟨a, len, cap, rfl, hs.mono hc fun x cs hr => GT.R_mono hc e x cs hr⟩
  | .st s, x, cs, h => GT.R_mono hc s x cs h
  | .unit, _, _, h => h
  | .pair a b, x, cs, h => by
    obtain ⟨c1, c2, rfl, h1, h2⟩ := h
    exact ⟨c1, c2, rfl, GT.R_mono hc a _ _ h1, GT.R_mono hc b _ _ h2⟩

theorem cell_below {w w' : World} (h : Below w.heap.size w w') (ad : Addr) (v : Value) (hc : w.cell? ad = some v) : w'.cell? ad = some v :=
  (h.cell (World.block_lt_of_cell? w ad hc)).trans hc

theorem GT.R_below {w w' : World} (h : Below w.heap.size w w') (g : GT) (x : g.T) (cs : List Value) (hr : g.R w x cs) : g.R w' x cs :=
  GT.R_mono (cell_below h) g x cs hr

/-! ### Out of the form's own reading -/
def comps (P : Program) (t : TypeId) : Option (List (TypeId × Nat)) :=
  match P.underlying t with
  | some (.struct fs) => some (fs.toList.map fun f => (f.type, f.offset))
  | some (.array n e) => some ((List.range n).map fun i => (e, i * P.cellsOf e))
  | _ => none

mutual
def GT.fits (P : Program) : GT → TypeId → Bool
  | .int k, t => match P.underlying t with
    | some (.int k') => decide (k' = k)
    | _ => false
  | .bool, t => match P.underlying t with
    | some .bool => true
    | _ => false
  | .str, t => match P.underlying t with
    | some .string => true
    | _ => false
  | .sl e, t => match P.underlying t with
    | some (.slice te) => GT.fits P e te && Nat.beq e.n (P.cellsOf te)
    | _ => false
  | .st s, t => match comps P t with
    | some l => GT.fitsL P s l 0 && Nat.beq s.n (P.cellsOf t)
    | none => false
  | .unit, _ => false
  | .pair _ _, _ => false
def GT.fitsL (P : Program) : GT → List (TypeId × Nat) → Nat → Bool
  | .unit, l, _ => l.isEmpty
  | .pair a b, l, off => match l with
    | (t, o) :: r => Nat.beq o off && GT.fits P a t && Nat.beq a.n (P.cellsOf t) && GT.fitsL P b r (off + a.n)
    | [] => false
  | _, _, _ => false
end

section
variable {H : Type} {enc : TypeId × Value → H} {P : Program} {w : World} {spare : Nat → Bool} {held : Bool}

theorem mapM_some {α β : Type} {f : α → Option β} : ∀ {l : List α} {r : List β}, l.mapM f = some r → ∀ x ∈ l, ∃ y, f x = some y
  | [], _, _, _, hx => by cases hx
  | a :: l, r, h, x, hx => by
    rw [List.mapM_cons] at h
    cases ha : f a with
    | none => rw [ha] at h; cases h
    | some b =>
      rw [ha] at h
      cases hl : l.mapM f with
      | none => rw [hl] at h; cases h
      | some r' =>
        rcases List.mem_cons.1 hx with rfl | hx
        · exact ⟨b, ha⟩
        · exact mapM_some hl x hx

theorem mapM_length {α β : Type} {f : α → Option β} : ∀ {l : List α} {r : List β}, l.mapM f = some r → r.length = l.length
  | [], r, h => by cases h; rfl
  | a :: l, r, h => by
    rw [List.mapM_cons] at h
    cases ha : f a with
    | none => rw [ha] at h; cases h
    | some b =>
      rw [ha] at h
      cases hl : l.mapM f with
      | none => rw [hl] at h; cases h
      | some r' =>
        rw [hl] at h
        cases h
        simp [mapM_length hl]

theorem cells_spec {a : Addr} {m : Nat} {cs : List Value} (h : w.cells? 0 a m = some cs) : cs.length = m ∧ ∀ j v, cs[j]? = some v → w.cell? (a.add j) = some v := by
  unfold World.cells? at h
  simp only [Nat.zero_le, if_true] at h
  have hlen := mapM_length h
  rw [List.length_range] at hlen
  refine ⟨hlen, ?_⟩
  intro j v hj
  have key : ∀ (l : List Nat) (r : List Value), l.mapM (fun i => w.cell? (a.add i)) = some r → ∀ (j : Nat) (v : Value), r[j]? = some v → ∃ i, l[j]? = some i ∧ w.cell? (a.add i) = some v := by
    intro l
    induction l with
    | nil => intro r hr j v hv; cases hr; simp at hv
    | cons i l ih =>
      intro r hr j v hv
      rw [List.mapM_cons] at hr
      cases hi : w.cell? (a.add i) with
      | none => rw [hi] at hr; cases hr
      | some u =>
        rw [hi] at hr
        cases hl : l.mapM (fun i => w.cell? (a.add i)) with
        | none => rw [hl] at hr; cases hr
        | some r' =>
          rw [hl] at hr
          cases hr
          cases j with
          | zero => simp at hv; subst hv; exact ⟨i, rfl, hi⟩
          | succ j => exact ih r' hl j v (by simpa using hv)
  obtain ⟨i, hi, hc⟩ := key _ _ h j v hj
  have hjl : j < m := by
    have := (List.getElem?_eq_some_iff.1 hj).1
    omega
  rw [List.getElem?_range hjl] at hi
  cases hi
  exact hc

theorem addr_add_add (a : Addr) (i j : Nat) (h : a.spot = none) : (a.add i).add j = a.add (i + j) := by
  obtain ⟨b, o, s⟩ := a
  simp only at h
  subst h
  unfold Addr.add
  by_cases hi : i = 0 <;> by_cases hj : j = 0 <;> simp [hi, hj, Nat.add_assoc]

/-- A choice for each element of a list. -/
theorem list_choice {α : Type} (n : Nat) (p : Nat → α → Prop) (h : ∀ i, i < n → ∃ x, p i x) : ∃ l : List α, l.length = n ∧ ∀ i x, l[i]? = some x → p i x := by
  induction n with
  | zero => exact ⟨[], rfl, by simp⟩
  | succ n ih =>
    obtain ⟨l, hl, hp⟩ := ih fun i hi => h i (by omega)
    obtain ⟨x, hx⟩ := h n (by omega)
    refine ⟨l ++ [x], by simp [hl], fun i y hy => ?_⟩
    by_cases hi : i < n
    · rw [List.getElem?_append_left (by omega)] at hy
      exact hp i y hy
    · have hlt := (List.getElem?_eq_some_iff.1 hy).1
      simp at hlt
      have : i = n := by omega
      subst this
      rw [List.getElem?_append_right (by omega)] at hy
      simp [hl] at hy
      subst hy
      exact hx

mutual
theorem read_fits : ∀ (g : GT) (t : TypeId) (fuel : Nat) (cs : List Value) (z : DataW H × List MemPlace), g.fits P t = true → DataW.trod enc P w 0 spare held fuel t cs = some z → ∃ x, g.R w x cs
  | g, t, 0, cs, z, _, h => by cases h
  | .int k, t, fuel + 1, cs, z, hf, h => by
    unfold GT.fits at hf
    split at hf
    · rename_i k' hu
      have hk := of_decide_eq_true hf
      subst hk
      unfold DataW.trod at h
      rw [hu] at h
      split at h <;> try (first | (cases h; done) | (rename_i hx; cases hx; done))
      rename_i k2 k3 m hx
      cases hx
      split at h
      · rename_i hw
        obtain ⟨rfl, hwf⟩ := hw
        simp only [Lit.wf, Bool.and_eq_true, decide_eq_true_eq] at hwf
        exact ⟨m, rfl, hwf.1, hwf.2⟩
      · cases h
    · cases hf
  | .bool, t, fuel + 1, cs, z, hf, h => by
    unfold GT.fits at hf
    split at hf
    · rename_i hu
      unfold DataW.trod at h
      rw [hu] at h
      split at h <;> try (first | (cases h; done) | (rename_i hx; cases hx; done))
      rename_i b hx
      exact ⟨b, rfl⟩
    · cases hf
  | .str, t, fuel + 1, cs, z, hf, h => by
    unfold GT.fits at hf
    split at hf
    · rename_i hu
      unfold DataW.trod at h
      rw [hu] at h
      split at h <;> try (first | (cases h; done) | (rename_i hx; cases hx; done))
      rename_i s hx
      split at h
      · rename_i hs
        exact ⟨s, rfl, hs⟩
      · cases h
    · cases hf
  | .sl e, t, fuel + 1, cs, z, hf, h => by
    unfold GT.fits at hf
    split at hf
    · rename_i te hu
      simp only [Bool.and_eq_true] at hf
      have hn := Nat.eq_of_beq_eq_true hf.2
      unfold DataW.trod at h
      rw [hu] at h
      split at h <;> try (first | (cases h; done) | (rename_i hx; cases hx; done))
      · exact ⟨[], none, 0, 0, rfl, rfl, Nat.le_refl _, Nat.zero_le _, fun _ => rfl, fun i x hx => (by simp at hx)⟩
      · rename_i te2 a len cap hx
        cases hx
        simp only at h
        split at h
        · rename_i hb
          obtain ⟨_, hlc, hcm⟩ := hb
          cases hm : (List.range len).mapM (fun i => (w.cells? 0 (a.add (i * P.cellsOf te)) (P.cellsOf te)).bind (DataW.trod enc P w 0 spare held fuel te)) with
          | none => rw [hm] at h; cases h
          | some elems =>
            have hall : ∀ i, i < len → ∃ x, ∃ cs, cs.length = e.n ∧ (∀ j v, cs[j]? = some v → w.cell? ((a.add (i * e.n)).add j) = some v) ∧ e.R w x cs := by
              intro i hi
              obtain ⟨y, hy⟩ := mapM_some hm i (List.mem_range.2 hi)
              cases hc : w.cells? 0 (a.add (i * P.cellsOf te)) (P.cellsOf te) with
              | none => rw [hc] at hy; cases hy
              | some cs =>
                rw [hc] at hy
                obtain ⟨x, hx⟩ := read_fits e te fuel cs y hf.1 hy
                obtain ⟨hl, hcs⟩ := cells_spec hc
                rw [← hn] at hl hcs
                exact ⟨x, cs, hl, hcs, hx⟩
            obtain ⟨l, hl, hp⟩ := list_choice len _ hall
            exact ⟨l, some a, len, cap, rfl, hl.symm, hlc, hcm, fun h => (by cases h), fun i x hx => (by
              obtain ⟨cs, hcl, hcs, hr⟩ := hp i x hx
              exact ⟨a, cs, rfl, hcl, hcs, hr⟩)⟩
        · cases h
    · cases hf
  | .st s, t, fuel + 1, cs, z, hf, h => by
    unfold GT.fits at hf
    split at hf
    · rename_i l hc
      simp only [Bool.and_eq_true] at hf
      have hn := Nat.eq_of_beq_eq_true hf.2
      have hparts : cs.length = P.cellsOf t ∧ ∀ x ∈ l, ∃ y, DataW.trod enc P w 0 spare held fuel x.1 ((cs.drop x.2).take (P.cellsOf x.1)) = some y := by
        unfold comps at hc
        split at hc
        · rename_i fs hu
          cases hc
          simp only [DataW.trod, hu] at h
          split at h
          · rename_i hl
            refine ⟨hl, fun x hx => ?_⟩
            obtain ⟨f, hf, rfl⟩ := List.mem_map.1 hx
            cases hm : fs.toList.mapM (fun f => DataW.trod enc P w 0 spare held fuel f.type ((cs.drop f.offset).take (P.cellsOf f.type))) with
            | none => rw [hm] at h; cases h
            | some r => exact mapM_some hm f hf
          · cases h
        · rename_i m e hu
          cases hc
          simp only [DataW.trod, hu] at h
          split at h
          · rename_i hl
            refine ⟨hl, fun x hx => ?_⟩
            obtain ⟨i, hi, rfl⟩ := List.mem_map.1 hx
            cases hm : (List.range m).mapM (fun i => DataW.trod enc P w 0 spare held fuel e ((cs.drop (i * P.cellsOf e)).take (P.cellsOf e))) with
            | none => rw [hm] at h; cases h
            | some r => exact mapM_some hm i hi
          · cases h
        · cases hc
      obtain ⟨x, hx⟩ := read_fitsL s l 0 fuel cs hf.1 hparts.2 (by omega)
      refine ⟨x, ?_⟩
      simp only [List.drop_zero] at hx
      rw [hn, ← hparts.1, List.take_length] at hx
      exact hx
    · cases hf
  | .unit, t, fuel + 1, cs, z, hf, h => by cases hf
  | .pair a b, t, fuel + 1, cs, z, hf, h => by cases hf
theorem read_fitsL : ∀ (g : GT) (l : List (TypeId × Nat)) (off fuel : Nat) (cs : List Value), g.fitsL P l off = true → (∀ x ∈ l, ∃ y, DataW.trod enc P w 0 spare held fuel x.1 ((cs.drop x.2).take (P.cellsOf x.1)) = some y) → off + g.n ≤ cs.length →
    ∃ x, g.R w x ((cs.drop off).take g.n)
  | .unit, _, _, _, _, _, _, _ => ⟨(), by simp [GT.R, GT.n]⟩
  | .pair a b, l, off, fuel, cs, hf, h, hl => by
    unfold GT.fitsL at hf
    split at hf
    · rename_i t o r
      simp only [Bool.and_eq_true] at hf
      obtain ⟨⟨⟨ho, hft⟩, hna⟩, hfr⟩ := hf
      have ho := Nat.eq_of_beq_eq_true ho
      have hna := Nat.eq_of_beq_eq_true hna
      subst ho
      simp only [GT.n] at hl
      obtain ⟨y, hy⟩ := h (t, o) (List.mem_cons_self ..)
      obtain ⟨x1, h1⟩ := read_fits a t fuel _ y hft hy
      obtain ⟨x2, h2⟩ := read_fitsL b r (o + a.n) fuel cs hfr (fun x hx => h x (List.mem_cons_of_mem _ hx)) (by omega)
      refine ⟨(x1, x2), (cs.drop o).take a.n, (cs.drop (o + a.n)).take b.n, ?_, by rw [hna]; exact h1, h2⟩
      simp only [GT.n]
      rw [List.take_add, List.drop_drop]
    · cases hf
  | .int _, _, _, _, _, hf, _, _ => by cases hf
  | .bool, _, _, _, _, hf, _, _ => by cases hf
  | .str, _, _, _, _, hf, _, _ => by cases hf
  | .sl _, _, _, _, _, hf, _, _ => by cases hf
  | .st _, _, _, _, _, hf, _, _ => by cases hf
end
end
end Go.Vc

/- The last step of a law's row: its contract is that it returns true and leaves every old block as it was; then each argument reads behind the call as it read before. -/
namespace Go.Vc
open Go Go.RowKit Go.ChangeShapes Go.WideShapes

section
variable {H : Type} {enc : TypeId × Value → H} {P : Program}

theorem trodAll_below (hl : laidOutB P = true) {W W' : World} (hb : Below W.heap.size W W') {sp : Nat → Bool} : ∀ (ts : List TypeId) (vs : List Value) (ds : List (DataW H)) (ps : List MemPlace),
    (∀ t ∈ ts, P.readableRec t = true ∧ t < P.types.size) → DataW.TrodAll enc P W 0 (fun _ => true) true ts vs ds ps → (∀ x ∈ ps, x.block < W.heap.size) → (∀ x ∈ ps, sp x.block = true) → DataW.TrodAll enc P W' 0 sp true ts vs ds ps
  | [], vs, ds, ps, _, h, _, _ => by
    obtain ⟨rfl, rfl, rfl⟩ := trodAll_nil h
    exact trodAll_mk0
  | t :: ts, vs, ds, ps, hr, h, hlt, hsp => by
    obtain ⟨v, vs', d, ds', p, q, rfl, rfl, rfl, h1, h2⟩ := trodAll_cons h
    obtain ⟨hr1, hr2⟩ := hr t (List.mem_cons_self ..)
    refine ⟨p, q, ?_, trodAll_below hl hb ts vs' ds' q (fun u hu => hr u (List.mem_cons_of_mem _ hu)) h2 (fun x hx => hlt x (List.mem_append_right _ hx)) (fun x hx => hsp x (List.mem_append_right _ hx)), rfl⟩
    exact WideElems.Trod_stays hl hr1 hr2 h1 (fun x hx => hb.same (hlt x (List.mem_append_left _ hx))) (fun x hx => hsp x (List.mem_append_left _ hx))

theorem law_post {f : Func} {s : ChangeSpec} {apart fresh handsOn again : Bool} {W W' : World} {args : Array Value} {ds : List (DataW H)} {before : List MemPlace} {tb : TypeId} (hl : laidOutB P = true) (htb : P.underlying tb = some .bool) (hft : f.resultTypes = #[tb]) (hsv : s.vars = [])
    (hW : DataW.Whole enc P f.params.toList s.vars apart W args.toList ds [] before) (hfn : s.fn H (ds ++ []) = { results := [.lit (.bool true)], args := ds })
    (hread : ∀ t ∈ f.params.toList, P.readableRec t = true ∧ t < P.types.size) (hb : Below W.heap.size W W') : s.post enc P f apart fresh handsOn again W args (.bool true) W' := by
  have hlt : ∀ p ∈ before, p.block < W.heap.size := fun p hp => hW.lt p hp
  have hWc := hW
  obtain ⟨p, q, hA, hV, hpq, hz, hn⟩ := hW
  rw [hsv] at hV
  have hq : q = [] := (trodVars_none hV).2
  subst hq
  rw [List.append_nil] at hpq
  subst hpq
  have hargs : ∀ sp : Nat → Bool, (∀ x ∈ before, sp x.block = true) → DataW.TrodAll enc P W' 0 sp true f.params.toList args.toList ds before := fun sp hsp => trodAll_below hl hb _ _ _ _ hread hA hlt hsp
  have hold : ∀ x ∈ before, (fun b => decide (b < W.heap.size)) x.block = true := fun x hx => by simpa using hlt x hx
  have hres : ∀ (b : Nat) (sp : Nat → Bool) (hd : Bool), DataW.TrodAll enc P W' b sp hd f.resultTypes.toList ((Value.bool true).resultList f.resultTypes.size) [.lit (.bool true)] [] := by
    intro b sp hd
    rw [hft]
    exact trodAll_mk1 (shut_bool htb _)
  have hvars : ∀ sp : Nat → Bool, DataW.TrodVars enc P W' sp s.vars (s.fn H (ds ++ [])).vars [] := fun sp => by rw [hsv, hfn]; rfl
  refine ⟨ds, [], before, [], before, [], hWc, by rw [hfn]; exact hres _ _ _, by rw [hfn]; exact hargs _ hold, hvars _, World.keptBut_mono (fun x hx => ⟨hx, .inr (.inl hx)⟩) (hb.frame (· ∈ before)), fun _ => ⟨?_, _, _, ([] ++ before) ++ [], ⟨[] ++ before, [], trodAll_append (hargs _ (fun _ _ => rfl)) (hres _ _ _), hvars _, rfl, ?_, ?_⟩, ?_⟩⟩
  · exact ok_one hft rfl (okWide_bool_mk htb _)
  · intro b off hm
    have hin : MemPlace.cell b off ∈ before := by simpa using hm
    rw [hb.frozen (hlt _ hin)]
    exact hz b off hin
  · intro ha
    simpa using hn ha
  · intro x hx _
    simpa using hx

/-! ### One argument -/
def GT.V (w : World) (g : GT) (x : g.T) (v : Value) : Prop :=
  match g, x with
  | .st s, x => ∃ cs : List Value, v = .agg cs.toArray ∧ s.R w x cs
  | g, x => g.R w x [v]

theorem okWide_agg {P : Program} {W : World} {base : Nat} {t : TypeId} {v : Value} {l : List (TypeId × Nat)} (hc : comps P t = some l) (h : Value.okWide P W .any base t v) : ∃ cs : Array Value, v = .agg cs := by
  unfold comps at hc
  split at hc
  · rename_i fs hu
    unfold Value.okWide at h
    rw [hu] at h
    obtain ⟨cs, rfl, _⟩ := h
    exact ⟨cs, rfl⟩
  · rename_i m e hu
    unfold Value.okWide at h
    rw [hu] at h
    obtain ⟨cs, rfl, _⟩ := h
    exact ⟨cs, rfl⟩
  · cases hc

theorem cells_one {v : Value} {u : Value} (h : v.cells.toList = [u]) (_hu : oneCell u = true) (hv : ∀ cs, v ≠ .agg cs) : v = u := by
  cases v <;> first | (simp [Value.cells] at h; exact h) | exact absurd rfl (hv _)

theorem okWide_notAgg {P : Program} {W : World} {base : Nat} {t : TypeId} {v : Value} {d : TypeDesc} (hu : P.underlying t = some d) (hd : (∀ fs, d ≠ .struct fs) ∧ (∀ m e, d ≠ .array m e)) (h : Value.okWide P W .any base t v) : ∀ cs, v ≠ .agg cs := by
  intro cs hv
  subst hv
  unfold Value.okWide at h
  rw [hu] at h
  cases d <;> first
    | exact absurd rfl (hd.1 _)
    | exact absurd rfl (hd.2 _ _)
    | (simp [Cell.okWide, Cell.ok, hu] at h)

theorem read_arg {w : World} {base : Nat} {spare : Nat → Bool} {held : Bool} (g : GT) {t : TypeId} {v : Value} {d : DataW H} {p : List MemPlace} (hf : g.fits P t = true) (hv : Value.okWide P w .any base t v) (h : DataW.Trod enc P w 0 spare held t v d p) : ∃ x, g.V w x v := by
  obtain ⟨fuel, hz⟩ := h
  obtain ⟨x, hx⟩ := read_fits g t fuel _ _ hf hz
  refine ⟨x, ?_⟩
  cases g with
  | st s =>
    have hf' := hf
    unfold GT.fits at hf'
    split at hf'
    · rename_i l hc
      obtain ⟨cs, rfl⟩ := okWide_agg hc hv
      exact ⟨cs.toList, rfl, hx⟩
    · cases hf'
  | int k =>
    unfold GT.fits at hf
    split at hf
    · rename_i k' hu
      have := cells_one hx.1 rfl (okWide_notAgg hu ⟨fun _ h => (by cases h), fun _ _ h => (by cases h)⟩ hv)
      subst this
      exact hx
    · cases hf
  | bool =>
    unfold GT.fits at hf
    split at hf
    · rename_i hu
      have := cells_one hx rfl (okWide_notAgg hu ⟨fun _ h => (by cases h), fun _ _ h => (by cases h)⟩ hv)
      subst this
      exact hx
    · cases hf
  | str =>
    unfold GT.fits at hf
    split at hf
    · rename_i hu
      have := cells_one hx.1 rfl (okWide_notAgg hu ⟨fun _ h => (by cases h), fun _ _ h => (by cases h)⟩ hv)
      subst this
      exact hx
    · cases hf
  | sl e =>
    unfold GT.fits at hf
    split at hf
    · rename_i te hu
      have hx' := hx
      obtain ⟨a, len, cap, he, _⟩ := hx'
      have := cells_one he rfl (okWide_notAgg hu ⟨fun _ h => (by cases h), fun _ _ h => (by cases h)⟩ hv)
      subst this
      exact hx
    · cases hf
  | unit => cases hf
  | pair a b => cases hf
end
end Go.Vc

/- Plain arithmetic: wrapping, masks, the product by quarters. -/
namespace Go.Vc
open Go

theorem wrap_i64 {x : Int} (h1 : -9223372036854775808 ≤ x) (h2 : x ≤ 9223372036854775807) : IntKind.i64.wrap x = x := by
  have e : IntKind.i64.wrap x = if x % 18446744073709551616 ≥ 9223372036854775808 then x % 18446744073709551616 - 18446744073709551616 else x % 18446744073709551616 := by
    simp [IntKind.wrap, IntKind.bits, IntKind.signed]
  rw [e]
  split <;> omega
theorem wrap_u64 (x : Int) : IntKind.u64.wrap x = x % 18446744073709551616 := by
  simp [IntKind.wrap, IntKind.bits, IntKind.signed]
theorem wrap_u64_id {x : Int} (h1 : 0 ≤ x) (h2 : x < 18446744073709551616) : IntKind.u64.wrap x = x := by
  rw [wrap_u64]; omega
theorem wrap_u8 (x : Int) : IntKind.u8.wrap x = x % 256 := by
  simp [IntKind.wrap, IntKind.bits, IntKind.signed]
theorem wrap_u16 (x : Int) : IntKind.u16.wrap x = x % 65536 := by
  simp [IntKind.wrap, IntKind.bits, IntKind.signed]
theorem wrap_u32 (x : Int) : IntKind.u32.wrap x = x % 4294967296 := by
  simp [IntKind.wrap, IntKind.bits, IntKind.signed]
theorem wrap_i32 {x : Int} (h1 : -2147483648 ≤ x) (h2 : x ≤ 2147483647) : IntKind.i32.wrap x = x := by
  have e : IntKind.i32.wrap x = if x % 4294967296 ≥ 2147483648 then x % 4294967296 - 4294967296 else x % 4294967296 := by
    simp [IntKind.wrap, IntKind.bits, IntKind.signed]
  rw [e]
  split <;> omega

theorem and_low32 {x : Int} (h1 : 0 ≤ x) (h2 : x < 18446744073709551616) : ((BitVec.ofInt 64 x &&& BitVec.ofInt 64 4294967295).toNat : Int) = x % 4294967296 := by
  obtain ⟨n, rfl⟩ := Int.eq_ofNat_of_zero_le h1
  have hn : n < 18446744073709551616 := by omega
  have e1 : (BitVec.ofInt 64 (n : Int)).toNat = n := by
    simp
    omega
  have e2 : (BitVec.ofInt 64 4294967295).toNat = 2 ^ 32 - 1 := by decide
  rw [BitVec.toNat_and, e1, e2, Nat.and_two_pow_sub_one_eq_mod]
  omega

theorem mul_lt32 {a b : Int} (ha : 0 ≤ a) (ha' : a < 4294967296) (hb : 0 ≤ b) (hb' : b < 4294967296) : 0 ≤ a * b ∧ a * b ≤ 18446744065119617025 := by
  refine ⟨Int.mul_nonneg ha hb, ?_⟩
  have h1 : a * b ≤ 4294967295 * b := Int.mul_le_mul_of_nonneg_right (by omega) hb
  have h2 : (4294967295 : Int) * b ≤ 4294967295 * 4294967295 := Int.mul_le_mul_of_nonneg_left (by omega) (by omega)
  omega

/-- A product by quarters: with high and low halves. -/
theorem quarters {a b : Int} (ha : 0 ≤ a) (ha' : a < 18446744073709551616) (hb : 0 ≤ b) (hb' : b < 18446744073709551616) :
    ∃ ah al bh bl p q r t : Int, a / 4294967296 = ah ∧ a % 4294967296 = al ∧ b / 4294967296 = bh ∧ b % 4294967296 = bl ∧ ah * bh = p ∧ ah * bl = q ∧ al * bh = r ∧ al * bl = t ∧
      (0 ≤ p ∧ p ≤ 18446744065119617025) ∧ (0 ≤ q ∧ q ≤ 18446744065119617025) ∧ (0 ≤ r ∧ r ≤ 18446744065119617025) ∧ (0 ≤ t ∧ t ≤ 18446744065119617025) ∧ a * b = p * 18446744073709551616 + (q + r) * 4294967296 + t := by
  refine ⟨_, _, _, _, _, _, _, _, rfl, rfl, rfl, rfl, rfl, rfl, rfl, rfl, mul_lt32 ?_ ?_ ?_ ?_, mul_lt32 ?_ ?_ ?_ ?_, mul_lt32 ?_ ?_ ?_ ?_, mul_lt32 ?_ ?_ ?_ ?_, ?_⟩
  all_goals first | omega | skip
  have e1 : a = a / 4294967296 * 4294967296 + a % 4294967296 := by omega
  have e2 : b = b / 4294967296 * 4294967296 + b % 4294967296 := by omega
  generalize a / 4294967296 = x at *
  generalize a % 4294967296 = y at *
  generalize b / 4294967296 = u at *
  generalize b % 4294967296 = v at *
  subst e1
  subst e2
  simp only [Int.add_mul, Int.mul_add]
  have h1 : x * 4294967296 * (u * 4294967296) = x * u * 18446744073709551616 := by
    rw [Int.mul_assoc, Int.mul_left_comm 4294967296 u, ← Int.mul_assoc, show (4294967296 : Int) * 4294967296 = 18446744073709551616 from rfl]
  have h2 : x * 4294967296 * v = x * v * 4294967296 := by rw [Int.mul_right_comm]
  have h3 : y * (u * 4294967296) = y * u * 4294967296 := by rw [Int.mul_assoc]
  rw [h1, h2, h3]
  omega

theorem fdiv_pos (x : Int) {m : Int} (h : 0 ≤ m) : x.fdiv m = x / m := Int.fdiv_eq_ediv_of_nonneg x h

theorem drop_cons {α : Type} {l : List α} {k : Nat} {x : α} (h : l[k]? = some x) : l.drop k = x :: l.drop (k + 1) := by
  obtain ⟨hk, rfl⟩ := List.getElem?_eq_some_iff.1 h
  exact List.drop_eq_getElem_cons hk
end Go.Vc

/- Steps of a walk through a formula: the world at hand differs from the first one in own blocks alone; branches become propositions; a call is taken by its contract. -/
namespace Go.Vc
open Go Go.RowKit

/-- From one world to a later one: but for the blocks of N, what was there is as it was. -/
structure Chg (N : Nat → Prop) (w W : World) : Prop where
  os : W.os = w.os
  tape : W.tape = w.tape
  output : W.output = w.output
  size : w.heap.size ≤ W.heap.size
  block : ∀ b, b < w.heap.size → ¬ N b → W.heap[b]? = w.heap[b]?
  drawn : w.drawn ≤ W.drawn
/-- No block. -/
@[reducible] def noB : Nat → Prop := fun _ => False

theorem Chg.refl (N : Nat → Prop) (w : World) : Chg N w w := ⟨rfl, rfl, rfl, Nat.le_refl _, fun _ _ _ => rfl, Nat.le_refl _⟩
theorem Bel.trans {w W W' : World} (h : Bel w W) (k : Bel W W') : Bel w W' := ⟨h.below.trans (k.below.mono h.below.size), Nat.le_trans h.drawn k.drawn⟩
theorem Bel.size {w W : World} (h : Bel w W) : w.heap.size ≤ W.heap.size := h.below.size
theorem Bel.block {w W : World} (h : Bel w W) {b : Nat} (hb : b < w.heap.size) : W.heap[b]? = w.heap[b]? := h.below.block b hb
theorem Chg.of_below {N : Nat → Prop} {w W : World} (h : Bel w W) : Chg N w W := ⟨h.below.os, h.below.tape, h.below.output, h.below.size, fun b hb _ => h.below.block b hb, h.drawn⟩
theorem Chg.below {w W : World} (h : Chg noB w W) : Bel w W := ⟨⟨h.os, h.tape, h.output, h.size, fun b hb => h.block b hb id⟩, h.drawn⟩
theorem Chg.of_grown {w W : World} {row : Option Nat} (h : w.grownBy W row) (hd : w.drawn ≤ W.drawn) : Chg (fun b => row = some b) w W := ⟨h.os, h.tape, h.output, h.size, fun b hb hn => h.block b hb fun e => hn e.symm, hd⟩
theorem Chg.of_evo {w W : World} {ds : List Nat} (h : Evo ds w W) : Chg (fun b => b ∈ ds) w W := ⟨h.os, h.tape, h.output, h.size, h.block, h.drawn⟩
theorem Chg.mono {N N' : Nat → Prop} {w W : World} (h : Chg N w W) (hn : ∀ b, b < w.heap.size → N b → N' b) : Chg N' w W := ⟨h.os, h.tape, h.output, h.size, fun b hb hx => h.block b hb fun hy => hx (hn b hb hy), h.drawn⟩
theorem Chg.trans {N N' : Nat → Prop} {w W W' : World} (h : Chg N w W) (k : Chg N' W W') (hn : ∀ b, b < w.heap.size → N' b → N b) : Chg N w W' :=
  ⟨k.os.trans h.os, k.tape.trans h.tape, k.output.trans h.output, Nat.le_trans h.size k.size, fun b hb hx => (k.block b (Nat.lt_of_lt_of_le hb h.size) fun hy => hx (hn b hb hy)).trans (h.block b hb hx), Nat.le_trans h.drawn k.drawn⟩

/-- The world at hand: what was there at the start, but for the blocks of M, is as it was; the own boxes are there. -/
structure AtF (w : World) (M : Nat → Prop) (gs : List Nat) (W : World) : Prop where
  chg : Chg M w W
  under : Under gs W
abbrev At (w : World) (gs : List Nat) (W : World) : Prop := AtF w noB gs W

theorem AtF.refl (w : World) (M : Nat → Prop) : AtF w M [] w := ⟨Chg.refl _ _, fun _ h => (by cases h)⟩
theorem At.refl (w : World) : At w [] w := AtF.refl w noB
theorem AtF.size {w W : World} {M : Nat → Prop} {gs : List Nat} (h : AtF w M gs W) : w.heap.size ≤ W.heap.size := h.chg.size
theorem AtF.below {w W : World} {gs : List Nat} (h : AtF w noB gs W) : Bel w W := h.chg.below
theorem Below_tr {w W W' : World} (h : Bel w W) (k : Bel W W') : Bel w W' := h.trans k
theorem AtF.step {w W W' : World} {M N : Nat → Prop} {gs : List Nat} (h : AtF w M gs W) (k : Chg N W W') (hN : ∀ b, b < W.heap.size → N b → w.heap.size ≤ b ∨ M b) : AtF w M gs W' :=
  ⟨h.chg.trans k fun b hb hx => (hN b (Nat.lt_of_lt_of_le hb h.size) hx).resolve_left (by omega), fun g hg => Nat.lt_of_lt_of_le (h.under g hg) k.size⟩
theorem AtF.call {w W W' : World} {M : Nat → Prop} {gs : List Nat} (h : AtF w M gs W) (k : Bel W W') : AtF w M gs W' :=
  h.step (N := noB) (Chg.of_below k) fun _ _ hx => hx.elim
theorem AtF.keeps {w W W' : World} {M : Nat → Prop} {gs : List Nat} (h : AtF w M gs W) (k : Bel W W') : Keeps gs W W' := fun g hg => k.block (h.under g hg)
theorem AtF.keepsC {w W W' : World} {M N : Nat → Prop} {gs : List Nat} (h : AtF w M gs W) (k : Chg N W W') (hN : ∀ g ∈ gs, ¬ N g) : Keeps gs W W' := fun g hg => k.block g (h.under g hg) (hN g hg)
theorem AtF.evo {w W W' : World} {M : Nat → Prop} {gs gs' ds : List Nat} (h : AtF w M gs W) (hd : ∀ d ∈ ds, w.heap.size ≤ d) (k : Evo ds W W') (hu : Under gs' W') : AtF w M gs' W' :=
  ⟨(h.step (Chg.of_evo k) fun b _ hx => .inl (hd b hx)).chg, hu⟩
/-- Other own boxes are looked at. -/
theorem AtF.gs {w W : World} {M : Nat → Prop} {gs gs' : List Nat} (h : AtF w M gs W) (hu : Under gs' W) : AtF w M gs' W := ⟨h.chg, hu⟩

/-- A contract: what a call returns, where it leaves every old block as it was. -/
def RetQ (P : Program) (f : FuncId) (args : Array Value) (W : World) (Q : Value → World → Prop) : Prop :=
  ∀ R : Ending → World → Prop, (∀ v w', Bel W w' → Q v w' → R (.returned v) w') → Calls P f args W R
/-- The same, where the value hangs on the arguments alone. -/
def Ret (P : Program) (f : FuncId) (args : Array Value) (W : World) (v : Value) : Prop :=
  ∀ R : Ending → World → Prop, (∀ w', Bel W w' → R (.returned v) w') → Calls P f args W R

section
variable {P : Program} {w W : World} {gs : List Nat} {M : Nat → Prop}

theorem at_call {f : FuncId} {args : Array Value} {v : Value} {K : Ending → World → Prop} (hA : AtF w M gs W) (hc : Ret P f args W v) (hK : ∀ w', AtF w M gs w' → Keeps gs W w' → K (.returned v) w') : Calls P f args W K :=
  hc K fun w' hb => hK w' (hA.call hb) (hA.keeps hb)
theorem at_callq {f : FuncId} {args : Array Value} {Q : Value → World → Prop} {K : Ending → World → Prop} (hA : AtF w M gs W) (hc : RetQ P f args W Q) (hK : ∀ v w', AtF w M gs w' → Keeps gs W w' → Bel W w' → Q v w' → K (.returned v) w') : Calls P f args W K :=
  hc K fun v w' hb hq => hK v w' (hA.call hb) (hA.keeps hb) hb hq

theorem go_n {F : Nat → Prop} (hA : AtF w M gs W) (h : ∀ n, w.heap.size ≤ n → F n) : ∀ n, W.heap.size ≤ n → F n := fun n hn => h n (Nat.le_trans hA.size hn)
theorem go_below {F : World → Prop} {gs' : List Nat} (hA : AtF w M gs W) (h : ∀ W', AtF w M gs' W' → F W') : ∀ W', Bel W W' → Under gs' W' → F W' :=
  fun W' hb hu => h W' ⟨(hA.call hb).chg, hu⟩
theorem go_below0 {F : World → Prop} (hA : AtF w M gs W) (h : ∀ W', AtF w M gs W' → F W') : ∀ W', Bel W W' → F W' := fun W' hb => h W' (hA.call hb)
theorem go_evo {F : World → Prop} {gs' ds : List Nat} (hA : AtF w M gs W) (hd : ∀ d ∈ ds, w.heap.size ≤ d) (h : ∀ W', AtF w M gs' W' → F W') : ∀ W', Evo ds W W' → Under gs' W' → F W' :=
  fun W' hb hu => h W' (hA.evo hd hb hu)
/-- The same, with what turned told besides. -/
theorem go_evo_too {F : World → Prop} {gs' ds : List Nat} (hA : AtF w M gs W) (hd : ∀ d ∈ ds, w.heap.size ≤ d) (h : ∀ W', AtF w M gs' W' → Evo ds W W' → F W') : ∀ W', Evo ds W W' → Under gs' W' → F W' :=
  fun W' hb hu => h W' (hA.evo hd hb hu) hb
theorem go_below_too {F : World → Prop} {gs' : List Nat} (hA : AtF w M gs W) (h : ∀ W', AtF w M gs' W' → Bel W W' → F W') : ∀ W', Bel W W' → Under gs' W' → F W' :=
  fun W' hb hu => h W' ⟨(hA.call hb).chg, hu⟩ hb

theorem leaf {R : Ending → World → Prop} {e e' : Ending} (h : ∀ w', Bel w w' → R e w') (hA : At w gs W) (he : e' = e) : R e' W := he ▸ h W hA.below
/-- A contract of what writes: what it returns, where it leaves old blocks as they were but for those of N. -/
def RetF (P : Program) (f : FuncId) (args : Array Value) (W : World) (N : Nat → Prop) (Q : Value → World → Prop) : Prop :=
  ∀ R : Ending → World → Prop, (∀ v w', Chg N W w' → Q v w' → R (.returned v) w') → Calls P f args W R
theorem at_callF {f : FuncId} {args : Array Value} {N : Nat → Prop} {Q : Value → World → Prop} {K : Ending → World → Prop} (hA : AtF w M gs W) (hc : RetF P f args W N Q) (hN : ∀ b, b < W.heap.size → N b → w.heap.size ≤ b ∨ M b) (hg : ∀ g ∈ gs, ¬ N g)
    (hK : ∀ v w', AtF w M gs w' → Keeps gs W w' → Chg N W w' → Q v w' → K (.returned v) w') : Calls P f args W K :=
  hc K fun v w' hb hq => hK v w' (hA.step hb hN) (hA.keepsC hb hg) hb hq
theorem RetQ.retF {f : FuncId} {args : Array Value} {N : Nat → Prop} {Q : Value → World → Prop} (h : RetQ P f args W Q) : RetF P f args W N Q := fun R k => h R fun v w' hb hq => k v w' (Chg.of_below hb) hq
theorem RetF.retQ {f : FuncId} {args : Array Value} {Q : Value → World → Prop} (h : RetF P f args W noB Q) : RetQ P f args W Q := fun R k => h R fun v w' hb hq => k v w' hb.below hq
theorem leafF {R : Ending → World → Prop} {Q : Value → World → Prop} {v : Value} (h : ∀ v w', Chg M w w' → Q v w' → R (.returned v) w') (hA : AtF w M gs W) (hq : Q v W) : R (.returned v) W := h v W hA.chg hq
theorem leafq {R : Ending → World → Prop} {Q : Value → World → Prop} {v : Value} (h : ∀ v w', Bel w w' → Q v w' → R (.returned v) w') (hA : At w gs W) (hq : Q v W) : R (.returned v) W := h v W hA.below hq
end

/-! ### Branches -/
theorem brD {p A B : Prop} [Decidable p] (h : p → A) (k : ¬p → B) : (decide p = true → A) ∧ (decide p = false → B) := ⟨fun e => h (of_decide_eq_true e), fun e => k (of_decide_eq_false e)⟩
theorem brND {p A B : Prop} [Decidable p] (h : ¬p → A) (k : p → B) : ((!decide p) = true → A) ∧ ((!decide p) = false → B) := ⟨fun e => h (by simpa using e), fun e => k (by simpa using e)⟩
theorem brE {α : Type} [DecidableEq α] {x y : α} {A B : Prop} (h : x = y → A) (k : x ≠ y → B) : ((x == y) = true → A) ∧ ((x == y) = false → B) := ⟨fun e => h (by simpa using e), fun e => k (by simpa using e)⟩
theorem brN {α : Type} [DecidableEq α] {x y : α} {A B : Prop} (h : x ≠ y → A) (k : x = y → B) : ((x != y) = true → A) ∧ ((x != y) = false → B) := ⟨fun e => h (by simpa using e), fun e => k (by simpa using e)⟩
theorem brB {b : Bool} {A B : Prop} (h : b = true → A) (k : b = false → B) : (b = true → A) ∧ (b = false → B) := ⟨h, k⟩

/-! ### Rules -/
section
variable {P : Program}

theorem eqlR_beq {op : BinOp} {t : TypeId} {x y : Operand} {a b v : Value} (h : ∀ W, (binOpS op t x y a b).run P W = .ok v W) : Gives P (binOpS op t x y a b) v := h

theorem gives_of_pure {s : Sem Value} {v : Value} (h : pureRun P s = some v) : Gives P s v := fun W => pureRun_run h W

end
end Go.Vc

/- Comparing two values, and dividing: what a formula asks of them. -/
namespace Go.Vc
open Go Go.RowKit

section
variable {P : Program}

theorem gives_eql {t : TypeId} {x y : Operand} {a b : Array Value} {r : Bool} (hg : P.eqGuardType P.depth t = false) (h : eqB P 30 t (.agg a) (.agg b) = some r) : Gives P (binOpS .eql t x y (.agg a) (.agg b)) (.bool r) := run_eqlS hg h
theorem gives_neq {t : TypeId} {x y : Operand} {a b : Array Value} {r : Bool} (hg : P.eqGuardType P.depth t = false) (h : eqB P 30 t (.agg a) (.agg b) = some r) : Gives P (binOpS .neq t x y (.agg a) (.agg b)) (.bool (!r)) := run_neqS hg h

/-! ### Division -/
theorem gives_quo {t : TypeId} {x y : Operand} {k : IntKind} {a b : Int} (hb : b ≠ 0) : Gives P (binOpS .quo t x y (.int k a) (.int k b)) (.int k (k.wrap (a.tdiv b))) := by
  intro W
  unfold binOpS
  rw [run_bind_ok (show (eqGuard .quo t x y (.int k a) (.int k b)).run P W = .ok () W from rfl)]
  simp [binOp, Op.intDiv, hb]
theorem gives_rem {t : TypeId} {x y : Operand} {k : IntKind} {a b : Int} (hb : b ≠ 0) : Gives P (binOpS .rem t x y (.int k a) (.int k b)) (.int k (a.tmod b)) := by
  intro W
  unfold binOpS
  rw [run_bind_ok (show (eqGuard .rem t x y (.int k a) (.int k b)).run P W = .ok () W from rfl)]
  simp [binOp, Op.intDiv, hb]
end
end Go.Vc

