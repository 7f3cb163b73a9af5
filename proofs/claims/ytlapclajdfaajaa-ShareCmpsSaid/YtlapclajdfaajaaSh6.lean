/- Own text of this claim: Sh6. -/
import Derived.Test.YtlapclajdfaajaaSh5
set_option maxRecDepth 20000
namespace Go.Vc.B
open Go Go.Vc

abbrev S (x : ShT) : Prop := sRight x.1 x.2.1 x.2.2
noncomputable abbrev cm (x y : ShT) : Int := sCmp x.1 x.2.1 x.2.2 y.1 y.2.1 y.2.2
theorem cm_not {x y : ShT} (h : ¬ (S x ∧ S y)) : cm x y = 0 := by rw [cm, sCmp, if_neg h]
theorem cm_anti (x y : ShT) : cm y x = - cm x y := sCmp_anti ..
theorem cm_range (x y : ShT) : cm x y = -1 ∨ cm x y = 0 ∨ cm x y = 1 := sCmp_range ..
theorem cm_self (x : ShT) : cm x x = 0 := sCmp_self ..
theorem cm_trans {x y z : ShT} (hx : S x) (hy : S y) (hz : S z) (h1 : cm x y ≤ 0) (h2 : cm y z ≤ 0) : cm x z ≤ 0 ∧ (cm x z = 0 → cm x y = 0 ∧ cm y z = 0) := by
  obtain ⟨e1, r1, r2⟩ := sCmp_fr hx hy
  obtain ⟨e2, _, r3⟩ := sCmp_fr hy hz
  obtain ⟨e3, _, _⟩ := sCmp_fr hx hz
  have t := @cmp_trans _ _ _ _ _ _ r1 r2 r3
  rw [← e1, ← e2, ← e3] at t
  exact t h1 h2

/-- The least ones of the first k. -/
noncomputable def isL (l : List ShT) (k i : Nat) : Bool := match l[i]? with
  | none => false
  | some x => decide (S x) && (l.take k).all fun y => decide (0 ≤ cm y x)
noncomputable def lst (l : List ShT) (k : Nat) : List Nat := (List.range k).filter (isL l k)

theorem isL_iff {l : List ShT} {k i : Nat} {x : ShT} (hx : l[i]? = some x) : isL l k i = true ↔ S x ∧ ∀ y ∈ l.take k, 0 ≤ cm y x := by
  simp only [isL, hx, Bool.and_eq_true, decide_eq_true_eq, List.all_eq_true]

theorem lst_step {l : List ShT} {k : Nat} {s : ShT} (hs : l[k]? = some s) {out : List Int} (ho : out = (lst l k).map fun i : Nat => (i : Int)) (hn : out = [] → ∀ y ∈ l.take k, ¬ S y) :
    lstep l s k out = (lst l (k + 1)).map (fun i : Nat => (i : Int)) ∧ (lstep l s k out = [] → ∀ y ∈ l.take (k + 1), ¬ S y) := by
  have hk := (List.getElem?_eq_some_iff.1 hs).1
  have ht : l.take (k + 1) = l.take k ++ [s] := by rw [List.take_add_one, hs]; rfl
  have hmem : ∀ i, i < k → ∃ x, l[i]? = some x ∧ x ∈ l.take k := fun i hi => by
    have hl : l[i]? = some l[i] := List.getElem?_eq_getElem (by omega)
    refine ⟨_, hl, List.mem_of_getElem? (i := i) ?_⟩
    rw [List.getElem?_take, if_pos hi, hl]
  -- what of the earlier ones stays
  have hstay : ∀ i, i < k → ∀ x, l[i]? = some x → (isL l (k + 1) i = true ↔ isL l k i = true ∧ 0 ≤ cm s x) := by
    intro i hi x hx
    rw [isL_iff hx, isL_iff hx, ht]
    constructor
    · rintro ⟨h1, h2⟩
      exact ⟨⟨h1, fun y hy => h2 y (List.mem_append_left _ hy)⟩, h2 s (by simp)⟩
    · rintro ⟨⟨h1, h2⟩, h3⟩
      refine ⟨h1, fun y hy => ?_⟩
      rcases List.mem_append.1 hy with hy | hy
      · exact h2 y hy
      · simp at hy
        subst hy
        exact h3
  have hlast : isL l (k + 1) k = true ↔ S s ∧ ∀ y ∈ l.take k, 0 ≤ cm y s := by
    rw [isL_iff hs, ht]
    constructor
    · rintro ⟨h1, h2⟩
      exact ⟨h1, fun y hy => h2 y (List.mem_append_left _ hy)⟩
    · rintro ⟨h1, h2⟩
      refine ⟨h1, fun y hy => ?_⟩
      rcases List.mem_append.1 hy with hy | hy
      · exact h2 y hy
      · simp at hy
        subst hy
        rw [cm_self]
        omega
  have hsplit : lst l (k + 1) = (List.range k).filter (isL l (k + 1)) ++ (if isL l (k + 1) k = true then [k] else []) := by
    rw [lst, List.range_succ, List.filter_append]
    congr 1
    by_cases h : isL l (k + 1) k = true <;> simp [h]
  have hkeep : (∀ i x, i < k → l[i]? = some x → isL l k i = true → 0 ≤ cm s x) → (List.range k).filter (isL l (k + 1)) = lst l k := by
    intro h
    apply List.filter_congr
    intro i hi
    have hi : i < k := List.mem_range.1 hi
    obtain ⟨x, hx, _⟩ := hmem i hi
    have := hstay i hi x hx
    by_cases hb : isL l k i = true
    · rw [hb, this.2 ⟨hb, h i x hi hx hb⟩]
    · have hb' : isL l k i = false := by simpa using hb
      rw [hb']
      cases hc : isL l (k + 1) i
      · rfl
      · exact absurd (this.1 hc).1 hb
  have hdrop : (∀ i x, i < k → l[i]? = some x → isL l k i = true → ¬ 0 ≤ cm s x) → (List.range k).filter (isL l (k + 1)) = [] := by
    intro h
    apply List.filter_eq_nil_iff.2
    intro i hi hc
    have hi : i < k := List.mem_range.1 hi
    obtain ⟨x, hx, _⟩ := hmem i hi
    have := (hstay i hi x hx).1 hc
    exact h i x hi hx this.1 this.2
  unfold lstep
  by_cases hS : S s
  · rw [if_pos hS]
    cases hout : out with
    | nil =>
      have hno := hn hout
      rw [hout] at ho
      have hl0 : lst l k = [] := by
        have := ho.symm
        simpa using this
      simp only
      refine ⟨?_, fun h => by cases h⟩
      rw [hsplit, hkeep (fun i x hi hx hb => by
        have : i ∈ lst l k := List.mem_filter.2 ⟨List.mem_range.2 hi, hb⟩
        rw [hl0] at this
        cases this), hl0, if_pos (hlast.2 ⟨hS, fun y hy => by rw [cm_not (fun hh => hno y hy hh.1)]; omega⟩)]
      rfl
    | cons j o =>
      rw [hout] at ho
      have hjm : ∃ q : Nat, j = q ∧ q ∈ lst l k := by
        have : j ∈ (lst l k).map fun i : Nat => (i : Int) := by rw [← ho]; exact List.mem_cons_self ..
        obtain ⟨q, hq, rfl⟩ := List.mem_map.1 this
        exact ⟨q, rfl, hq⟩
      obtain ⟨q, rfl, hq⟩ := hjm
      obtain ⟨hqk, hqb⟩ := List.mem_filter.1 hq
      have hqk := List.mem_range.1 hqk
      obtain ⟨t, htq, htm⟩ := hmem q hqk
      obtain ⟨hSt, hmin⟩ := (isL_iff htq).1 hqb
      have htq' : l[(q : Int).toNat]? = some t := by simpa using htq
      simp only [htq']
      -- an earlier least one is as great as t
      have heq : ∀ i x, i < k → l[i]? = some x → isL l k i = true → S x ∧ cm x t = 0 := by
        intro i x hi hx hb
        obtain ⟨hSx, hm⟩ := (isL_iff hx).1 hb
        obtain ⟨x', hx', hxm⟩ := hmem i hi
        rw [hx] at hx'
        cases hx'
        have h1 := hmin x hxm
        have h2 := hm t htm
        rw [cm_anti x t] at h2
        exact ⟨hSx, by omega⟩
      have hbelow : cm s t ≤ 0 → ∀ y ∈ l.take k, 0 ≤ cm y s := by
        intro hst y hy
        by_cases hSy : S y
        · have h1 := hmin y hy
          have h2 : cm t y ≤ 0 := by rw [cm_anti y t]; omega
          have := (cm_trans hS hSt hSy hst h2).1
          rw [cm_anti s y]
          omega
        · rw [cm_not (fun hh => hSy hh.1)]
          omega
      by_cases c1 : cm s t = -1
      · rw [if_pos c1]
        refine ⟨?_, fun h => by cases h⟩
        rw [hsplit, hdrop (fun i x hi hx hb hge => by
          obtain ⟨hSx, hxt⟩ := heq i x hi hx hb
          have h2 : cm t x ≤ 0 := by rw [cm_anti x t]; omega
          have := cm_trans hS hSt hSx (by omega) h2
          have h0 : cm s x = 0 := by omega
          have := (this.2 h0).1
          omega), if_pos (hlast.2 ⟨hS, hbelow (by omega)⟩)]
        rfl
      · rw [if_neg c1]
        have hkp := hkeep (fun i x hi hx hb => by
          obtain ⟨hSx, hxt⟩ := heq i x hi hx hb
          rcases Int.lt_or_le (cm s x) 0 with h | h
          · have := cm_trans hS hSx hSt (by omega) (by omega : cm x t ≤ 0)
            have hr := cm_range s t
            have h0 : cm s t = 0 := by omega
            have := (this.2 h0).1
            omega
          · exact h)
        by_cases c2 : cm s t = 1
        · rw [if_pos c2]
          refine ⟨?_, fun h => by cases h⟩
          rw [hsplit, hkp, if_neg (fun hh => by
            have := (hlast.1 hh).2 t htm
            rw [cm_anti s t] at this
            omega), List.append_nil]
          exact ho
        · rw [if_neg c2]
          have hr := cm_range s t
          refine ⟨?_, fun h => by simp at h⟩
          rw [hsplit, hkp, if_pos (hlast.2 ⟨hS, hbelow (by omega)⟩), List.map_append, ← ho]
          rfl
  · rw [if_neg hS]
    constructor
    · rw [hsplit, hkeep (fun i x _ _ _ => by rw [cm_not (fun hh => hS hh.1)]; omega), if_neg (fun hh => hS (hlast.1 hh).1), List.append_nil]
      exact ho
    · intro h y hy
      rw [ht] at hy
      rcases List.mem_append.1 hy with hy | hy
      · exact hn h y hy
      · simp at hy
        subst hy
        exact hS

theorem lgo_lst (l : List ShT) : ∀ (r : List ShT) (k : Nat) (out : List Int), l.drop k = r → out = (lst l k).map (fun i : Nat => (i : Int)) → (out = [] → ∀ y ∈ l.take k, ¬ S y) → k ≤ l.length → lgo l r k out = (lst l l.length).map fun i : Nat => (i : Int)
  | [], k, out, hd, ho, _, hk => by
    have : k = l.length := by
      have := congrArg List.length hd
      simp at this
      omega
    subst this
    exact ho
  | s :: r, k, out, hd, ho, hn, hk => by
    have hs : l[k]? = some s := by
      have := congrArg List.head? hd
      rw [List.head?_drop] at this
      simpa using this
    have hd' : l.drop (k + 1) = r := by
      have := drop_cons hs
      rw [hd] at this
      exact (List.cons.inj this).2.symm
    have hlt := (List.getElem?_eq_some_iff.1 hs).1
    obtain ⟨h1, h2⟩ := lst_step hs ho hn
    exact lgo_lst l r (k + 1) _ hd' h1 h2 hlt

theorem least_lst (l : List ShT) : least l = (lst l l.length).map fun i : Nat => (i : Int) :=
  lgo_lst l l 0 [] rfl rfl (fun _ y hy => by simp at hy) (Nat.zero_le _)
end Go.Vc.B
