/- Heaps as lists: order, a hole that moves up and down, where each key stands. No program in sight. -/
import Derived.Test.YtkbjdkkpjjlbeaaVcMap
namespace Go.Vc.H
open Go.Vc

abbrev It := Int × Int
/-- Ahead, in time, then by key. -/
def ahead (a b : It) : Prop := a.2 < b.2 ∨ (a.2 = b.2 ∧ a.1 < b.1)
instance (a b : It) : Decidable (ahead a b) := by unfold ahead; infer_instance
def le (x y : It) : Prop := ¬ ahead y x
theorem le_trans {x y z : It} (h : le x y) (k : le y z) : le x z := by unfold le ahead at *; omega
theorem le_of_ahead {x y : It} (h : ahead x y) : le x y := by unfold le ahead at *; omega
theorem le_refl (x : It) : le x x := by unfold le ahead; omega
theorem ahead_of_le {x y : It} (h : le x y) (hk : x.1 ≠ y.1) : ahead x y := by unfold le ahead at *; omega
theorem ahead_irrefl (x : It) : ¬ ahead x x := by unfold ahead; omega
theorem ahead_trans {x y z : It} (h : ahead x y) (k : ahead y z) : ahead x z := by unfold ahead at *; omega

def OkP (l : List It) (c : Nat) : Prop := ∀ x y, l[(c - 1) / 2]? = some x → l[c]? = some y → le x y
def Heap (l : List It) : Prop := ∀ c, 0 < c → OkP l c
def C2 (l : List It) (j : Nat) : Prop := ∀ c, 0 < c → (c - 1) / 2 = j → 0 < j → ∀ x y, l[(j - 1) / 2]? = some x → l[c]? = some y → le x y
def Up (l : List It) (j : Nat) : Prop := (∀ c, 0 < c → c ≠ j → (c - 1) / 2 ≠ j → OkP l c) ∧ C2 l j
def Dn (l : List It) (j : Nat) : Prop := (∀ c, 0 < c → (c - 1) / 2 ≠ j → OkP l c) ∧ C2 l j

def swapL (l : List It) (i k : Nat) (x y : It) : List It := (l.set i y).set k x
theorem swapL_len (l : List It) (i k : Nat) (x y : It) : (swapL l i k x y).length = l.length := by simp [swapL]
theorem swapL_at {l : List It} {i k : Nat} {x y : It} (hi : l[i]? = some x) (hk : l[k]? = some y) (q : Nat) : (swapL l i k x y)[q]? = if q = k then some x else if q = i then some y else l[q]? := by
  have h1 := (List.getElem?_eq_some_iff.1 hi).1
  have h2 := (List.getElem?_eq_some_iff.1 hk).1
  unfold swapL
  rw [List.getElem?_set]
  by_cases hq : q = k
  · subst hq
    simp [h2]
  · rw [if_neg (Ne.symm hq), if_neg hq, List.getElem?_set]
    by_cases hqi : q = i
    · subst hqi
      simp [h1]
    · rw [if_neg (Ne.symm hqi), if_neg hqi]

theorem up_step {l : List It} {j : Nat} {x y : It} (hj : 0 < j) (hx : l[j]? = some x) (hy : l[(j - 1) / 2]? = some y) (h : Up l j) : Up (swapL l j ((j - 1) / 2) x y) ((j - 1) / 2) := by
  obtain ⟨h1, h2⟩ := h
  have sw := swapL_at hx hy
  have hp : (j - 1) / 2 < j := by omega
  refine ⟨fun c hc hne hpar u v hu hv => ?_, fun c hc hpar hpos u v hu hv => ?_⟩
  · rw [sw] at hu hv
    have hcj : c ≠ j := fun e => hpar (by rw [e])
    rw [if_neg hne, if_neg hcj] at hv
    rw [if_neg hpar] at hu
    by_cases hcc : (c - 1) / 2 = j
    · rw [if_pos hcc] at hu
      cases hu
      exact h2 c hc hcc hj y v hy hv
    · rw [if_neg hcc] at hu
      exact h1 c hc hcj hcc u v hu hv
  · rw [sw] at hu hv
    have e1 : ¬ ((j - 1) / 2 - 1) / 2 = (j - 1) / 2 := by omega
    have e2 : ¬ ((j - 1) / 2 - 1) / 2 = j := by omega
    rw [if_neg e1, if_neg e2] at hu
    have hpp : le u y := h1 ((j - 1) / 2) hpos (by omega) (by omega) u y hu hy
    have hcp : ¬ c = (j - 1) / 2 := by omega
    rw [if_neg hcp] at hv
    by_cases hcj : c = j
    · rw [if_pos hcj] at hv
      cases hv
      exact hpp
    · rw [if_neg hcj] at hv
      exact le_trans hpp (h1 c hc hcj (by omega) y v (by rw [hpar]; exact hy) hv)

/-- The hole comes to rest on its way up. -/
theorem up_stop {l : List It} {j : Nat} (h : Up l j) (hs : 0 < j → OkP l j) : Dn l j :=
  ⟨fun c hc hp => by
    by_cases e : c = j
    · subst e; exact hs hc
    · exact h.1 c hc e hp, h.2⟩

theorem dn_step {l : List It} {j k : Nat} {x z : It} (hk : 0 < k) (hpk : (k - 1) / 2 = j) (hx : l[j]? = some x) (hz : l[k]? = some z) (ha : ahead z x) (hmin : ∀ c, 0 < c → (c - 1) / 2 = j → ∀ y, l[c]? = some y → le z y) (h : Dn l j) : Dn (swapL l j k x z) k := by
  obtain ⟨h1, h2⟩ := h
  have sw := swapL_at hx hz
  have hjk : j < k := by omega
  refine ⟨fun c hc hpar u v hu hv => ?_, fun c hc hpar hpos u v hu hv => ?_⟩
  · rw [sw] at hu hv
    rw [if_neg hpar] at hu
    by_cases hck : c = k
    · subst hck
      rw [if_pos rfl] at hv
      rw [if_pos hpk] at hu
      cases hu; cases hv
      exact le_of_ahead ha
    · rw [if_neg hck] at hv
      by_cases hcj : c = j
      · subst hcj
        rw [if_pos rfl] at hv
        cases hv
        have e1 : ¬ (c - 1) / 2 = c := by omega
        rw [if_neg e1] at hu
        exact h2 k hk hpk hc u z hu hz
      · rw [if_neg hcj] at hv
        by_cases hcc : (c - 1) / 2 = j
        · rw [if_pos hcc] at hu
          cases hu
          exact hmin c hc hcc v hv
        · rw [if_neg hcc] at hu
          exact h1 c hc hcc u v hu hv
  · rw [sw] at hu hv
    rw [hpk] at hu
    rw [if_neg (by omega), if_pos rfl] at hu
    cases hu
    rw [if_neg (by omega), if_neg (by omega)] at hv
    exact h1 c hc (by omega) z v (by rw [hpar]; exact hz) hv
theorem dn_stop {l : List It} {j : Nat} (h : Dn l j) (hs : ∀ c, 0 < c → (c - 1) / 2 = j → OkP l c) : Heap l := fun c hc => by
  by_cases e : (c - 1) / 2 = j
  · exact hs c hc e
  · exact h.1 c hc e

theorem heap_top {l : List It} (h : Heap l) {x : It} (hx : l[0]? = some x) : ∀ (j : Nat) (y : It), l[j]? = some y → le x y := by
  intro j
  induction j using Nat.strongRecOn with
  | _ j ih =>
    intro y hy
    rcases Nat.eq_zero_or_pos j with h0 | hpos
    · subst h0
      rw [hx] at hy
      cases hy
      exact le_refl x
    · have hl := (List.getElem?_eq_some_iff.1 hy).1
      obtain ⟨p, hp⟩ : ∃ p, l[(j - 1) / 2]? = some p := ⟨_, List.getElem?_eq_getElem (by omega)⟩
      exact le_trans (ih _ (by omega) p hp) (h j hpos p y hp hy)

/-- The item at a place replaced: a hole there. -/
theorem up_set {l : List It} {i : Nat} (x : It) (h : Heap l) : Up (l.set i x) i := by
  refine ⟨fun c hc hne hpar u v hu hv => ?_, fun c hc hpar hpos u v hu hv => ?_⟩
  · rw [List.getElem?_set_ne (Ne.symm hpar)] at hu
    rw [List.getElem?_set_ne (Ne.symm hne)] at hv
    exact h c hc u v hu hv
  · rw [List.getElem?_set_ne (by omega)] at hu
    rw [List.getElem?_set_ne (by omega)] at hv
    have hvl := (List.getElem?_eq_some_iff.1 hv).1
    obtain ⟨m, hm⟩ : ∃ m, l[i]? = some m := ⟨_, List.getElem?_eq_getElem (by omega)⟩
    exact le_trans (h i hpos u m hu hm) (h c hc m v (by rw [hpar]; exact hm) hv)
theorem heap_take {l : List It} (n : Nat) (h : Heap l) : Heap (l.take n) := fun c hc u v hu hv => by
  rw [List.getElem?_take] at hu hv
  split at hu
  · split at hv
    · exact h c hc u v hu hv
    · cases hv
  · cases hu
/-- An item added at the end: a hole there. -/
theorem up_push {l : List It} (x y : It) (h : Heap l) : Up ((l ++ [y]).set l.length x) l.length := by
  have e : (l ++ [y]).set l.length x = l ++ [x] := by simp
  rw [e]
  refine ⟨fun c hc hne hpar u v hu hv => ?_, fun c hc hpar hpos u v hu hv => ?_⟩
  · have hvl := (List.getElem?_eq_some_iff.1 hv).1
    simp at hvl
    rw [List.getElem?_append_left (by omega)] at hu hv
    exact h c hc u v hu hv
  · have hvl := (List.getElem?_eq_some_iff.1 hv).1
    simp at hvl
    omega

/-! ### Where each key stands -/
structure PlOk (l pl : List It) : Prop where
  fwd : ∀ (i : Nat) (x : It), l[i]? = some x → mget x.1 pl = some (i : Int)
  bwd : ∀ (k v : Int), mget k pl = some v → ∃ (i : Nat) (x : It), v = i ∧ l[i]? = some x ∧ x.1 = k
  nd : (pl.map (·.1)).Nodup
theorem PlOk.inj {l pl : List It} (h : PlOk l pl) {i j : Nat} {x y : It} (hx : l[i]? = some x) (hy : l[j]? = some y) (he : x.1 = y.1) : i = j := by
  have h1 := h.fwd i x hx
  have h2 := h.fwd j y hy
  rw [he, h2] at h1
  cases h1
  omega
theorem mget_mset {k j v : Int} (m : List It) : mget j (mset k v m) = if j = k then some v else mget j m := by
  by_cases h : j = k
  · subst h; rw [if_pos rfl]; exact mget_mset_self ..
  · rw [if_neg h]; exact mget_mset_ne v h m
theorem plok_swap {l pl : List It} {i k : Nat} {x y : It} (hi : l[i]? = some x) (hk : l[k]? = some y) (hne : i ≠ k) (h : PlOk l pl) : PlOk (swapL l i k x y) (mset x.1 (k : Int) (mset y.1 (i : Int) pl)) := by
  have sw := swapL_at hi hk
  have hxy : x.1 ≠ y.1 := fun e => hne (h.inj hi hk e)
  refine ⟨fun q z hz => ?_, fun q v hv => ?_, mset_nodup (mset_nodup h.nd)⟩
  · rw [sw] at hz
    rw [mget_mset, mget_mset]
    by_cases hqk : q = k
    · rw [if_pos hqk] at hz
      cases hz
      rw [if_pos rfl, hqk]
    · rw [if_neg hqk] at hz
      by_cases hqi : q = i
      · rw [if_pos hqi] at hz
        cases hz
        rw [if_neg hxy.symm, if_pos rfl, hqi]
      · rw [if_neg hqi] at hz
        rw [if_neg (fun e => hqi (h.inj hz hi e)), if_neg (fun e => hqk (h.inj hz hk e))]
        exact h.fwd q z hz
  · rw [mget_mset, mget_mset] at hv
    by_cases hq1 : q = x.1
    · rw [if_pos hq1] at hv
      cases hv
      exact ⟨k, x, rfl, by rw [sw, if_pos rfl], hq1.symm⟩
    · rw [if_neg hq1] at hv
      by_cases hq2 : q = y.1
      · rw [if_pos hq2] at hv
        cases hv
        exact ⟨i, y, rfl, by rw [sw, if_neg hne, if_pos rfl], hq2.symm⟩
      · rw [if_neg hq2] at hv
        obtain ⟨p, z, hpv, hz, hzk⟩ := h.bwd q v hv
        refine ⟨p, z, hpv, ?_, hzk⟩
        rw [sw, if_neg (fun e => ?_), if_neg (fun e => ?_)]
        · exact hz
        · subst e; rw [hi] at hz; cases hz; exact hq1 hzk.symm
        · subst e; rw [hk] at hz; cases hz; exact hq2 hzk.symm

/-- The same items. -/
def Same (l l' : List It) : Prop := l'.length = l.length ∧ ∀ x, x ∈ l' ↔ x ∈ l
theorem Same.refl (l : List It) : Same l l := ⟨rfl, fun _ => Iff.rfl⟩
theorem Same.trans {a b c : List It} (h : Same a b) (k : Same b c) : Same a c := ⟨k.1.trans h.1, fun x => (k.2 x).trans (h.2 x)⟩
theorem same_swap {l : List It} {i k : Nat} {x y : It} (hi : l[i]? = some x) (hk : l[k]? = some y) : Same l (swapL l i k x y) := by
  have sw := swapL_at hi hk
  refine ⟨swapL_len .., fun z => ⟨fun hz => ?_, fun hz => ?_⟩⟩
  · obtain ⟨q, hq⟩ := List.mem_iff_getElem?.1 hz
    rw [sw] at hq
    split at hq
    · cases hq; exact List.mem_of_getElem? hi
    · split at hq
      · cases hq; exact List.mem_of_getElem? hk
      · exact List.mem_of_getElem? hq
  · obtain ⟨q, hq⟩ := List.mem_iff_getElem?.1 hz
    by_cases hqi : q = i
    · subst hqi
      rw [hi] at hq
      cases hq
      exact List.mem_of_getElem? (i := k) (by rw [sw, if_pos rfl])
    · by_cases hqk : q = k
      · subst hqk
        rw [hk] at hq
        cases hq
        exact List.mem_of_getElem? (i := i) (by rw [sw, if_neg (Ne.symm hqi), if_pos rfl])
      · exact List.mem_of_getElem? (i := q) (by rw [sw, if_neg hqk, if_neg hqi]; exact hq)

/-! ### Levels -/
def lev (n : Nat) : Nat := if n = 0 then 0 else lev ((n - 1) / 2) + 1
termination_by n
theorem lev_zero : lev 0 = 0 := by unfold lev; rfl
theorem lev_pos {n : Nat} (h : 0 < n) : lev n = lev ((n - 1) / 2) + 1 := by rw [lev, if_neg (by omega)]
theorem lev_mono : ∀ (b a : Nat), a ≤ b → lev a ≤ lev b := by
  intro b
  induction b using Nat.strongRecOn with
  | _ b ih =>
    intro a h
    rcases Nat.eq_zero_or_pos a with h0 | hp
    · subst h0; rw [lev_zero]; exact Nat.zero_le _
    · rw [lev_pos hp, lev_pos (by omega : 0 < b)]
      exact Nat.succ_le_succ (ih _ (by omega) _ (by omega))
theorem lev_le (n : Nat) : lev n ≤ n := by
  induction n using Nat.strongRecOn with
  | _ n ih =>
    rcases Nat.eq_zero_or_pos n with h0 | hp
    · subst h0; rw [lev_zero]; exact Nat.le_refl _
    · rw [lev_pos hp]
      have := ih ((n - 1) / 2) (by omega)
      omega
end Go.Vc.H
