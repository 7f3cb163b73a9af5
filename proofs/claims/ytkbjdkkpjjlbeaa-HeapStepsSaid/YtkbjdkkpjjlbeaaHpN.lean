/- Heaps as lists: what putting and dropping leave. No program in sight. -/
import Derived.Test.YtkbjdkkpjjlbeaaHpM
namespace Go.Vc.H
open Go.Vc

theorem mget_mdel {k j : Int} {m : List It} (hn : (m.map (·.1)).Nodup) : mget j (mdel k m) = if j = k then none else mget j m := by
  by_cases h : j = k
  · subst h; rw [if_pos rfl]; exact mget_mdel_self hn
  · rw [if_neg h]; exact mget_mdel_ne h m

theorem PlOk.none_of {l pl : List It} (h : PlOk l pl) {k : Int} (hk : mget k pl = none) : ∀ x ∈ l, x.1 ≠ k := fun x hx e => by
  obtain ⟨i, hi⟩ := List.mem_iff_getElem?.1 hx
  have := h.fwd i x hi
  rw [e, hk] at this
  cases this
theorem PlOk.some_of {l pl : List It} (h : PlOk l pl) {k v : Int} (hk : mget k pl = some v) : ∃ (i : Nat) (t : Int), v = i ∧ l[i]? = some (k, t) := by
  obtain ⟨i, x, hv, hx, rfl⟩ := h.bwd k v hk
  exact ⟨i, x.2, hv, hx⟩
theorem PlOk.uniq {l pl : List It} (h : PlOk l pl) {x y : It} (hx : x ∈ l) (hy : y ∈ l) (he : x.1 = y.1) : x = y := by
  obtain ⟨i, hi⟩ := List.mem_iff_getElem?.1 hx
  obtain ⟨j, hj⟩ := List.mem_iff_getElem?.1 hy
  have := h.inj hi hj he
  subst this
  rw [hi] at hj
  cases hj
  rfl
theorem PlOk.nil : PlOk [] [] := ⟨fun i x h => by simp at h, fun k v h => by simp [mget] at h, by simp⟩

/-- One placed anew: the list has it at a place, all other places are as they were, and no other key is there. -/
theorem plok_at {l l' pl : List It} {i : Nat} {x : It} (hx : l'[i]? = some x) (hs : ∀ q, q ≠ i → l'[q]? = l[q]?) (hi : ∀ y, l[i]? = some y → y.1 = x.1 ) (hb : mget x.1 pl = some (i : Int) ∨ mget x.1 pl = none) (h : PlOk l pl) : PlOk l' (mset x.1 (i : Int) pl) := by
  refine ⟨fun q z hz => ?_, fun k v hv => ?_, mset_nodup h.nd⟩
  · by_cases hq : q = i
    · subst hq
      rw [hx] at hz
      cases hz
      exact mget_mset_self ..
    · rw [hs q hq] at hz
      have := h.fwd q z hz
      rw [mget_mset, if_neg]
      · exact this
      · intro e
        rw [e] at this
        rcases hb with hb | hb <;> rw [hb] at this
        · cases this; omega
        · cases this
  · rw [mget_mset] at hv
    by_cases hk : k = x.1
    · rw [if_pos hk] at hv
      cases hv
      exact ⟨i, x, rfl, hx, hk.symm⟩
    · rw [if_neg hk] at hv
      obtain ⟨q, z, hqv, hz, hzk⟩ := h.bwd k v hv
      refine ⟨q, z, hqv, ?_, hzk⟩
      have : q ≠ i := fun e => by
        subst e
        exact hk (by rw [← hzk, hi z hz])
      rw [hs q this]
      exact hz

theorem plok_new {l pl : List It} {x z : It} (h : PlOk l pl) (hk : mget x.1 pl = none) : PlOk ((l ++ [z]).set l.length x) (mset x.1 (l.length : Int) pl) := by
  refine plok_at (l := l) (by simp) (fun q hq => ?_) (fun y hy => by simp at hy) (.inr hk) h
  have e : (l ++ [z]).set l.length x = l ++ [x] := by simp
  rw [e, List.getElem?_append]
  split
  · rfl
  · rw [List.getElem?_eq_none (l := [x]) (by simp; omega), List.getElem?_eq_none (by omega)]
theorem mem_new {l pl : List It} {x z : It} (h : PlOk l pl) (hk : mget x.1 pl = none) : ∀ y, y ∈ (l ++ [z]).set l.length x ↔ y = x ∨ (y ∈ l ∧ y.1 ≠ x.1) := fun y => by
  have e : (l ++ [z]).set l.length x = l ++ [x] := by simp
  rw [e]
  simp only [List.mem_append, List.mem_singleton]
  constructor
  · rintro (hy | hy)
    · exact .inr ⟨hy, h.none_of hk y hy⟩
    · exact .inl hy
  · rintro (hy | hy)
    · exact .inr hy
    · exact .inl hy.1
theorem plok_old {l pl : List It} {i : Nat} {x : It} {t : Int} (h : PlOk l pl) (hi : l[i]? = some (x.1, t)) (hk : mget x.1 pl = some (i : Int)) : PlOk (l.set i x) (mset x.1 (i : Int) pl) := by
  have hil := (List.getElem?_eq_some_iff.1 hi).1
  exact plok_at (l := l) (by simp [hil]) (fun q hq => by rw [List.getElem?_set_ne (Ne.symm hq)]) (fun y hy => by rw [hi] at hy; cases hy; rfl) (.inl hk) h
theorem mem_old {l pl : List It} {i : Nat} {x : It} {t : Int} (h : PlOk l pl) (hi : l[i]? = some (x.1, t)) : ∀ y, y ∈ l.set i x ↔ y = x ∨ (y ∈ l ∧ y.1 ≠ x.1) := fun y => by
  have hil := (List.getElem?_eq_some_iff.1 hi).1
  constructor
  · intro hy
    obtain ⟨q, hq⟩ := List.mem_iff_getElem?.1 hy
    by_cases hqi : q = i
    · subst hqi
      simp [hil] at hq
      exact .inl hq.symm
    · rw [List.getElem?_set_ne (Ne.symm hqi)] at hq
      exact .inr ⟨List.mem_of_getElem? hq, fun e => hqi (h.inj hq hi e)⟩
  · rintro (rfl | ⟨hy, hne⟩)
    · exact List.mem_iff_getElem?.2 ⟨i, by simp [hil]⟩
    · obtain ⟨q, hq⟩ := List.mem_iff_getElem?.1 hy
      refine List.mem_iff_getElem?.2 ⟨q, ?_⟩
      rw [List.getElem?_set_ne]
      · exact hq
      · intro e
        subst e
        rw [hi] at hq
        cases hq
        exact hne rfl

/-- The last one away. -/
theorem plok_last {l pl : List It} {y : It} (h : PlOk l pl) (hy : l[l.length - 1]? = some y) : PlOk (l.take (l.length - 1)) (mdel y.1 pl) := by
  refine ⟨fun q z hz => ?_, fun k v hv => ?_, mdel_nodup h.nd⟩
  · rw [List.getElem?_take] at hz
    split at hz
    · rename_i hq
      rw [mget_mdel h.nd, if_neg (fun e => ?_)]
      · exact h.fwd q z hz
      · have := h.inj hz hy e
        omega
    · cases hz
  · rw [mget_mdel h.nd] at hv
    split at hv
    · cases hv
    · rename_i hk
      obtain ⟨q, z, hqv, hz, hzk⟩ := h.bwd k v hv
      refine ⟨q, z, hqv, ?_, hzk⟩
      have := (List.getElem?_eq_some_iff.1 hz).1
      rw [List.getElem?_take, if_pos]
      · exact hz
      · have : q ≠ l.length - 1 := fun e => by
          subst e
          rw [hy] at hz
          cases hz
          exact hk hzk.symm
        omega
theorem mem_last {l pl : List It} {y : It} (h : PlOk l pl) (hy : l[l.length - 1]? = some y) : ∀ z, z ∈ l.take (l.length - 1) ↔ z ∈ l ∧ z.1 ≠ y.1 := fun z => by
  constructor
  · intro hz
    obtain ⟨q, hq⟩ := List.mem_iff_getElem?.1 hz
    rw [List.getElem?_take] at hq
    split at hq
    · exact ⟨List.mem_of_getElem? hq, fun e => by have := h.inj hq hy e; omega⟩
    · cases hq
  · rintro ⟨hz, hne⟩
    obtain ⟨q, hq⟩ := List.mem_iff_getElem?.1 hz
    have hql := (List.getElem?_eq_some_iff.1 hq).1
    refine List.mem_iff_getElem?.2 ⟨q, ?_⟩
    rw [List.getElem?_take, if_pos]
    · exact hq
    · have : q ≠ l.length - 1 := fun e => by
        subst e
        rw [hy] at hq
        cases hq
        exact hne rfl
      omega
/-- The last one into the place of another one. -/
theorem plok_mid {l pl : List It} {i : Nat} {x y : It} (h : PlOk l pl) (hx : l[i]? = some x) (hy : l[l.length - 1]? = some y) (hi : i < l.length - 1) : PlOk ((l.take (l.length - 1)).set i y) (mset y.1 (i : Int) (mdel x.1 pl)) := by
  have hxy : x.1 ≠ y.1 := fun e => by have := h.inj hx hy e; omega
  have at_ : ∀ q, ((l.take (l.length - 1)).set i y)[q]? = if q = i then some y else if q < l.length - 1 then l[q]? else none := fun q => by
    rw [List.getElem?_set]
    by_cases hq : q = i
    · subst hq
      simp
      omega
    · rw [if_neg (Ne.symm hq), if_neg hq, List.getElem?_take]
  refine ⟨fun q z hz => ?_, fun k v hv => ?_, mset_nodup (mdel_nodup h.nd)⟩
  · rw [at_] at hz
    rw [mget_mset, mget_mdel h.nd]
    by_cases hq : q = i
    · rw [if_pos hq] at hz
      cases hz
      rw [if_pos rfl, hq]
    · rw [if_neg hq] at hz
      split at hz
      · rw [if_neg (fun e => by have := h.inj hz hy e; omega), if_neg (fun e => hq (h.inj hz hx e))]
        exact h.fwd q z hz
      · cases hz
  · rw [mget_mset, mget_mdel h.nd] at hv
    by_cases hk : k = y.1
    · rw [if_pos hk] at hv
      cases hv
      exact ⟨i, y, rfl, by rw [at_, if_pos rfl], hk.symm⟩
    · rw [if_neg hk] at hv
      split at hv
      · cases hv
      · rename_i hkx
        obtain ⟨q, z, hqv, hz, hzk⟩ := h.bwd k v hv
        refine ⟨q, z, hqv, ?_, hzk⟩
        have hql := (List.getElem?_eq_some_iff.1 hz).1
        have h1 : q ≠ i := fun e => by subst e; rw [hx] at hz; cases hz; exact hkx hzk.symm
        have h2 : q ≠ l.length - 1 := fun e => by subst e; rw [hy] at hz; cases hz; exact hk hzk.symm
        rw [at_, if_neg h1, if_pos (by omega)]
        exact hz
theorem mem_mid {l pl : List It} {i : Nat} {x y : It} (h : PlOk l pl) (hx : l[i]? = some x) (hy : l[l.length - 1]? = some y) (hi : i < l.length - 1) : ∀ z, z ∈ (l.take (l.length - 1)).set i y ↔ z ∈ l ∧ z.1 ≠ x.1 := fun z => by
  have hxy : x.1 ≠ y.1 := fun e => by have := h.inj hx hy e; omega
  have at_ : ∀ q, ((l.take (l.length - 1)).set i y)[q]? = if q = i then some y else if q < l.length - 1 then l[q]? else none := fun q => by
    rw [List.getElem?_set]
    by_cases hq : q = i
    · subst hq
      simp
      omega
    · rw [if_neg (Ne.symm hq), if_neg hq, List.getElem?_take]
  constructor
  · intro hz
    obtain ⟨q, hq⟩ := List.mem_iff_getElem?.1 hz
    rw [at_] at hq
    split at hq
    · cases hq
      exact ⟨List.mem_of_getElem? hy, hxy.symm⟩
    · rename_i hqi
      split at hq
      · exact ⟨List.mem_of_getElem? hq, fun e => hqi (h.inj hq hx e)⟩
      · cases hq
  · rintro ⟨hz, hne⟩
    obtain ⟨q, hq⟩ := List.mem_iff_getElem?.1 hz
    have hql := (List.getElem?_eq_some_iff.1 hq).1
    have h1 : q ≠ i := fun e => by subst e; rw [hx] at hq; cases hq; exact hne rfl
    by_cases h2 : q = l.length - 1
    · subst h2
      rw [hy] at hq
      cases hq
      exact List.mem_iff_getElem?.2 ⟨i, by rw [at_, if_pos rfl]⟩
    · exact List.mem_iff_getElem?.2 ⟨q, by rw [at_, if_neg h1, if_pos (by omega)]; exact hq⟩

/-- What a heap is. -/
structure Inv (l pl : List It) (st : Int) : Prop where
  heap : Heap l
  pl : PlOk l pl
  len : l.length < 549755813888
  st0 : 0 ≤ st
  st1 : st < 2305843009213693952
end Go.Vc.H
