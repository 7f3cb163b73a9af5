/- Keys put in one after another. No program in sight. -/
import Derived.Test.YtkbjdkkpjjlbeaaHpS
namespace Go.Vc.H
open Go Go.Vc

def bl (K T : Nat → Int) : Nat → List It
  | 0 => []
  | i + 1 => putR (K i, T i) (bl K T i)
def fv (K T : Nat → Int) (k : Int) : Nat → Option Int
  | 0 => none
  | i + 1 => if K i = k then some (T i) else fv K T k i
def ct (K : Nat → Int) : Nat → Nat
  | 0 => 0
  | i + 1 => ct K i + if ∀ q, q < i → K q ≠ K i then 1 else 0
theorem ct_le (K : Nat → Int) : ∀ i, ct K i ≤ i
  | 0 => Nat.le_refl _
  | i + 1 => by
    have := ct_le K i
    rw [ct]
    split <;> omega
theorem mem_bl {K T : Nat → Int} {k t : Int} : ∀ {i : Nat}, (k, t) ∈ bl K T i ↔ fv K T k i = some t
  | 0 => by simp [bl, fv]
  | i + 1 => by
    rw [bl, fv, putR, mem_ins, mem_dropR, mem_bl]
    by_cases h : K i = k
    · subst h
      rw [if_pos rfl]
      simp
      exact eq_comm
    · rw [if_neg h]
      constructor
      · rintro (e | e)
        · cases e; exact absurd rfl h
        · exact e.1
      · intro e
        exact .inr ⟨e, fun e => h e.symm⟩
theorem srt_bl {K T : Nat → Int} : ∀ i, Srt (bl K T i)
  | 0 => List.Pairwise.nil
  | i + 1 => srt_ins (srt_dropR (srt_bl i)) fun y hy => ((mem_dropR y).1 hy).2
theorem fv_some {K T : Nat → Int} {k : Int} : ∀ {i : Nat}, (∃ t, fv K T k i = some t) ↔ ∃ q, q < i ∧ K q = k
  | 0 => by simp [fv]
  | i + 1 => by
    rw [fv]
    by_cases h : K i = k
    · rw [if_pos h]
      exact ⟨fun _ => ⟨i, by omega, h⟩, fun _ => ⟨_, rfl⟩⟩
    · rw [if_neg h, fv_some]
      constructor
      · rintro ⟨q, hq, e⟩
        exact ⟨q, by omega, e⟩
      · rintro ⟨q, hq, e⟩
        refine ⟨q, ?_, e⟩
        have : q ≠ i := fun e2 => h (e2 ▸ e)
        omega
abbrev Nk (s : List It) : Prop := (s.map (·.1)).Nodup
theorem nk_drop {k : Int} {s : List It} (h : Nk s) : Nk (dropR k s) := h.sublist ((List.filter_sublist).map _)
theorem nk_ins {x : It} : ∀ {s : List It}, Nk s → (∀ y ∈ s, y.1 ≠ x.1) → Nk (ins x s)
  | [], _, _ => by simp [ins, Nk]
  | z :: t, h, hk => by
    rw [ins]
    split
    · simp only [Nk, List.map_cons, List.nodup_cons] at h ⊢
      refine ⟨fun hm => ?_, h⟩
      rcases List.mem_cons.1 hm with e | hm
      · exact hk z (by simp) e.symm
      · obtain ⟨y, hy, e⟩ := List.mem_map.1 hm
        exact hk y (by simp [hy]) e
    · simp only [Nk, List.map_cons, List.nodup_cons] at h ⊢
      refine ⟨fun hm => ?_, nk_ins h.2 fun y hy => hk y (by simp [hy])⟩
      obtain ⟨y, hy, e⟩ := List.mem_map.1 hm
      rcases mem_ins.1 hy with e2 | hm
      · rw [e2] at e
        exact hk z (by simp) e.symm
      · exact h.1 (List.mem_map.2 ⟨y, hm, e⟩)
theorem len_ins {x : It} : ∀ (s : List It), (ins x s).length = s.length + 1
  | [] => rfl
  | z :: t => by
    rw [ins]
    split
    · rfl
    · rw [List.length_cons, len_ins t, List.length_cons]
theorem len_drop {k : Int} : ∀ {s : List It}, Nk s → (dropR k s).length = if ∃ y ∈ s, y.1 = k then s.length - 1 else s.length
  | [], _ => by simp [dropR]
  | z :: t, h => by
    simp only [Nk, List.map_cons, List.nodup_cons] at h
    have ih := len_drop (k := k) h.2
    unfold dropR at ih ⊢
    rw [List.filter_cons]
    by_cases hz : z.1 = k
    · have hn : ¬ ∃ y ∈ t, y.1 = k := by
        rintro ⟨y, hy, e⟩
        exact h.1 (List.mem_map.2 ⟨y, hy, by rw [e, hz]⟩)
      rw [if_neg hn] at ih
      rw [if_neg (by simp [hz]), ih, if_pos ⟨z, by simp, hz⟩]
      simp
    · rw [if_pos (by simp [hz]), List.length_cons, ih]
      by_cases he : ∃ y ∈ t, y.1 = k
      · have : 0 < t.length := by obtain ⟨y, hy, _⟩ := he; exact List.length_pos_of_mem hy
        rw [if_pos he, if_pos (by obtain ⟨y, hy, e⟩ := he; exact ⟨y, by simp [hy], e⟩), List.length_cons]
        omega
      · rw [if_neg he, if_neg]
        · rfl
        · rintro ⟨y, hy, e⟩
          rcases List.mem_cons.1 hy with e2 | hm
          · exact hz (e2 ▸ e)
          · exact he ⟨y, hm, e⟩
theorem nk_bl {K T : Nat → Int} : ∀ i, Nk (bl K T i)
  | 0 => by simp [bl, Nk]
  | i + 1 => nk_ins (nk_drop (nk_bl i)) fun y hy => ((mem_dropR y).1 hy).2
theorem len_bl {K T : Nat → Int} : ∀ i, (bl K T i).length = ct K i
  | 0 => rfl
  | i + 1 => by
    rw [bl, putR, len_ins, len_drop (nk_bl i), ct, len_bl i]
    by_cases h : ∀ q, q < i → K q ≠ K i
    · rw [if_pos h, if_neg]
      rintro ⟨y, hy, e⟩
      obtain ⟨q, hq, e2⟩ := fv_some.1 ⟨y.2, mem_bl.1 (show (y.1, y.2) ∈ bl K T i from hy)⟩
      exact h q hq (by rw [e2, e])
    · have : ∃ y ∈ bl K T i, y.1 = K i := by
        have : ∃ q, q < i ∧ K q = K i := by
          refine Classical.byContradiction fun hn => h fun q hq e => hn ⟨q, hq, e⟩
        obtain ⟨t, ht⟩ := fv_some (T := T).2 this
        exact ⟨(K i, t), mem_bl.2 ht, rfl⟩
      rw [if_neg h, if_pos this]
      have : 0 < (bl K T i).length := by obtain ⟨y, hy, _⟩ := this; exact List.length_pos_of_mem hy
      rw [len_bl i] at this
      omega

/-! ### Digits -/
def dg (n : Nat) : Nat := if n = 0 then 0 else dg (n / 2) + 1
termination_by n
theorem dg_pos {n : Nat} (h : 0 < n) : dg n = dg (n / 2) + 1 := by rw [dg, if_neg (by omega)]
theorem dg_zero : dg 0 = 0 := by unfold dg; rfl
theorem lev_dg (n : Nat) : lev n ≤ dg (n + 1) := by
  induction n using Nat.strongRecOn with
  | _ n ih =>
    rcases Nat.eq_zero_or_pos n with h0 | hp
    · subst h0; rw [lev_zero]; exact Nat.zero_le _
    · rw [lev_pos hp, dg_pos (by omega)]
      have := ih ((n - 1) / 2) (by omega)
      rw [show (n - 1) / 2 + 1 = (n + 1) / 2 by omega] at this
      omega
theorem dg_le (n : Nat) : dg n ≤ n := by
  induction n using Nat.strongRecOn with
  | _ n ih =>
    rcases Nat.eq_zero_or_pos n with h0 | hp
    · subst h0; rw [dg_zero]; exact Nat.le_refl _
    · rw [dg_pos hp]
      have := ih (n / 2) (by omega)
      omega
end Go.Vc.H
