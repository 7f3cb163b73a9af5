/- Places in search trees, plainly. -/
import Derived.Test.YtfipbnoidoljoaaTrM
namespace Go.Vc.T.Tr
variable {α : Type} {cf : α → α → Int}
/-- Where one stands. -/
def pl (cf : α → α → Int) (x : α) : Tr α → Option Nat
  | nil => none
  | node l k r =>
    if cf x k < 0 then pl cf x l
    else if cf x k > 0 then (pl cf x r).map (· + (l.size + 1))
    else some l.size
theorem pl_spec (h : Ord cf) (x : α) : ∀ t : Tr α, Srt cf t.toL → (∀ i, pl cf x t = some i → t.toL[i]? = some x) ∧ (pl cf x t = none → x ∉ t.toL)
  | nil, _ => by simp [pl, toL]
  | node l k r, hs => by
    obtain ⟨s1, s2, s3, s4, s5⟩ := srt_mid.1 hs
    obtain ⟨l1, l2⟩ := pl_spec h x l s1
    obtain ⟨r1, r2⟩ := pl_spec h x r s2
    rw [pl]
    simp only [toL]
    split
    · rename_i hlt
      have hxr : ∀ b ∈ r.toL, cf x b < 0 := fun b hb => h.trans _ _ _ hlt (s4 b hb)
      refine ⟨fun i hi => ?_, fun hn hm => ?_⟩
      · have := l1 i hi
        rw [List.getElem?_append_left (List.getElem?_eq_some_iff.1 this).1]
        exact this
      · rcases List.mem_append.1 hm with m | m
        · exact l2 hn m
        · rcases List.mem_cons.1 m with e | m
          · rw [(h.eq x k).2 e] at hlt; omega
          · exact h.irrefl x (hxr x m)
    · rename_i hnlt
      split
      · rename_i hgt
        have hkx : cf k x < 0 := (h.flip k x).2 hgt
        refine ⟨fun i hi => ?_, fun hn hm => ?_⟩
        · cases hr : pl cf x r with
          | none => rw [hr] at hi; cases hi
          | some j =>
            rw [hr] at hi
            simp only [Option.map_some, Option.some.injEq] at hi
            subst hi
            rw [List.getElem?_append_right (by rw [← size_len]; omega), ← size_len, show j + (l.size + 1) - l.size = j + 1 by omega, List.getElem?_cons_succ]
            exact r1 j hr
        · rcases List.mem_append.1 hm with m | m
          · exact h.irrefl x (h.trans _ _ _ (s3 x m) hkx)
          · rcases List.mem_cons.1 m with e | m
            · rw [(h.eq x k).2 e] at hgt; omega
            · cases hr : pl cf x r with
              | none => exact r2 hr m
              | some j => rw [hr] at hn; cases hn
      · have he : x = k := (h.eq x k).1 (by omega)
        subst he
        refine ⟨fun i hi => ?_, fun hn => by cases hn⟩
        cases hi
        rw [List.getElem?_append_right (by rw [← size_len]; omega), ← size_len, Nat.sub_self, List.getElem?_cons_zero]
theorem pl_lt (cf : α → α → Int) (x : α) : ∀ (t : Tr α) (i : Nat), pl cf x t = some i → i < t.size
  | nil, i, h => by cases h
  | node l k r, i, h => by
    rw [pl] at h
    simp only [size]
    split at h
    · have := pl_lt cf x l i h; omega
    · split at h
      · cases hr : pl cf x r with
        | none => rw [hr] at h; cases h
        | some j =>
          rw [hr] at h
          simp only [Option.map_some, Option.some.injEq] at h
          have := pl_lt cf x r j hr
          omega
      · cases h; omega
theorem at_node (l : Tr α) (k : α) (r : Tr α) (i : Nat) : (node l k r).toL[i]? = if i < l.size then l.toL[i]? else if i = l.size then some k else r.toL[i - (l.size + 1)]? := by
  simp only [toL]
  split
  · rw [List.getElem?_append_left (by rw [← size_len]; omega)]
  · rw [List.getElem?_append_right (by rw [← size_len]; omega), ← size_len]
    split
    · rename_i e; rw [e, Nat.sub_self, List.getElem?_cons_zero]
    · rw [show i - l.size = i - (l.size + 1) + 1 by omega, List.getElem?_cons_succ]
end Go.Vc.T.Tr
