/- The sorted list that a heap is. No program in sight. -/
import Derived.Test.YtkbjdkkpjjlbeaaHpN
import Derived.Test.YtkbjdkkpjjlbeaaHp8
namespace Go.Vc.H
open Go Go.Vc

abbrev Srt (s : List It) : Prop := s.Pairwise ahead
theorem Srt.nodup {s : List It} (h : Srt s) : s.Nodup := h.imp fun hab e => by subst e; exact ahead_irrefl _ hab
theorem srt_ext {s t : List It} (hs : Srt s) (ht : Srt t) (h : ∀ y, y ∈ s ↔ y ∈ t) : s = t := by
  induction s generalizing t with
  | nil =>
    cases t with
    | nil => rfl
    | cons b t => exact absurd ((h b).2 (by simp)) (by simp)
  | cons a s ih =>
    cases t with
    | nil => exact absurd ((h a).1 (by simp)) (by simp)
    | cons b t =>
      have hs := List.pairwise_cons.1 hs
      have ht := List.pairwise_cons.1 ht
      have hab : a = b := by
        rcases List.mem_cons.1 ((h a).1 (by simp)) with e | hm
        · exact e
        · rcases List.mem_cons.1 ((h b).2 (by simp)) with e | hm2
          · exact e.symm
          · exact absurd (ahead_trans (ht.1 a hm) (hs.1 b hm2)) (ahead_irrefl _)
      subst hab
      rw [ih hs.2 ht.2 fun y => ?_]
      constructor
      · intro hy
        rcases List.mem_cons.1 ((h y).1 (by simp [hy])) with e | hm
        · subst e; exact absurd (hs.1 y hy) (ahead_irrefl _)
        · exact hm
      · intro hy
        rcases List.mem_cons.1 ((h y).2 (by simp [hy])) with e | hm
        · subst e; exact absurd (ht.1 y hy) (ahead_irrefl _)
        · exact hm

theorem PlOk.nodup {l pl : List It} (h : PlOk l pl) : l.Nodup := by
  rw [List.Nodup, List.pairwise_iff_getElem]
  intro i j hi hj hij e
  have := h.inj (List.getElem?_eq_getElem hi) (List.getElem?_eq_getElem hj) (by rw [e])
  omega
/-- A sorted list of a heap's items. -/
structure Rel (s l : List It) : Prop where
  srt : Srt s
  mem : ∀ y, y ∈ s ↔ y ∈ l
theorem Rel.len {s l pl : List It} (h : Rel s l) (hP : PlOk l pl) : s.length = l.length := ((List.perm_ext_iff_of_nodup h.srt.nodup hP.nodup).2 h.mem).length_eq
theorem Rel.top {s l pl : List It} (h : Rel s l) (hH : Heap l) (hP : PlOk l pl) : l[0]? = s[0]? := by
  have hlen := h.len hP
  cases s with
  | nil =>
    have : l = [] := List.eq_nil_of_length_eq_zero hlen.symm
    rw [this]
  | cons a s =>
    obtain ⟨x, hx⟩ : ∃ x, l[0]? = some x := ⟨_, List.getElem?_eq_getElem (by rw [← hlen]; simp)⟩
    rw [hx]
    simp only [List.getElem?_cons_zero]
    rcases List.mem_cons.1 ((h.mem x).2 (List.mem_of_getElem? hx)) with e | hm
    · rw [e]
    · obtain ⟨q, hq⟩ := List.mem_iff_getElem?.1 ((h.mem a).1 (by simp))
      exact absurd ((List.pairwise_cons.1 h.srt).1 x hm) (heap_top hH hx q a hq)
theorem Rel.uniq {s l pl : List It} (h : Rel s l) (hP : PlOk l pl) {x y : It} (hx : x ∈ s) (hy : y ∈ s) (e : x.1 = y.1) : x = y := hP.uniq ((h.mem x).1 hx) ((h.mem y).1 hy) e

theorem mem_dropR {k : Int} {s : List It} (y : It) : y ∈ dropR k s ↔ y ∈ s ∧ y.1 ≠ k := by simp [dropR]
theorem srt_dropR {k : Int} {s : List It} (h : Srt s) : Srt (dropR k s) := h.filter _
theorem mem_ins {x y : It} : ∀ {s : List It}, y ∈ ins x s ↔ y = x ∨ y ∈ s
  | [] => by simp [ins]
  | z :: t => by
    rw [ins]
    split
    · simp
    · rw [List.mem_cons, mem_ins, List.mem_cons]
      exact or_left_comm
theorem srt_ins {x : It} : ∀ {s : List It}, Srt s → (∀ y ∈ s, y.1 ≠ x.1) → Srt (ins x s)
  | [], _, _ => by simp [ins, Srt]
  | z :: t, h, hk => by
    have h' := List.pairwise_cons.1 h
    rw [ins]
    split
    · rename_i ha
      refine List.pairwise_cons.2 ⟨fun y hy => ?_, h⟩
      rcases List.mem_cons.1 hy with e | hm
      · rw [e]; exact ha
      · exact ahead_trans ha (h'.1 y hm)
    · rename_i hna
      refine List.pairwise_cons.2 ⟨fun y hy => ?_, srt_ins h'.2 fun y hy => hk y (by simp [hy])⟩
      rcases mem_ins.1 hy with e | hm
      · rw [e]; exact ahead_of_le hna (hk z (by simp))
      · exact h'.1 y hm
theorem Rel.put {s l l' : List It} {x : It} (h : Rel s l) (hm : ∀ y, y ∈ l' ↔ y = x ∨ (y ∈ l ∧ y.1 ≠ x.1)) : Rel (putR x s) l' :=
  ⟨srt_ins (srt_dropR h.srt) fun y hy => ((mem_dropR y).1 hy).2, fun y => by rw [putR, mem_ins, mem_dropR, hm, h.mem]⟩
theorem Rel.drop {s l l' : List It} {k : Int} (h : Rel s l) (hm : ∀ y, y ∈ l' ↔ y ∈ l ∧ y.1 ≠ k) : Rel (dropR k s) l' :=
  ⟨srt_dropR h.srt, fun y => by rw [mem_dropR, hm, h.mem]⟩
theorem Rel.pop {s l l' pl : List It} {x : It} (h : Rel (x :: s) l) (hP : PlOk l pl) (hm : ∀ y, y ∈ l' ↔ y ∈ l ∧ y.1 ≠ x.1) : Rel s l' := by
  have h' := List.pairwise_cons.1 h.srt
  refine ⟨h'.2, fun y => ?_⟩
  rw [hm, ← h.mem]
  constructor
  · intro hy
    refine ⟨by simp [hy], fun e => ?_⟩
    have : y = x := h.uniq hP (by simp [hy]) (by simp) e
    subst this
    exact ahead_irrefl _ (h'.1 y hy)
  · rintro ⟨hy, hne⟩
    rcases List.mem_cons.1 hy with e | hm
    · exact absurd (by rw [e]) hne
    · exact hm
theorem Rel.due {s l l' pl' d : List It} {now st st' : Int} (h : Rel s l) (hd : DueP now l st d l' pl' st') : Rel (dueR now s) l' ∧ dueK now s = d.map (·.1) := by
  refine ⟨⟨h.srt.filter _, fun y => ?_⟩, ?_⟩
  · rw [hd.rest, ← h.mem]; simp [dueR]
  · have : s.filter (fun x => decide (x.2 ≤ now)) = d := srt_ext (h.srt.filter _) hd.srt fun y => by
      rw [hd.due, ← h.mem]; simp
    rw [dueK, this]
/-- Where the sorted list has a key. -/
theorem plc_cases (k : Int) : ∀ (s : List It), (plc k s = -1 ∧ ∀ y ∈ s, y.1 ≠ k) ∨ ∃ (i : Nat) (t : Int), plc k s = i ∧ s[i]? = some (k, t)
  | [] => .inl ⟨rfl, by simp⟩
  | x :: s => by
    rw [plc]
    by_cases hx : x.1 = k
    · rw [if_pos hx]
      exact .inr ⟨0, x.2, rfl, by subst hx; rfl⟩
    · rw [if_neg hx]
      rcases plc_cases k s with ⟨e, hn⟩ | ⟨i, t, e, hi⟩
      · rw [e, if_pos (by decide)]
        exact .inl ⟨rfl, fun y hy => by rcases List.mem_cons.1 hy with e | hm
                                        · rw [e]; exact hx
                                        · exact hn y hm⟩
      · rw [e, if_neg (by omega)]
        exact .inr ⟨i + 1, t, rfl, by simpa using hi⟩
theorem Rel.there {s l pl : List It} {k : Int} (h : Rel s l) (hP : PlOk l pl) : (mget k pl).isSome = decide (plc k s ≥ 0) := by
  rcases plc_cases k s with ⟨e, hn⟩ | ⟨i, t, e, hi⟩
  · rw [e, decide_eq_false (by decide)]
    cases hm : mget k pl with
    | none => rfl
    | some v =>
      obtain ⟨i, t, _, hi⟩ := hP.some_of hm
      exact absurd rfl (hn (k, t) ((h.mem _).2 (List.mem_of_getElem? hi)))
  · rw [e, decide_eq_true (by omega)]
    cases hm : mget k pl with
    | some v => rfl
    | none => exact absurd rfl (hP.none_of hm (k, t) ((h.mem _).1 (List.mem_of_getElem? hi)))
end Go.Vc.H
