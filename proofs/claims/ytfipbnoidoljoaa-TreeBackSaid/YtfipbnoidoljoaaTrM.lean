/- Search trees that keep their sides nearly even. No program in sight. -/
import Derived.Test.YtfipbnoidoljoaaVcGo
namespace Go.Vc.T

inductive Tr (α : Type) where
  | nil
  | node (l : Tr α) (k : α) (r : Tr α)
namespace Tr
variable {α : Type}
def size : Tr α → Nat
  | nil => 0
  | node l _ r => size l + size r + 1
def height : Tr α → Nat
  | nil => 0
  | node l _ r => max (height l) (height r) + 1
def toL : Tr α → List α
  | nil => []
  | node l k r => toL l ++ k :: toL r
theorem size_len : ∀ t : Tr α, t.size = t.toL.length
  | nil => rfl
  | node l k r => by simp [size, toL, size_len l, size_len r]; omega
theorem height_le : ∀ t : Tr α, t.height ≤ t.size
  | nil => Nat.le_refl _
  | node l k r => by
    have := height_le l
    have := height_le r
    simp only [size, height]
    omega
def riseL : Tr α → α → Tr α → Tr α
  | node a b c, k, r => node a b (node c k r)
  | nil, k, r => node nil k r
def riseR : Tr α → α → Tr α → Tr α
  | l, k, node a b c => node (node l k a) b c
  | l, k, nil => node l k nil
/-- The left side, made ready to rise. -/
def readyL : Tr α → Tr α
  | node a b c => if a.height < c.height then riseR a b c else node a b c
  | nil => nil
def readyR : Tr α → Tr α
  | node a b c => if c.height < a.height then riseL a b c else node a b c
  | nil => nil
def even (l : Tr α) (k : α) (r : Tr α) : Tr α :=
  if l.height > r.height + 1 then riseL (readyL l) k r
  else if r.height > l.height + 1 then riseR l k (readyR r)
  else node l k r
theorem toL_riseL (l : Tr α) (k : α) (r : Tr α) : (riseL l k r).toL = l.toL ++ k :: r.toL := by
  cases l <;> simp [riseL, toL]
theorem toL_riseR (l : Tr α) (k : α) (r : Tr α) : (riseR l k r).toL = l.toL ++ k :: r.toL := by
  cases r <;> simp [riseR, toL]
theorem toL_readyL (l : Tr α) : (readyL l).toL = l.toL := by
  cases l with
  | nil => rfl
  | node a b c =>
    simp only [readyL]
    split
    · rw [toL_riseR]; rfl
    · rfl
theorem toL_readyR (l : Tr α) : (readyR l).toL = l.toL := by
  cases l with
  | nil => rfl
  | node a b c =>
    simp only [readyR]
    split
    · rw [toL_riseL]; rfl
    · rfl
theorem toL_even (l : Tr α) (k : α) (r : Tr α) : (even l k r).toL = l.toL ++ k :: r.toL := by
  unfold even
  split
  · rw [toL_riseL, toL_readyL]
  · split
    · rw [toL_riseR, toL_readyR]
    · rfl

variable (cf : α → α → Int)
def put (x : α) : Tr α → Tr α × Bool
  | nil => (node nil x nil, true)
  | node l k r =>
    if cf x k < 0 then (even (put x l).1 k r, (put x l).2)
    else if cf x k > 0 then (even l k (put x r).1, (put x r).2)
    else (even l k r, false)
/-- The first one taken out. -/
def least : Tr α → α → Tr α → Tr α × α
  | nil, k, r => (r, k)
  | node a b c, k, r => (even (least a b c).1 k r, (least a b c).2)
/-- The two sides of one that is taken out. -/
def dropTop : Tr α → Tr α → Tr α × Bool
  | nil, r => (r, true)
  | node a b c, nil => (node a b c, true)
  | node u v w, node a b c => (even (node u v w) (least a b c).2 (least a b c).1, true)
def drop (x : α) : Tr α → Tr α × Bool
  | nil => (nil, false)
  | node l k r =>
    if cf x k < 0 then (even (drop x l).1 k r, (drop x l).2)
    else if cf x k > 0 then (even l k (drop x r).1, (drop x r).2)
    else dropTop l r
theorem toL_least : ∀ (l : Tr α) (k : α) (r : Tr α), (least l k r).2 :: (least l k r).1.toL = l.toL ++ k :: r.toL
  | nil, k, r => rfl
  | node a b c, k, r => by
    have := toL_least a b c
    simp only [least, toL_even, toL]
    rw [← List.cons_append, this]

/-- An order, as a function tells it. -/
structure Ord (cf : α → α → Int) : Prop where
  eq : ∀ a b, cf a b = 0 ↔ a = b
  flip : ∀ a b, cf a b < 0 ↔ cf b a > 0
  trans : ∀ a b c, cf a b < 0 → cf b c < 0 → cf a c < 0
variable {cf}
abbrev Srt (cf : α → α → Int) (l : List α) : Prop := l.Pairwise fun a b => cf a b < 0
theorem Ord.irrefl (h : Ord cf) (a : α) : ¬ cf a a < 0 := fun e => by
  have := (h.eq a a).2 rfl
  omega
theorem srt_ext (h : Ord cf) {s t : List α} (hs : Srt cf s) (ht : Srt cf t) (hm : ∀ y, y ∈ s ↔ y ∈ t) : s = t := by
  induction s generalizing t with
  | nil =>
    cases t with
    | nil => rfl
    | cons b t => exact absurd ((hm b).2 (by simp)) (by simp)
  | cons a s ih =>
    cases t with
    | nil => exact absurd ((hm a).1 (by simp)) (by simp)
    | cons b t =>
      have hs := List.pairwise_cons.1 hs
      have ht := List.pairwise_cons.1 ht
      have hab : a = b := by
        rcases List.mem_cons.1 ((hm a).1 (by simp)) with e | m
        · exact e
        · rcases List.mem_cons.1 ((hm b).2 (by simp)) with e | m2
          · exact e.symm
          · exact absurd (h.trans _ _ _ (ht.1 a m) (hs.1 b m2)) (h.irrefl _)
      subst hab
      rw [ih hs.2 ht.2 fun y => ?_]
      constructor
      · intro hy
        rcases List.mem_cons.1 ((hm y).1 (by simp [hy])) with e | m
        · subst e; exact absurd (hs.1 y hy) (h.irrefl _)
        · exact m
      · intro hy
        rcases List.mem_cons.1 ((hm y).2 (by simp [hy])) with e | m
        · subst e; exact absurd (ht.1 y hy) (h.irrefl _)
        · exact m
theorem srt_mid {l r : List α} {k : α} : Srt cf (l ++ k :: r) ↔ Srt cf l ∧ Srt cf r ∧ (∀ a ∈ l, cf a k < 0) ∧ (∀ b ∈ r, cf k b < 0) ∧ ∀ a ∈ l, ∀ b ∈ r, cf a b < 0 := by
  unfold Srt
  rw [List.pairwise_append, List.pairwise_cons]
  constructor
  · rintro ⟨h1, ⟨h2, h3⟩, h4⟩
    exact ⟨h1, h3, fun a ha => h4 a ha k (by simp), h2, fun a ha b hb => h4 a ha b (by simp [hb])⟩
  · rintro ⟨h1, h2, h3, h4, h5⟩
    refine ⟨h1, ⟨h4, h2⟩, fun a ha b hb => ?_⟩
    rcases List.mem_cons.1 hb with e | m
    · rw [e]; exact h3 a ha
    · exact h5 a ha b m

theorem put_spec (h : Ord cf) (x : α) : ∀ t : Tr α, Srt cf t.toL → Srt cf (put cf x t).1.toL ∧ (∀ y, y ∈ (put cf x t).1.toL ↔ y = x ∨ y ∈ t.toL) ∧ ((put cf x t).2 = true ↔ x ∉ t.toL)
  | nil, _ => by simp [put, toL]
  | node l k r, hs => by
    obtain ⟨s1, s2, s3, s4, s5⟩ := srt_mid.1 hs
    rw [put]
    split
    · rename_i hlt
      obtain ⟨i1, i2, i3⟩ := put_spec h x l s1
      have hxr : ∀ b ∈ r.toL, cf x b < 0 := fun b hb => h.trans _ _ _ hlt (s4 b hb)
      have hnx : x ≠ k ∧ x ∉ r.toL := ⟨fun e => by rw [(h.eq x k).2 e] at hlt; omega, fun hm => h.irrefl x (hxr x hm)⟩
      simp only [toL_even, toL]
      refine ⟨srt_mid.2 ⟨i1, s2, fun a ha => ?_, s4, fun a ha b hb => ?_⟩, fun y => ?_, ?_⟩
      · rcases (i2 a).1 ha with e | m
        · rw [e]; exact hlt
        · exact s3 a m
      · rcases (i2 a).1 ha with e | m
        · rw [e]; exact hxr b hb
        · exact s5 a m b hb
      · simp only [List.mem_append, List.mem_cons, i2]
        constructor
        · rintro ((e | m) | m)
          · exact .inl e
          · exact .inr (.inl m)
          · exact .inr (.inr m)
        · rintro (e | m | m)
          · exact .inl (.inl e)
          · exact .inl (.inr m)
          · exact .inr m
      · rw [i3]; simp [hnx]
    · rename_i hnlt
      split
      · rename_i hgt
        obtain ⟨i1, i2, i3⟩ := put_spec h x r s2
        have hkx : cf k x < 0 := (h.flip k x).2 hgt
        have hlx : ∀ a ∈ l.toL, cf a x < 0 := fun a ha => h.trans _ _ _ (s3 a ha) hkx
        have hnx : x ≠ k ∧ x ∉ l.toL := ⟨fun e => by rw [(h.eq x k).2 e] at hgt; omega, fun hm => h.irrefl x (hlx x hm)⟩
        simp only [toL_even, toL]
        refine ⟨srt_mid.2 ⟨s1, i1, s3, fun b hb => ?_, fun a ha b hb => ?_⟩, fun y => ?_, ?_⟩
        · rcases (i2 b).1 hb with e | m
          · rw [e]; exact hkx
          · exact s4 b m
        · rcases (i2 b).1 hb with e | m
          · rw [e]; exact hlx a ha
          · exact s5 a ha b m
        · simp only [List.mem_append, List.mem_cons, i2]
          constructor
          · rintro (m | e | e | m)
            · exact .inr (.inl m)
            · exact .inr (.inr (.inl e))
            · exact .inl e
            · exact .inr (.inr (.inr m))
          · rintro (e | m | e | m)
            · exact .inr (.inr (.inl e))
            · exact .inl m
            · exact .inr (.inl e)
            · exact .inr (.inr (.inr m))
        · rw [i3]; simp [hnx]
      · rename_i hngt
        have he : x = k := (h.eq x k).1 (by omega)
        subst he
        simp only [toL_even]
        refine ⟨hs, fun y => ⟨.inr, fun e => ?_⟩, ?_⟩
        · rcases e with e | m
          · rw [e]; simp
          · exact m
        · simp [toL]
theorem drop_spec (h : Ord cf) (x : α) : ∀ t : Tr α, Srt cf t.toL → Srt cf (drop cf x t).1.toL ∧ (∀ y, y ∈ (drop cf x t).1.toL ↔ y ∈ t.toL ∧ y ≠ x) ∧ ((drop cf x t).2 = true ↔ x ∈ t.toL)
  | nil, _ => by simp [drop, toL]
  | node l k r, hs => by
    obtain ⟨s1, s2, s3, s4, s5⟩ := srt_mid.1 hs
    rw [drop]
    split
    · rename_i hlt
      obtain ⟨i1, i2, i3⟩ := drop_spec h x l s1
      have hxr : ∀ b ∈ r.toL, cf x b < 0 := fun b hb => h.trans _ _ _ hlt (s4 b hb)
      have hnx : x ≠ k ∧ x ∉ r.toL := ⟨fun e => by rw [(h.eq x k).2 e] at hlt; omega, fun hm => h.irrefl x (hxr x hm)⟩
      simp only [toL_even, toL]
      refine ⟨srt_mid.2 ⟨i1, s2, fun a ha => s3 a ((i2 a).1 ha).1, s4, fun a ha b hb => s5 a ((i2 a).1 ha).1 b hb⟩, fun y => ?_, ?_⟩
      · simp only [List.mem_append, List.mem_cons, i2]
        constructor
        · rintro (m | e | m)
          · exact ⟨.inl m.1, m.2⟩
          · exact ⟨.inr (.inl e), fun e2 => hnx.1 (e2 ▸ e)⟩
          · exact ⟨.inr (.inr m), fun e2 => hnx.2 (e2 ▸ m)⟩
        · rintro ⟨m | e | m, hne⟩
          · exact .inl ⟨m, hne⟩
          · exact .inr (.inl e)
          · exact .inr (.inr m)
      · rw [i3]; simp [hnx]
    · rename_i hnlt
      split
      · rename_i hgt
        obtain ⟨i1, i2, i3⟩ := drop_spec h x r s2
        have hkx : cf k x < 0 := (h.flip k x).2 hgt
        have hlx : ∀ a ∈ l.toL, cf a x < 0 := fun a ha => h.trans _ _ _ (s3 a ha) hkx
        have hnx : x ≠ k ∧ x ∉ l.toL := ⟨fun e => by rw [(h.eq x k).2 e] at hgt; omega, fun hm => h.irrefl x (hlx x hm)⟩
        simp only [toL_even, toL]
        refine ⟨srt_mid.2 ⟨s1, i1, s3, fun b hb => s4 b ((i2 b).1 hb).1, fun a ha b hb => s5 a ha b ((i2 b).1 hb).1⟩, fun y => ?_, ?_⟩
        · simp only [List.mem_append, List.mem_cons, i2]
          constructor
          · rintro (m | e | m)
            · exact ⟨.inl m, fun e2 => hnx.2 (e2 ▸ m)⟩
            · exact ⟨.inr (.inl e), fun e2 => hnx.1 (e2 ▸ e)⟩
            · exact ⟨.inr (.inr m.1), m.2⟩
          · rintro ⟨m | e | m, hne⟩
            · exact .inl m
            · exact .inr (.inl e)
            · exact .inr (.inr ⟨m, hne⟩)
        · rw [i3]; simp [hnx]
      · rename_i hngt
        have he : x = k := (h.eq x k).1 (by omega)
        subst he
        have hxl : x ∉ l.toL := fun m => h.irrefl x (s3 x m)
        have hxr : x ∉ r.toL := fun m => h.irrefl x (s4 x m)
        have hmem : ∀ {q : List α}, (∀ y, y ∈ q ↔ y ∈ l.toL ∨ y ∈ r.toL) → ∀ y, y ∈ q ↔ y ∈ l.toL ++ x :: r.toL ∧ y ≠ x := fun hq y => by
          rw [hq, List.mem_append, List.mem_cons]
          constructor
          · rintro (m | m)
            · exact ⟨.inl m, fun e => hxl (e ▸ m)⟩
            · exact ⟨.inr (.inr m), fun e => hxr (e ▸ m)⟩
          · rintro ⟨m | e | m, hne⟩
            · exact .inl m
            · exact absurd e hne
            · exact .inr m
        cases l with
        | nil =>
          refine ⟨s2, hmem fun y => by simp [dropTop, toL], ?_⟩
          simp [dropTop, toL]
        | node u v w => cases r with
        | nil =>
          refine ⟨s1, hmem fun y => by simp [dropTop, toL], ?_⟩
          simp [dropTop, toL]
        | node a b c =>
          have hl := toL_least a b c
          have hl : (least a b c).2 :: (least a b c).1.toL = (node a b c).toL := hl
          rw [← hl] at s2 s4 s5 hmem
          have s2 := List.pairwise_cons.1 s2
          simp only [dropTop, toL_even]
          refine ⟨srt_mid.2 ⟨s1, s2.2, fun u hu => s5 u hu _ (by simp), s2.1, fun u hu v hv => s5 u hu v (by simp [hv])⟩, fun y => ?_, by simp [toL]⟩
          have e : ((node u v w).node x (node a b c)).toL = (node u v w).toL ++ x :: (node a b c).toL := rfl
          rw [e, ← hl]
          exact hmem (q := (node u v w).toL ++ (least a b c).2 :: (least a b c).1.toL) (fun y => by simp) y
end Tr
end Go.Vc.T
