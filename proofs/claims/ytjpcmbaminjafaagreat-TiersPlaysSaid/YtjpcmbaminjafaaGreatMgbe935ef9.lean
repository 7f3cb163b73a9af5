/- Own texts of this claim, laid together: ZFS6, TrP, TrO, ZSt6, ZFS2, ZFS4, ZSp1, ZSp2, ZSp3, ZSp4, ZSp5, ZSp6, ZSp7, ZSo1, ZSo2, ZFS3, VcMap2, VcRange, ZSo3, ZFS8, ZSo4, VcAlloc. -/
import Derived.Test.YtjpcmbaminjafaaGreatMgd759df36
import Derived.Test.YtjpcmbaminjafaaGreatProg
import Derived.Maps.RangeRun

/- Own text of this claim: ZFS6. -/
set_option maxRecDepth 20000
namespace Vcz
open Go Go.Vc
/-! tree.New[place], of a function that is not nil -/
def h29 : Hints := ⟨[], [4], [4], [], [], [], [], [], []⟩
def f29_vc (fn : Fn) (a b : Array Value) (w : World) (R : Ending → World → Prop) : Prop :=
 ∃ (b1 : Bool),
 Gives Proofs.Tryz.prog (binOpS BinOp.eql 82 (Operand.tmp 3) (Operand.const Value.nilFunc) (Value.func fn a b) Value.nilFunc) (Value.bool b1) ∧
 (b1 = true → R (Ending.returned (Value.pointer none)) w) ∧
 (b1 = false →
 OpW Proofs.Tryz.prog (valueS (Instr.box 110 (Value.agg #[Value.func fn a b, Value.pointer none]))) w fun (v2 : Value) (w3 : World) =>
 ∃ (ad4 : Addr), v2 = Value.pointer (some ad4) ∧ R (Ending.returned (Value.pointer (some ad4))) w3)
theorem f29_eq (fn : Fn) (a b : Array Value) (w : World) (R : Ending → World → Prop) : (fnF Go.Proofs.Tryz.prog h29 Go.Proofs.Tryz.f29 [Value.func fn a b] w R).den = f29_vc fn a b w R := by kernel_rfl
theorem f29_calls (fn : Fn) (a b : Array Value) (w : World) (R : Ending → World → Prop) (h : f29_vc fn a b w R) : Calls Go.Proofs.Tryz.prog 29 (List.toArray [Value.func fn a b]) w R :=
 fn_sound (H := h29) (fn := Go.Proofs.Tryz.f29) (by kernel_rfl) (by kernel_rfl) (by kernel_rfl) ((f29_eq fn a b w R).mpr h)
end Vcz

/- Places in search trees, plainly. -/
namespace Go.Vc.T.Tr
variable {α : Type} {cf : α → α → Int}
/-- Where one stands. -/
def pl (cf : α → α → Int) (x : α) : Tr α → Option Nat
  | nil => none
  | node l k r =>
    if cf x k < 0 then pl cf x l
    else if cf x k > 0 then (pl cf x r).map (· + (l.size + 1))
    else some l.size
theorem pl_spec (h : Ord cf) (x : α) : ∀ t : Tr α, Srt cf t.toL → (∀ i, pl cf x t = some i → t.toL[i]? = some x) ∧ (pl cf x t = none → x ∉ t.toL)
  | nil, _ => by simp [pl, toL]
  | node l k r, hs => by
    obtain ⟨s1, s2, s3, s4, s5⟩ := srt_mid.1 hs
    obtain ⟨l1, l2⟩ := pl_spec h x l s1
    obtain ⟨r1, r2⟩ := pl_spec h x r s2
    rw [pl]
    simp only [toL]
    split
    · rename_i hlt
      have hxr : ∀ b ∈ r.toL, cf x b < 0 := fun b hb => h.trans _ _ _ hlt (s4 b hb)
      refine ⟨fun i hi => ?_, fun hn hm => ?_⟩
      · have := l1 i hi
        rw [List.getElem?_append_left (List.getElem?_eq_some_iff.1 this).1]
        exact this
      · rcases List.mem_append.1 hm with m | m
        · exact l2 hn m
        · rcases List.mem_cons.1 m with e | m
          · rw [(h.eq x k).2 e] at hlt; omega
          · exact h.irrefl x (hxr x m)
    · rename_i hnlt
      split
      · rename_i hgt
        have hkx : cf k x < 0 := (h.flip k x).2 hgt
        refine ⟨fun i hi => ?_, fun hn hm => ?_⟩
        · cases hr : pl cf x r with
          | none => rw [hr] at hi; cases hi
          | some j =>
            rw [hr] at hi
            simp only [Option.map_some, Option.some.injEq] at hi
            subst hi
            rw [List.getElem?_append_right (by rw [← size_len]; omega), ← size_len, show j + (l.size + 1) - l.size = j + 1 by omega, List.getElem?_cons_succ]
            exact r1 j hr
        · rcases List.mem_append.1 hm with m | m
          · exact h.irrefl x (h.trans _ _ _ (s3 x m) hkx)
          · rcases List.mem_cons.1 m with e | m
            · rw [(h.eq x k).2 e] at hgt; omega
            · cases hr : pl cf x r with
              | none => exact r2 hr m
              | some j => rw [hr] at hn; cases hn
      · have he : x = k := (h.eq x k).1 (by omega)
        subst he
        refine ⟨fun i hi => ?_, fun hn => by cases hn⟩
        cases hi
        rw [List.getElem?_append_right (by rw [← size_len]; omega), ← size_len, Nat.sub_self, List.getElem?_cons_zero]
theorem pl_lt (cf : α → α → Int) (x : α) : ∀ (t : Tr α) (i : Nat), pl cf x t = some i → i < t.size
  | nil, i, h => by cases h
  | node l k r, i, h => by
    rw [pl] at h
    simp only [size]
    split at h
    · have := pl_lt cf x l i h; omega
    · split at h
      · cases hr : pl cf x r with
        | none => rw [hr] at h; cases h
        | some j =>
          rw [hr] at h
          simp only [Option.map_some, Option.some.injEq] at h
          have := pl_lt cf x r j hr
          omega
      · cases h; omega
theorem at_node (l : Tr α) (k : α) (r : Tr α) (i : Nat) : (node l k r).toL[i]? = if i < l.size then l.toL[i]? else if i = l.size then some k else r.toL[i - (l.size + 1)]? := by
  simp only [toL]
  split
  · rw [List.getElem?_append_left (by rw [← size_len]; omega)]
  · rw [List.getElem?_append_right (by rw [← size_len]; omega), ← size_len]
    split
    · rename_i e; rw [e, Nat.sub_self, List.getElem?_cons_zero]
    · rw [show i - l.size = i - (l.size + 1) + 1 by omega, List.getElem?_cons_succ]
end Go.Vc.T.Tr

/- Search trees whose order tells apart only the elements of a set S. No program in sight. -/
namespace Go.Vc.T.Tr
variable {α : Type} {cf : α → α → Int} {S : α → Prop}
/-- An order of the elements of a set. -/
structure OrdOn (S : α → Prop) (cf : α → α → Int) : Prop where
  eq : ∀ a b, S a → S b → (cf a b = 0 ↔ a = b)
  flip : ∀ a b, S a → S b → (cf a b < 0 ↔ cf b a > 0)
  trans : ∀ a b c, S a → S b → S c → cf a b < 0 → cf b c < 0 → cf a c < 0
theorem OrdOn.irrefl (h : OrdOn S cf) (a : α) (ha : S a) : ¬ cf a a < 0 := fun e => by
  have := (h.eq a a ha ha).2 rfl
  omega
theorem OrdOn.sub {S' : α → Prop} (h : OrdOn S cf) (hs : ∀ a, S' a → S a) : OrdOn S' cf := ⟨fun a b ha hb => h.eq a b (hs a ha) (hs b hb), fun a b ha hb => h.flip a b (hs a ha) (hs b hb), fun a b c ha hb hc => h.trans a b c (hs a ha) (hs b hb) (hs c hc)⟩
theorem srt_extOn (h : OrdOn S cf) {s t : List α} (hss : ∀ y ∈ s, S y) (hs : Srt cf s) (ht : Srt cf t) (hm : ∀ y, y ∈ s ↔ y ∈ t) : s = t := by
  induction s generalizing t with
  | nil =>
    cases t with
    | nil => rfl
    | cons b t => exact absurd ((hm b).2 (by simp)) (by simp)
  | cons a s ih =>
    cases t with
    | nil => exact absurd ((hm a).1 (by simp)) (by simp)
    | cons b t =>
      have hs := List.pairwise_cons.1 hs
      have ht := List.pairwise_cons.1 ht
      have hSa : S a := hss a (by simp)
      have hSt : ∀ y ∈ b :: t, S y := fun y hy => hss y ((hm y).2 hy)
      have hab : a = b := by
        rcases List.mem_cons.1 ((hm a).1 (by simp)) with e | m
        · exact e
        · rcases List.mem_cons.1 ((hm b).2 (by simp)) with e | m2
          · exact e.symm
          · exact absurd (h.trans _ _ _ hSa (hSt b (by simp)) hSa (hs.1 b m2) (ht.1 a m)) (h.irrefl _ hSa)
      subst hab
      rw [ih (fun y hy => hss y (List.mem_cons_of_mem _ hy)) hs.2 ht.2 fun y => ?_]
      constructor
      · intro hy
        rcases List.mem_cons.1 ((hm y).1 (by simp [hy])) with e | m
        · subst e; exact absurd (hs.1 y hy) (h.irrefl _ hSa)
        · exact m
      · intro hy
        rcases List.mem_cons.1 ((hm y).2 (by simp [hy])) with e | m
        · subst e; exact absurd (ht.1 y hy) (h.irrefl _ hSa)
        · exact m
theorem put_specOn (h : OrdOn S cf) (x : α) (hSx : S x) : ∀ t : Tr α, (∀ y ∈ t.toL, S y) → Srt cf t.toL → Srt cf (put cf x t).1.toL ∧ (∀ y, y ∈ (put cf x t).1.toL ↔ y = x ∨ y ∈ t.toL) ∧ ((put cf x t).2 = true ↔ x ∉ t.toL)
  | nil, _, _ => by simp [put, toL]
  | node l k r, hS, hs => by
    have hSl : ∀ y ∈ l.toL, S y := fun y hy => hS y (by simp [toL, hy])
    have hSr : ∀ y ∈ r.toL, S y := fun y hy => hS y (by simp [toL, hy])
    have hSk : S k := hS k (by simp [toL])
    obtain ⟨s1, s2, s3, s4, s5⟩ := srt_mid.1 hs
    rw [put]
    split
    · rename_i hlt
      obtain ⟨i1, i2, i3⟩ := put_specOn h x hSx l hSl s1
      have hxr : ∀ b ∈ r.toL, cf x b < 0 := fun b hb => h.trans _ _ _ hSx hSk (hSr b hb) hlt (s4 b hb)
      have hnx : x ≠ k ∧ x ∉ r.toL := ⟨fun e => by rw [(h.eq x k hSx hSk).2 e] at hlt; omega, fun hm => h.irrefl x hSx (hxr x hm)⟩
      simp only [toL_even, toL]
      refine ⟨srt_mid.2 ⟨i1, s2, fun a ha => ?_, s4, fun a ha b hb => ?_⟩, fun y => ?_, ?_⟩
      · rcases (i2 a).1 ha with e | m
        · rw [e]; exact hlt
        · exact s3 a m
      · rcases (i2 a).1 ha with e | m
        · rw [e]; exact hxr b hb
        · exact s5 a m b hb
      · simp only [List.mem_append, List.mem_cons, i2]
        constructor
        · rintro ((e | m) | m)
          · exact .inl e
          · exact .inr (.inl m)
          · exact .inr (.inr m)
        · rintro (e | m | m)
          · exact .inl (.inl e)
          · exact .inl (.inr m)
          · exact .inr m
      · rw [i3]; simp [hnx]
    · rename_i hnlt
      split
      · rename_i hgt
        obtain ⟨i1, i2, i3⟩ := put_specOn h x hSx r hSr s2
        have hkx : cf k x < 0 := (h.flip k x hSk hSx).2 hgt
        have hlx : ∀ a ∈ l.toL, cf a x < 0 := fun a ha => h.trans _ _ _ (hSl a ha) hSk hSx (s3 a ha) hkx
        have hnx : x ≠ k ∧ x ∉ l.toL := ⟨fun e => by rw [(h.eq x k hSx hSk).2 e] at hgt; omega, fun hm => h.irrefl x hSx (hlx x hm)⟩
        simp only [toL_even, toL]
        refine ⟨srt_mid.2 ⟨s1, i1, s3, fun b hb => ?_, fun a ha b hb => ?_⟩, fun y => ?_, ?_⟩
        · rcases (i2 b).1 hb with e | m
          · rw [e]; exact hkx
          · exact s4 b m
        · rcases (i2 b).1 hb with e | m
          · rw [e]; exact hlx a ha
          · exact s5 a ha b m
        · simp only [List.mem_append, List.mem_cons, i2]
          constructor
          · rintro (m | e | e | m)
            · exact .inr (.inl m)
            · exact .inr (.inr (.inl e))
            · exact .inl e
            · exact .inr (.inr (.inr m))
          · rintro (e | m | e | m)
            · exact .inr (.inr (.inl e))
            · exact .inl m
            · exact .inr (.inl e)
            · exact .inr (.inr (.inr m))
        · rw [i3]; simp [hnx]
      · rename_i hngt
        have he : x = k := (h.eq x k hSx hSk).1 (by omega)
        subst he
        simp only [toL_even]
        refine ⟨hs, fun y => ⟨.inr, fun e => ?_⟩, ?_⟩
        · rcases e with e | m
          · rw [e]; simp
          · exact m
        · simp [toL]
theorem drop_specOn (h : OrdOn S cf) (x : α) (hSx : S x) : ∀ t : Tr α, (∀ y ∈ t.toL, S y) → Srt cf t.toL → Srt cf (drop cf x t).1.toL ∧ (∀ y, y ∈ (drop cf x t).1.toL ↔ y ∈ t.toL ∧ y ≠ x) ∧ ((drop cf x t).2 = true ↔ x ∈ t.toL)
  | nil, _, _ => by simp [drop, toL]
  | node l k r, hS, hs => by
    have hSl : ∀ y ∈ l.toL, S y := fun y hy => hS y (by simp [toL, hy])
    have hSr : ∀ y ∈ r.toL, S y := fun y hy => hS y (by simp [toL, hy])
    have hSk : S k := hS k (by simp [toL])
    obtain ⟨s1, s2, s3, s4, s5⟩ := srt_mid.1 hs
    rw [drop]
    split
    · rename_i hlt
      obtain ⟨i1, i2, i3⟩ := drop_specOn h x hSx l hSl s1
      have hxr : ∀ b ∈ r.toL, cf x b < 0 := fun b hb => h.trans _ _ _ hSx hSk (hSr b hb) hlt (s4 b hb)
      have hnx : x ≠ k ∧ x ∉ r.toL := ⟨fun e => by rw [(h.eq x k hSx hSk).2 e] at hlt; omega, fun hm => h.irrefl x hSx (hxr x hm)⟩
      simp only [toL_even, toL]
      refine ⟨srt_mid.2 ⟨i1, s2, fun a ha => s3 a ((i2 a).1 ha).1, s4, fun a ha b hb => s5 a ((i2 a).1 ha).1 b hb⟩, fun y => ?_, ?_⟩
      · simp only [List.mem_append, List.mem_cons, i2]
        constructor
        · rintro (m | e | m)
          · exact ⟨.inl m.1, m.2⟩
          · exact ⟨.inr (.inl e), fun e2 => hnx.1 (e2 ▸ e)⟩
          · exact ⟨.inr (.inr m), fun e2 => hnx.2 (e2 ▸ m)⟩
        · rintro ⟨m | e | m, hne⟩
          · exact .inl ⟨m, hne⟩
          · exact .inr (.inl e)
          · exact .inr (.inr m)
      · rw [i3]; simp [hnx]
    · rename_i hnlt
      split
      · rename_i hgt
        obtain ⟨i1, i2, i3⟩ := drop_specOn h x hSx r hSr s2
        have hkx : cf k x < 0 := (h.flip k x hSk hSx).2 hgt
        have hlx : ∀ a ∈ l.toL, cf a x < 0 := fun a ha => h.trans _ _ _ (hSl a ha) hSk hSx (s3 a ha) hkx
        have hnx : x ≠ k ∧ x ∉ l.toL := ⟨fun e => by rw [(h.eq x k hSx hSk).2 e] at hgt; omega, fun hm => h.irrefl x hSx (hlx x hm)⟩
        simp only [toL_even, toL]
        refine ⟨srt_mid.2 ⟨s1, i1, s3, fun b hb => s4 b ((i2 b).1 hb).1, fun a ha b hb => s5 a ha b ((i2 b).1 hb).1⟩, fun y => ?_, ?_⟩
        · simp only [List.mem_append, List.mem_cons, i2]
          constructor
          · rintro (m | e | m)
            · exact ⟨.inl m, fun e2 => hnx.2 (e2 ▸ m)⟩
            · exact ⟨.inr (.inl e), fun e2 => hnx.1 (e2 ▸ e)⟩
            · exact ⟨.inr (.inr m.1), m.2⟩
          · rintro ⟨m | e | m, hne⟩
            · exact .inl m
            · exact .inr (.inl e)
            · exact .inr (.inr ⟨m, hne⟩)
        · rw [i3]; simp [hnx]
      · rename_i hngt
        have he : x = k := (h.eq x k hSx hSk).1 (by omega)
        subst he
        have hxl : x ∉ l.toL := fun m => h.irrefl x hSx (s3 x m)
        have hxr : x ∉ r.toL := fun m => h.irrefl x hSx (s4 x m)
        have hmem : ∀ {q : List α}, (∀ y, y ∈ q ↔ y ∈ l.toL ∨ y ∈ r.toL) → ∀ y, y ∈ q ↔ y ∈ l.toL ++ x :: r.toL ∧ y ≠ x := fun hq y => by
          rw [hq, List.mem_append, List.mem_cons]
          constructor
          · rintro (m | m)
            · exact ⟨.inl m, fun e => hxl (e ▸ m)⟩
            · exact ⟨.inr (.inr m), fun e => hxr (e ▸ m)⟩
          · rintro ⟨m | e | m, hne⟩
            · exact .inl m
            · exact absurd e hne
            · exact .inr m
        cases l with
        | nil =>
          refine ⟨s2, hmem fun y => by simp [dropTop, toL], ?_⟩
          simp [dropTop, toL]
        | node u v w => cases r with
        | nil =>
          refine ⟨s1, hmem fun y => by simp [dropTop, toL], ?_⟩
          simp [dropTop, toL]
        | node a b c =>
          have hl := toL_least a b c
          have hl : (least a b c).2 :: (least a b c).1.toL = (node a b c).toL := hl
          rw [← hl] at s2 s4 s5 hmem
          have s2 := List.pairwise_cons.1 s2
          simp only [dropTop, toL_even]
          refine ⟨srt_mid.2 ⟨s1, s2.2, fun u hu => s5 u hu _ (by simp), s2.1, fun u hu v hv => s5 u hu v (by simp [hv])⟩, fun y => ?_, by simp [toL]⟩
          have e : ((node u v w).node x (node a b c)).toL = (node u v w).toL ++ x :: (node a b c).toL := rfl
          rw [e, ← hl]
          exact hmem (q := (node u v w).toL ++ (least a b c).2 :: (least a b c).1.toL) (fun y => by simp) y
theorem pl_specOn (h : OrdOn S cf) (x : α) (hSx : S x) : ∀ t : Tr α, (∀ y ∈ t.toL, S y) → Srt cf t.toL → (∀ i, pl cf x t = some i → t.toL[i]? = some x) ∧ (pl cf x t = none → x ∉ t.toL)
  | nil, _, _ => by simp [pl, toL]
  | node l k r, hS, hs => by
    have hSl : ∀ y ∈ l.toL, S y := fun y hy => hS y (by simp [toL, hy])
    have hSr : ∀ y ∈ r.toL, S y := fun y hy => hS y (by simp [toL, hy])
    have hSk : S k := hS k (by simp [toL])
    obtain ⟨s1, s2, s3, s4, s5⟩ := srt_mid.1 hs
    obtain ⟨l1, l2⟩ := pl_specOn h x hSx l hSl s1
    obtain ⟨r1, r2⟩ := pl_specOn h x hSx r hSr s2
    rw [pl]
    simp only [toL]
    split
    · rename_i hlt
      have hxr : ∀ b ∈ r.toL, cf x b < 0 := fun b hb => h.trans _ _ _ hSx hSk (hSr b hb) hlt (s4 b hb)
      refine ⟨fun i hi => ?_, fun hn hm => ?_⟩
      · have := l1 i hi
        rw [List.getElem?_append_left (List.getElem?_eq_some_iff.1 this).1]
        exact this
      · rcases List.mem_append.1 hm with m | m
        · exact l2 hn m
        · rcases List.mem_cons.1 m with e | m
          · rw [(h.eq x k hSx hSk).2 e] at hlt; omega
          · exact h.irrefl x hSx (hxr x m)
    · rename_i hnlt
      split
      · rename_i hgt
        have hkx : cf k x < 0 := (h.flip k x hSk hSx).2 hgt
        refine ⟨fun i hi => ?_, fun hn hm => ?_⟩
        · cases hr : pl cf x r with
          | none => rw [hr] at hi; cases hi
          | some j =>
            rw [hr] at hi
            simp only [Option.map_some, Option.some.injEq] at hi
            subst hi
            rw [List.getElem?_append_right (by rw [← size_len]; omega), ← size_len, show j + (l.size + 1) - l.size = j + 1 by omega, List.getElem?_cons_succ]
            exact r1 j hr
        · rcases List.mem_append.1 hm with m | m
          · exact h.irrefl x hSx (h.trans _ _ _ (hSl x m) hSk hSx (s3 x m) hkx)
          · rcases List.mem_cons.1 m with e | m
            · rw [(h.eq x k hSx hSk).2 e] at hgt; omega
            · cases hr : pl cf x r with
              | none => exact r2 hr m
              | some j => rw [hr] at hn; cases hn
      · have he : x = k := (h.eq x k hSx hSk).1 (by omega)
        subst he
        refine ⟨fun i hi => ?_, fun hn => by cases hn⟩
        cases hi
        rw [List.getElem?_append_right (by rw [← size_len]; omega), ← size_len, Nat.sub_self, List.getElem?_cons_zero]
end Go.Vc.T.Tr

/- Trees of places: their structs. -/
set_option maxRecDepth 20000
set_option linter.unusedVariables false
namespace Go.Vc.SZ
open Go Go.Vc Go.RowKit Go.Proofs Go.Vc.T Vcz

variable {w W W' W1 : World} {M N : Nat → Prop} {gs : List Nat} {b g d : Nat} {k : Pl} {p p' pl pr : Option Addr} {t l l' r r' : Tr Pl} {bs bs' bl br : List Nat} {cf : Pl → Pl → Int} {L : List Pl}

/-- A tree of places in memory. -/
structure TT (W : World) (g : Nat) (t : Tr Pl) (bs : List Nat) : Prop where
  ex : ∃ root, W.heap[g]? = some (.cells ([fnV 30 #[], .pointer root] : List Value).toArray 110 (0, 0)) ∧ Rep W t root bs
  gn : g ∉ bs
theorem TT.glt (h : TT W g t bs) : g < W.heap.size := by
  obtain ⟨_, h, _⟩ := h.ex
  exact (Array.getElem?_eq_some_iff.1 h).1
theorem TT.lt (h : TT W g t bs) : ∀ q ∈ bs, q < W.heap.size := by
  obtain ⟨_, _, h⟩ := h.ex
  exact h.lt
theorem TT.ctx (h : TT W g t bs) : Ctx W g bs := by
  obtain ⟨r, h1, _⟩ := h.ex
  exact ⟨⟨r, h1⟩, h.gn⟩
theorem TT.chg (h : TT W g t bs) (hc : Chg N W W') (hg : ¬ N g) (hb : ∀ q ∈ bs, ¬ N q) : TT W' g t bs := by
  obtain ⟨r, h1, h2⟩ := h.ex
  exact ⟨⟨r, by rw [hc.block g h.glt hg]; exact h1, h2.chg hc hb⟩, h.gn⟩
theorem TT.call (h : TT W g t bs) (hb : Bel W W') : TT W' g t bs := h.chg (N := noB) (Chg.of_below hb) id fun _ _ => id
theorem Rep.ty : ∀ {t : Tr Pl} {p : Option Addr} {bs : List Nat}, Rep W t p bs → ∀ q ∈ bs, ∃ cur, W.heap[q]? = some (.cells cur 146 (0, 0))
  | .nil, _, _, ⟨_, hb⟩, q, hq => by subst hb; cases hq
  | .node l k r, _, _, ⟨b, pl, pr, bl, br, hp, hr, h1, h2, hb, hn⟩, q, hq => by
    subst hb
    rcases List.mem_cons.1 hq with e | hq
    · subst e; exact ⟨_, hr⟩
    · rcases List.mem_append.1 hq with hq | hq
      · exact Rep.ty h1 q hq
      · exact Rep.ty h2 q hq
theorem TT.ty (h : TT W g t bs) : ∀ q ∈ bs, ∃ cur, W.heap[q]? = some (.cells cur 146 (0, 0)) := by
  obtain ⟨_, _, h⟩ := h.ex
  exact h.ty

theorem c75 {root : Option Addr} (hb : W.heap[g]? = some (.cells ([fnV 30 #[], .pointer root] : List Value).toArray 110 (0, 0))) : Ret Tryz.prog 75 #[.pointer (pt g)] W (.bool true) := by
  intro R h
  refine f75_calls _ W R ?_
  unfold f75_vc
  exact ⟨true, (fun W => rfl), brB (fun _ => ⟨_, rfl, _, rd_f0 hb (by kernel_rfl) nod, true, (fun W => rfl), leaf h (At.refl W) rfl⟩) (fun e => by cases e)⟩

theorem c29 : RetQ Tryz.prog 29 #[fnV 30 #[]] W (fun v W' => ∃ g, v = .pointer (pt g) ∧ W.heap.size ≤ g ∧ TT W' g .nil []) := by
  intro R h
  refine f29_calls _ _ _ W R ?_
  unfold f29_vc
  refine ⟨false, (fun W => rfl), (fun e => by cases e), fun _ => ?_⟩
  refine opw_boxS (AtF.refl W noB) fun g w3 hg hA _ hb hblk => ⟨_, rfl, ?_⟩
  exact leafq h hA ⟨g, rfl, by omega, ⟨none, hblk, ⟨rfl, rfl⟩⟩, by simp⟩

theorem opw_root {root root' : Option Addr} {K : Value → World → Prop} (hA : AtF w M gs W) (hb : W.heap[g]? = some (.cells ([fnV 30 #[], .pointer root] : List Value).toArray 110 (0, 0))) (hm : w.heap.size ≤ g ∨ M g) (hap : g ∉ gs) (hr : Rep W t root' bs) (hg : g ∉ bs)
    (hK : ∀ W', AtF w M gs W' → Keeps gs W W' → TT W' g t bs → K undef W') : OpW Tryz.prog (skipS (Instr.storeAt 108 (.pointer (some (Addr.mk g (0 + 1) none))) (.pointer root'))) W K :=
  opw_storeF hA hb hm hap (cells' := [fnV 30 #[], .pointer root']) (by kernel_rfl) fun W' hA' hk hc hb' => hK W' hA' hk ⟨⟨root', hb', hr.chg hc (fun q hq e => hg (e ▸ hq))⟩, hg⟩

theorem c72 (hcf : OrdC cf) (x : Pl) (h : TT W g t bs) (hs : t.size < 1000000) :
    RetF Tryz.prog 72 #[.pointer (pt g), plV x] W (fun q => q = g ∨ q ∈ bs) (fun v W' => v = .bool (Tr.put cf x t).2 ∧ ∃ bs', TT W' g (Tr.put cf x t).1 bs' ∧ ∀ q ∈ bs', q ∈ bs ∨ W.heap.size ≤ q) := by
  intro R hR
  refine f72_calls _ _ _ _ _ W R ?_
  unfold f72_vc
  obtain ⟨root, h1, h3⟩ := h.ex
  have hgl := h.glt
  have hlt := h.lt
  have hA : AtF W (fun q => q = g ∨ q ∈ bs) [] W := AtF.refl W _
  refine go_n hA fun n1 hn => go_below_too hA fun w2 hA hb => ?_
  have h1 : w2.heap[g]? = _ := (hb.block hgl).trans h1
  have h := h.call hb
  have h3 := h3.call hb
  refine at_callb hA (c75 h1) fun w4 hA hk hb4 => ⟨_, rfl, hk, brB (fun e => by cases e) (fun _ => ?_)⟩
  have h1 : w4.heap[g]? = _ := (hb4.block h.glt).trans h1
  have h := h.call hb4
  have h3 := h3.call hb4
  refine ⟨_, rfl, _, rd_f 0 h1 rfl (by kernel_rfl) nod, go_below_too hA fun w8 hA hb8 => ?_⟩
  have h1 : w8.heap[g]? = _ := (hb8.block h.glt).trans h1
  have h := h.call hb8
  have h3 := h3.call hb8
  refine at_callF hA (c84 (g := g) (cf := cf) hcf x t w8 root bs (by omega) h.ctx h3) (fun q _ hq => .inr (.inr hq)) (one_ne fun e => by have := hlt n1 e; omega) fun v w10 hA' hk hch ⟨p', bs', hv, hrep, hsub⟩ => ?_
  subst hv
  have hu := hA.under n1 (by simp)
  have hgb : g ∉ bs' := fun e => (hsub g e).elim h.gn fun e => by have := h.glt; omega
  refine ⟨_, _, rfl, hk, _, rfl, ?_⟩
  refine opw_root hA' ((hch.block g h.glt h.gn).trans h1) (.inr (.inl rfl)) (by simp; omega) hrep hgb fun W' hA2 hk2 hT => ⟨hk2, leafF hR hA2 ⟨rfl, bs', hT, fun q hq => (hsub q hq).imp id fun e => Nat.le_trans hA.size e⟩⟩
theorem c70 (hcf : OrdC cf) (x : Pl) (h : TT W g t bs) (hs : t.size < 1000000) :
    RetF Tryz.prog 70 #[.pointer (pt g), plV x] W (fun q => q = g ∨ q ∈ bs) (fun v W' => v = .bool (Tr.drop cf x t).2 ∧ ∃ bs', TT W' g (Tr.drop cf x t).1 bs' ∧ ∀ q ∈ bs', q ∈ bs ∨ W.heap.size ≤ q) := by
  intro R hR
  refine f70_calls _ _ _ _ _ W R ?_
  unfold f70_vc
  obtain ⟨root, h1, h3⟩ := h.ex
  have hgl := h.glt
  have hlt := h.lt
  have hA : AtF W (fun q => q = g ∨ q ∈ bs) [] W := AtF.refl W _
  refine go_n hA fun n1 hn => go_below_too hA fun w2 hA hb => ?_
  have h1 : w2.heap[g]? = _ := (hb.block hgl).trans h1
  have h := h.call hb
  have h3 := h3.call hb
  refine at_callb hA (c75 h1) fun w4 hA hk hb4 => ⟨_, rfl, hk, brB (fun e => by cases e) (fun _ => ?_)⟩
  have h1 : w4.heap[g]? = _ := (hb4.block h.glt).trans h1
  have h := h.call hb4
  have h3 := h3.call hb4
  refine ⟨_, rfl, _, rd_f 0 h1 rfl (by kernel_rfl) nod, go_below_too hA fun w8 hA hb8 => ?_⟩
  have h1 : w8.heap[g]? = _ := (hb8.block h.glt).trans h1
  have h := h.call hb8
  have h3 := h3.call hb8
  refine at_callF hA (c82 (g := g) (cf := cf) hcf x t w8 root bs (by omega) h.ctx h3) (fun q _ hq => .inr (.inr hq)) (one_ne fun e => by have := hlt n1 e; omega) fun v w10 hA' hk hch ⟨p', bs', hv, hrep, hsub⟩ => ?_
  subst hv
  have hu := hA.under n1 (by simp)
  have hgb : g ∉ bs' := fun e => (hsub g e).elim h.gn fun e => by have := h.glt; omega
  refine ⟨_, _, rfl, hk, _, rfl, ?_⟩
  refine opw_root hA' ((hch.block g h.glt h.gn).trans h1) (.inr (.inl rfl)) (by simp; omega) hrep hgb fun W' hA2 hk2 hT => ⟨hk2, leafF hR hA2 ⟨rfl, bs', hT, fun q hq => (hsub q hq).imp id fun e => Nat.le_trans hA.size e⟩⟩

/-- How many nodes a pointer's node says that there are. -/
def lng (W : World) (p : Option Addr) : Nat := match p with
  | none => 0
  | some a => match W.heap[a.block]? with
    | some (Obj.cells c _ _) => match c.toList[6]? with
      | some (Value.int _ x) => x.toNat
      | _ => 0
    | _ => 0
theorem lng_rep (h : Rep W t p bs) : lng W p = t.size := by
  cases t with
  | nil => obtain ⟨rfl, _⟩ := h; rfl
  | node l k r =>
    obtain ⟨b, pl, pr, bl, br, rfl, hr, _⟩ := h
    unfold lng
    simp only [hr]
    rfl
abbrev noP : Pl := ⟨0, 0, 0, 0⟩
/-- The one at a place. -/
def atT (i : Int) (t : Tr Pl) : Value := if 0 ≤ i ∧ i < t.size then .tuple #[plV ((t.toL[i.toNat]?).getD noP), .bool true] else .tuple #[plV noP, .bool false]
/-- A list that a box holds. -/
def SL (w W : World) (d : Nat) (L : List Pl) : Prop := ∃ a c, W.heap[d]? = some (.cells ([.slice a L.length c] : List Value).toArray 123 (0, 0)) ∧ w.heap.size ≤ d ∧ OwnL w [] W 81 4 plC (.slice a L.length c) L
theorem SL.call (h : SL w W d L) (hb : Bel W W') : SL w W' d L := by
  obtain ⟨a, c, h1, h2, h3⟩ := h
  exact ⟨a, c, by rw [hb.block (Array.getElem?_eq_some_iff.1 h1).1]; exact h1, h2, h3.call hb⟩
theorem at_84 {K : Ending → World → Prop} (x : Pl) (hA : At w [] W) (h : SL w W d L) (hl : L.length < 1048576)
    (hK : ∀ W', At w [] W' → SL w W' d (L ++ [x]) → K (.returned (.tuple #[])) W') : Calls Tryz.prog 77 #[plV x, .pointer (pt d)] W K := by
  refine f77_calls _ _ _ _ _ W K ?_
  unfold f77_vc
  obtain ⟨a, c, h1, h2, h3⟩ := h
  have hd := (Array.getElem?_eq_some_iff.1 h1).1
  have hlt := h3.lt
  intro n1 hn1
  refine ⟨_, _, _, rd_f0 h1 (by kernel_rfl) nod, go_below_too hA fun w5 hA hb => ?_⟩
  have h1 : w5.heap[d]? = _ := (hb.block hd).trans h1
  have h3 : OwnL w [n1] w5 81 4 plC (.slice a L.length c) L := (OwnF.base h3 (fun k hk => h3.mine k hk) fun g hg e => by have := hlt g e; rw [List.mem_singleton.1 hg] at this; omega).call hb
  refine opw_push (e' := 81) (bytes := 32) hA h3 x (by kernel_rfl) (by kernel_rfl) rfl (fun _ _ => rfl) (by simp [Value.oneCell']) (by omega) (by decide) fun a2 cc2 w12 hA ho hg _ => ?_
  have h1' : w12.heap[d]? = _ := (hg.block d (Array.getElem?_eq_some_iff.1 h1).1 (fun e => by
    obtain ⟨cur, hc⟩ := h3.blk e.symm
    exact cells_ne hc h1 (by decide) rfl)).trans h1
  refine opw_storeF hA h1' (.inl h2) (by simp; omega) (cells' := [.slice a2 (L ++ [x]).length cc2]) (by kernel_rfl) fun w15 hA hk hc hb => ⟨hk, ?_⟩
  exact hK w15 hA.off ⟨a2, cc2, hb, h2, OwnF.base (ho.chg hc fun q hq e => by
    subst e
    obtain ⟨cur, hcu⟩ := ho.blk hq
    exact cells_ne hcu h1' (by decide) rfl) (fun k hk => ho.mine k hk) (by simp)⟩
theorem at_each : ∀ (t : Tr Pl) (p : Option Addr) (bs : List Nat), Rep w t p bs → ∀ (W : World) (L : List Pl) (K : Ending → World → Prop), At w [] W → SL w W d L → L.length + t.size < 1048576 →
    (∀ W', At w [] W' → SL w W' d (L ++ t.toL) → K (.returned (.tuple #[])) W') → Calls Tryz.prog 76 #[.pointer p, fnV 77 #[.pointer (pt d)]] W K
  | .nil, p, bs, H, W, L, K, hA, hS, hl, hK => by
    obtain ⟨rfl, _⟩ := H
    refine f76_calls _ _ W K ?_
    unfold f76_vc
    refine ⟨false, (fun W => rfl), brB (fun e => by cases e) (fun _ => hK W hA ?_)⟩
    simpa [Tr.toL] using hS
  | .node l k r, p, bs, H, W, L, K, hA, hS, hl, hK => by
    obtain ⟨b, pl, pr, bl, br, rfl, _, H⟩ := H.node
    refine f76_calls _ _ W K ?_
    unfold f76_vc
    simp only [Tr.size] at hl
    refine ⟨true, (fun W => rfl), brB (fun _ => ?_) (fun e => by cases e)⟩
    refine ⟨_, rfl, _, rdL (H.call hA.below) nod, ?_⟩
    refine at_each l pl bl H.rl W L _ hA hS (by omega) fun w5 hA hS => ⟨rfl, _, rfl, _, _, _, _, rdK (H.call hA.below) nod, ?_⟩
    have hll := Tr.size_len l
    refine opw_invoke (by kernel_rfl) ?_
    refine at_84 k hA hS (by rw [List.length_append]; omega) fun w9 hA hS => ⟨_, rfl, rfl, _, rfl, _, rdR (H.call hA.below) nod, ?_⟩
    refine at_each r pr br H.rr w9 _ _ hA hS (by simp only [List.length_append, List.length_cons, List.length_nil]; omega) fun w13 hA hS => ⟨rfl, hK w13 hA ?_⟩
    have e : L ++ l.toL ++ [k] ++ r.toL = L ++ (l.toL ++ k :: r.toL) := by simp
    rw [e] at hS
    exact hS
theorem c63 (h : TT W g t bs) (hsz : t.size < 1000000) : RetL Tryz.prog 63 #[.pointer (pt g)] W 81 4 plC t.toL := by
  intro R hR
  refine f63_calls _ W R ?_
  unfold f63_vc
  obtain ⟨root, h1, h3⟩ := h.ex
  have hA := At.refl W
  have hz : pureRun Tryz.prog (zeroValue 123) = some (.slice none 0 0) := by kernel_rfl
  unfold OpW
  rw [run_valueS (run_alloc hz)]
  refine ⟨_, rfl, ?_⟩
  have hA : At W [] (W.alloc (.cells (Value.slice none 0 0).cells 123)) := hA.call (below_alloc _)
  have hS : SL W (W.alloc (.cells (Value.slice none 0 0).cells 123)) W.heap.size [] := ⟨none, 0, heap_alloc_new W _, Nat.le_refl _, OwnF.nil⟩
  refine at_callb hA (c75 ((hA.below.block h.glt).trans h1)) fun w5 hA _ hb => ⟨_, rfl, brB (fun _ => ?_) (fun e => by cases e)⟩
  have hS := hS.call hb
  refine ⟨_, rfl, _, rd_f 0 ((hA.below.block h.glt).trans h1) rfl (by kernel_rfl) nod, ?_⟩
  refine at_each t root bs h3 w5 [] _ hA hS (by simp; omega) fun w10 hA hS => ⟨rfl, ?_⟩
  rw [List.nil_append] at hS
  obtain ⟨a, c, s1, s2, s3⟩ := hS
  exact ⟨_, _, _, rd_f0 s1 (by kernel_rfl) nod, leafl hR hA s3 rfl⟩
end Go.Vc.SZ

/- The formulas of functions, printed by a program (VcTool.lean): each is what the generator's formula comes to, by the kernel's reckoning; whoever proves one has the function's contract. -/
set_option maxRecDepth 100000
set_option maxHeartbeats 1000000
set_option linter.unusedVariables false
namespace Vcz
open Go Go.Vc Go.RowKit
/-! (manciple/share.Share).Cmp -/
def h49 : Hints := ⟨[2, 3], [], [17, 8, 13], [(3, [0, 1, 3, 4, 2, 5, 6, 7])], [], [], [], [], []⟩
def f49_vc (a_0 : Int) (a_1 : Int) (a_2 : Int) (b_0 : Int) (b_1 : Int) (b_2 : Int) (w : World) (R : Ending → World → Prop) : Prop :=
 ∀ (n1 : Nat),
 w.heap.size ≤ n1 →
 ∀ (n2 : Nat),
 w.heap.size ≤ n2 →
 ((a_0 == b_0 && (a_1 == b_1 && true) && (a_2 == b_2 && true)) = true → ∀ (w3 : World), Bel w w3 → Under [n1, n2] w3 → R (Ending.returned (Value.int IntKind.i64 0)) w3) ∧
 ((a_0 == b_0 && (a_1 == b_1 && true) && (a_2 == b_2 && true)) = false →
 ∀ (w4 : World),
 Bel w w4 →
 Under [n1, n2] w4 →
 Calls Proofs.Tryz.prog 66 #[Value.agg #[Value.int IntKind.i64 a_0, Value.int IntKind.i64 a_1, Value.int IntKind.i64 a_2]] w4 fun (e5 : Ending) (w6 : World) =>
 ∃ (b7 : Bool),
 e5 = Ending.returned (Value.bool b7) ∧
 Keeps [n1, n2] w4 w6 ∧
 ((!b7) = true → R (Ending.returned (Value.int IntKind.i64 0)) w6) ∧
 ((!b7) = false →
 Calls Proofs.Tryz.prog 66 #[Value.agg #[Value.int IntKind.i64 b_0, Value.int IntKind.i64 b_1, Value.int IntKind.i64 b_2]] w6 fun (e8 : Ending) (w9 : World) =>
 ∃ (b10 : Bool),
 e8 = Ending.returned (Value.bool b10) ∧
 Keeps [n1, n2] w6 w9 ∧
 ((!b10) = true → R (Ending.returned (Value.int IntKind.i64 0)) w9) ∧
 ((!b10) = false →
 ∀ (w11 : World),
 Bel w9 w11 →
 Under [n1, n2] w11 →
 Calls Proofs.Tryz.prog 67
 #[Value.agg #[Value.int IntKind.i64 a_0, Value.int IntKind.i64 a_1, Value.int IntKind.i64 a_2], Value.agg #[Value.int IntKind.i64 b_0, Value.int IntKind.i64 b_1, Value.int IntKind.i64 b_2]]
 w11 fun (e12 : Ending) (w13 : World) =>
 ∃ (x14 : Int),
 ∃ (x15 : Int),
 e12 = Ending.returned (Value.agg #[Value.int IntKind.u64 x14, Value.int IntKind.u64 x15]) ∧
 Keeps [n1, n2] w11 w13 ∧
 Calls Proofs.Tryz.prog 67
 #[Value.agg #[Value.int IntKind.i64 b_0, Value.int IntKind.i64 b_1, Value.int IntKind.i64 b_2],
 Value.agg #[Value.int IntKind.i64 a_0, Value.int IntKind.i64 a_1, Value.int IntKind.i64 a_2]]
 w13 fun (e16 : Ending) (w17 : World) =>
 ∃ (x18 : Int),
 ∃ (x19 : Int),
 e16 = Ending.returned (Value.agg #[Value.int IntKind.u64 x18, Value.int IntKind.u64 x19]) ∧
 Keeps [n1, n2] w13 w17 ∧
 Calls Proofs.Tryz.prog 68 #[Value.agg #[Value.int IntKind.u64 x14, Value.int IntKind.u64 x15], Value.agg #[Value.int IntKind.u64 x18, Value.int IntKind.u64 x19]] w17
 fun (e20 : Ending) (w21 : World) =>
 ∃ (x22 : Int), e20 = Ending.returned (Value.int IntKind.i64 x22) ∧ Keeps [n1, n2] w17 w21 ∧ R (Ending.returned (Value.int IntKind.i64 x22)) w21)))
theorem f49_eq (a_0 : Int) (a_1 : Int) (a_2 : Int) (b_0 : Int) (b_1 : Int) (b_2 : Int) (w : World) (R : Ending → World → Prop) : (fnF Go.Proofs.Tryz.prog h49 Go.Proofs.Tryz.f49 [Value.agg #[Value.int IntKind.i64 a_0, Value.int IntKind.i64 a_1, Value.int IntKind.i64 a_2], Value.agg #[Value.int IntKind.i64 b_0, Value.int IntKind.i64 b_1, Value.int IntKind.i64 b_2]] w R).den = f49_vc a_0 a_1 a_2 b_0 b_1 b_2 w R := by kernel_rfl
theorem f49_calls (a_0 : Int) (a_1 : Int) (a_2 : Int) (b_0 : Int) (b_1 : Int) (b_2 : Int) (w : World) (R : Ending → World → Prop) (h : f49_vc a_0 a_1 a_2 b_0 b_1 b_2 w R) : Calls Go.Proofs.Tryz.prog 49 (List.toArray [Value.agg #[Value.int IntKind.i64 a_0, Value.int IntKind.i64 a_1, Value.int IntKind.i64 a_2], Value.agg #[Value.int IntKind.i64 b_0, Value.int IntKind.i64 b_1, Value.int IntKind.i64 b_2]]) w R :=
 fn_sound (H := h49) (fn := Go.Proofs.Tryz.f49) (by kernel_rfl) (by kernel_rfl) (by kernel_rfl) ((f49_eq a_0 a_1 a_2 b_0 b_1 b_2 w R).mpr h)

/-! (manciple/share.Share).Right -/
def h66 : Hints := ⟨[1], [], [6, 12, 18, 23], [], [], [], [], [], []⟩
def f66_vc (a_0 : Int) (a_1 : Int) (a_2 : Int) (w : World) (R : Ending → World → Prop) : Prop :=
 ∀ (n1 : Nat),
 w.heap.size ≤ n1 →
 ∀ (w2 : World),
 Bel w w2 →
 Under [n1] w2 →
 Calls Proofs.Tryz.prog 80 #[Value.agg #[Value.int IntKind.i64 a_0, Value.int IntKind.i64 a_1]] w2 fun (e3 : Ending) (w4 : World) =>
 ∃ (b5 : Bool),
 e3 = Ending.returned (Value.bool b5) ∧
 Keeps [n1] w2 w4 ∧
 (b5 = true →
 (decide (a_0 ≤ 9007199254740992) = true →
 (decide (a_1 ≤ 9007199254740992) = true → (decide (a_2 ≥ 1) = true → R (Ending.returned (Value.bool (decide (a_2 ≤ 1000)))) w4) ∧ (decide (a_2 ≥ 1) = false → R (Ending.returned (Value.bool false)) w4)) ∧
 (decide (a_1 ≤ 9007199254740992) = false → R (Ending.returned (Value.bool false)) w4)) ∧
 (decide (a_0 ≤ 9007199254740992) = false → R (Ending.returned (Value.bool false)) w4)) ∧
 (b5 = false → R (Ending.returned (Value.bool false)) w4)
theorem f66_eq (a_0 : Int) (a_1 : Int) (a_2 : Int) (w : World) (R : Ending → World → Prop) : (fnF Go.Proofs.Tryz.prog h66 Go.Proofs.Tryz.f66 [Value.agg #[Value.int IntKind.i64 a_0, Value.int IntKind.i64 a_1, Value.int IntKind.i64 a_2]] w R).den = f66_vc a_0 a_1 a_2 w R := by kernel_rfl
theorem f66_calls (a_0 : Int) (a_1 : Int) (a_2 : Int) (w : World) (R : Ending → World → Prop) (h : f66_vc a_0 a_1 a_2 w R) : Calls Go.Proofs.Tryz.prog 66 (List.toArray [Value.agg #[Value.int IntKind.i64 a_0, Value.int IntKind.i64 a_1, Value.int IntKind.i64 a_2]]) w R :=
 fn_sound (H := h66) (fn := Go.Proofs.Tryz.f66) (by kernel_rfl) (by kernel_rfl) (by kernel_rfl) ((f66_eq a_0 a_1 a_2 w R).mpr h)

/-! (manciple/share.Share).cross -/
def h67 : Hints := ⟨[2, 3, 4], [], [], [], [], [], [], [], []⟩
def f67_vc (a_0 : Int) (a_1 : Int) (a_2 : Int) (b_0 : Int) (b_1 : Int) (b_2 : Int) (w : World) (R : Ending → World → Prop) : Prop :=
 ∀ (n1 : Nat),
 w.heap.size ≤ n1 →
 ∀ (n2 : Nat),
 w.heap.size ≤ n2 →
 ∀ (n3 : Nat),
 w.heap.size ≤ n3 →
 ∀ (w4 : World),
 Bel w w4 →
 Under [n1, n2, n3] w4 →
 Calls Proofs.Tryz.prog 81 #[Value.int IntKind.u64 (IntKind.u64.wrap a_0), Value.int IntKind.u64 (IntKind.u64.wrap (IntKind.u64.wrap b_1 * IntKind.u64.wrap b_2))] w4 fun (e5 : Ending) (w6 : World) =>
 ∃ (x7 : Int),
 ∃ (x8 : Int),
 e5 = Ending.returned (Value.agg #[Value.int IntKind.u64 x7, Value.int IntKind.u64 x8]) ∧
 Keeps [n1, n2, n3] w4 w6 ∧ ∀ (w9 : World), Evo [n3] w6 w9 → Under [n1, n2, n3] w9 → R (Ending.returned (Value.agg #[Value.int IntKind.u64 x7, Value.int IntKind.u64 x8])) w9
theorem f67_eq (a_0 : Int) (a_1 : Int) (a_2 : Int) (b_0 : Int) (b_1 : Int) (b_2 : Int) (w : World) (R : Ending → World → Prop) : (fnF Go.Proofs.Tryz.prog h67 Go.Proofs.Tryz.f67 [Value.agg #[Value.int IntKind.i64 a_0, Value.int IntKind.i64 a_1, Value.int IntKind.i64 a_2], Value.agg #[Value.int IntKind.i64 b_0, Value.int IntKind.i64 b_1, Value.int IntKind.i64 b_2]] w R).den = f67_vc a_0 a_1 a_2 b_0 b_1 b_2 w R := by kernel_rfl
theorem f67_calls (a_0 : Int) (a_1 : Int) (a_2 : Int) (b_0 : Int) (b_1 : Int) (b_2 : Int) (w : World) (R : Ending → World → Prop) (h : f67_vc a_0 a_1 a_2 b_0 b_1 b_2 w R) : Calls Go.Proofs.Tryz.prog 67 (List.toArray [Value.agg #[Value.int IntKind.i64 a_0, Value.int IntKind.i64 a_1, Value.int IntKind.i64 a_2], Value.agg #[Value.int IntKind.i64 b_0, Value.int IntKind.i64 b_1, Value.int IntKind.i64 b_2]]) w R :=
 fn_sound (H := h67) (fn := Go.Proofs.Tryz.f67) (by kernel_rfl) (by kernel_rfl) (by kernel_rfl) ((f67_eq a_0 a_1 a_2 b_0 b_1 b_2 w R).mpr h)

/-! (manciple/wide.Wide).Cmp -/
def h68 : Hints := ⟨[2, 3], [], [5, 9, 20], [], [], [], [], [], []⟩
def f68_vc (a_0 : Int) (a_1 : Int) (b_0 : Int) (b_1 : Int) (w : World) (R : Ending → World → Prop) : Prop :=
 ∀ (n1 : Nat),
 w.heap.size ≤ n1 →
 ∀ (n2 : Nat),
 w.heap.size ≤ n2 →
 ((a_0 == b_0 && (a_1 == b_1 && true)) = true → ∀ (w3 : World), Bel w w3 → Under [n1, n2] w3 → R (Ending.returned (Value.int IntKind.i64 0)) w3) ∧
 ((a_0 == b_0 && (a_1 == b_1 && true)) = false →
 (decide (a_0 < b_0) = true → ∀ (w4 : World), Bel w w4 → Under [n1, n2] w4 → R (Ending.returned (Value.int IntKind.i64 (-1))) w4) ∧
 (decide (a_0 < b_0) = false →
 ((a_0 == b_0) = true →
 (decide (a_1 < b_1) = true → ∀ (w5 : World), Bel w w5 → Under [n1, n2] w5 → R (Ending.returned (Value.int IntKind.i64 (-1))) w5) ∧
 (decide (a_1 < b_1) = false → ∀ (w6 : World), Bel w w6 → Under [n1, n2] w6 → R (Ending.returned (Value.int IntKind.i64 1)) w6)) ∧
 ((a_0 == b_0) = false → ∀ (w7 : World), Bel w w7 → Under [n1, n2] w7 → R (Ending.returned (Value.int IntKind.i64 1)) w7)))
theorem f68_eq (a_0 : Int) (a_1 : Int) (b_0 : Int) (b_1 : Int) (w : World) (R : Ending → World → Prop) : (fnF Go.Proofs.Tryz.prog h68 Go.Proofs.Tryz.f68 [Value.agg #[Value.int IntKind.u64 a_0, Value.int IntKind.u64 a_1], Value.agg #[Value.int IntKind.u64 b_0, Value.int IntKind.u64 b_1]] w R).den = f68_vc a_0 a_1 b_0 b_1 w R := by kernel_rfl
theorem f68_calls (a_0 : Int) (a_1 : Int) (b_0 : Int) (b_1 : Int) (w : World) (R : Ending → World → Prop) (h : f68_vc a_0 a_1 b_0 b_1 w R) : Calls Go.Proofs.Tryz.prog 68 (List.toArray [Value.agg #[Value.int IntKind.u64 a_0, Value.int IntKind.u64 a_1], Value.agg #[Value.int IntKind.u64 b_0, Value.int IntKind.u64 b_1]]) w R :=
 fn_sound (H := h68) (fn := Go.Proofs.Tryz.f68) (by kernel_rfl) (by kernel_rfl) (by kernel_rfl) ((f68_eq a_0 a_1 b_0 b_1 w R).mpr h)

/-! manciple/ratio.Right -/
def h80 : Hints := ⟨[1], [], [6], [], [], [], [], [], []⟩
def f80_vc (f_0 : Int) (f_1 : Int) (w : World) (R : Ending → World → Prop) : Prop :=
 ∀ (n1 : Nat),
 w.heap.size ≤ n1 →
 (decide (f_0 ≥ 0) = true → ∀ (w2 : World), Bel w w2 → Under [n1] w2 → R (Ending.returned (Value.bool (decide (f_1 ≥ 1)))) w2) ∧
 (decide (f_0 ≥ 0) = false → ∀ (w3 : World), Bel w w3 → Under [n1] w3 → R (Ending.returned (Value.bool false)) w3)
theorem f80_eq (f_0 : Int) (f_1 : Int) (w : World) (R : Ending → World → Prop) : (fnF Go.Proofs.Tryz.prog h80 Go.Proofs.Tryz.f80 [Value.agg #[Value.int IntKind.i64 f_0, Value.int IntKind.i64 f_1]] w R).den = f80_vc f_0 f_1 w R := by kernel_rfl
theorem f80_calls (f_0 : Int) (f_1 : Int) (w : World) (R : Ending → World → Prop) (h : f80_vc f_0 f_1 w R) : Calls Go.Proofs.Tryz.prog 80 (List.toArray [Value.agg #[Value.int IntKind.i64 f_0, Value.int IntKind.i64 f_1]]) w R :=
 fn_sound (H := h80) (fn := Go.Proofs.Tryz.f80) (by kernel_rfl) (by kernel_rfl) (by kernel_rfl) ((f80_eq f_0 f_1 w R).mpr h)

/-! manciple/wide.Mul -/
def h81 : Hints := ⟨[4], [], [], [], [], [], [], [], []⟩
def f81_vc (a : Int) (b : Int) (w : World) (R : Ending → World → Prop) : Prop :=
 ∀ (n1 : Nat),
 w.heap.size ≤ n1 →
 ∀ (w2 : World),
 Evo [n1] w w2 →
 Under [n1] w2 →
 R
 (Ending.returned
 (Value.agg
 #[Value.int IntKind.u64
 (IntKind.u64.wrap
 (IntKind.u64.wrap
 (IntKind.u64.wrap (a.fdiv 4294967296 * b.fdiv 4294967296) +
 (IntKind.u64.wrap
 (IntKind.u64.wrap (a.fdiv 4294967296 * IntKind.u64.wrap (↑(BitVec.ofInt 64 b &&& BitVec.ofInt 64 4294967295).toNat : Int)) +
 (IntKind.u64.wrap (IntKind.u64.wrap (↑(BitVec.ofInt 64 a &&& BitVec.ofInt 64 4294967295).toNat : Int) * IntKind.u64.wrap (↑(BitVec.ofInt 64 b &&& BitVec.ofInt 64 4294967295).toNat : Int))).fdiv
 4294967296)).fdiv
 4294967296) +
 (IntKind.u64.wrap
 (IntKind.u64.wrap (IntKind.u64.wrap (↑(BitVec.ofInt 64 a &&& BitVec.ofInt 64 4294967295).toNat : Int) * b.fdiv 4294967296) +
 IntKind.u64.wrap
 (↑(BitVec.ofInt 64
 (IntKind.u64.wrap
 (IntKind.u64.wrap (a.fdiv 4294967296 * IntKind.u64.wrap (↑(BitVec.ofInt 64 b &&& BitVec.ofInt 64 4294967295).toNat : Int)) +
 (IntKind.u64.wrap
 (IntKind.u64.wrap (↑(BitVec.ofInt 64 a &&& BitVec.ofInt 64 4294967295).toNat : Int) * IntKind.u64.wrap (↑(BitVec.ofInt 64 b &&& BitVec.ofInt 64 4294967295).toNat : Int))).fdiv
 4294967296)) &&&
 BitVec.ofInt 64 4294967295).toNat :
 Int))).fdiv
 4294967296)),
 Value.int IntKind.u64
 (IntKind.u64.wrap
 (IntKind.u64.wrap
 (IntKind.u64.wrap
 (IntKind.u64.wrap (IntKind.u64.wrap (↑(BitVec.ofInt 64 a &&& BitVec.ofInt 64 4294967295).toNat : Int) * b.fdiv 4294967296) +
 IntKind.u64.wrap
 (↑(BitVec.ofInt 64
 (IntKind.u64.wrap
 (IntKind.u64.wrap (a.fdiv 4294967296 * IntKind.u64.wrap (↑(BitVec.ofInt 64 b &&& BitVec.ofInt 64 4294967295).toNat : Int)) +
 (IntKind.u64.wrap
 (IntKind.u64.wrap (↑(BitVec.ofInt 64 a &&& BitVec.ofInt 64 4294967295).toNat : Int) * IntKind.u64.wrap (↑(BitVec.ofInt 64 b &&& BitVec.ofInt 64 4294967295).toNat : Int))).fdiv
 4294967296)) &&&
 BitVec.ofInt 64 4294967295).toNat :
 Int)) *
 4294967296) +
 IntKind.u64.wrap
 (↑(BitVec.ofInt 64 (IntKind.u64.wrap (IntKind.u64.wrap (↑(BitVec.ofInt 64 a &&& BitVec.ofInt 64 4294967295).toNat : Int) * IntKind.u64.wrap (↑(BitVec.ofInt 64 b &&& BitVec.ofInt 64 4294967295).toNat : Int))) &&&
 BitVec.ofInt 64 4294967295).toNat :
 Int)))]))
 w2
theorem f81_eq (a : Int) (b : Int) (w : World) (R : Ending → World → Prop) : (fnF Go.Proofs.Tryz.prog h81 Go.Proofs.Tryz.f81 [Value.int IntKind.u64 a, Value.int IntKind.u64 b] w R).den = f81_vc a b w R := by kernel_rfl
theorem f81_calls (a : Int) (b : Int) (w : World) (R : Ending → World → Prop) (h : f81_vc a b w R) : Calls Go.Proofs.Tryz.prog 81 (List.toArray [Value.int IntKind.u64 a, Value.int IntKind.u64 b]) w R :=
 fn_sound (H := h81) (fn := Go.Proofs.Tryz.f81) (by kernel_rfl) (by kernel_rfl) (by kernel_rfl) ((f81_eq a b w R).mpr h)

/-! manciple/share.Of -/
def h71 : Hints := ⟨[3, 4, 6, 8], [], [], [], [], [], [], [], []⟩
def f71_vc (a_0 : Int) (a_1 : Int) (a_2 : Int) (a_3 : Int) (total_0 : Int) (total_1 : Int) (total_2 : Int) (total_3 : Int) (weight : Int) (w : World) (R : Ending → World → Prop) : Prop :=
 ∀ (n1 : Nat),
 w.heap.size ≤ n1 →
 ∀ (n2 : Nat),
 w.heap.size ≤ n2 →
 ∀ (n3 : Nat),
 w.heap.size ≤ n3 →
 ∀ (w4 : World),
 Bel w w4 →
 Under [n1, n2, n3] w4 →
 Calls Proofs.Tryz.prog 83
 #[Value.agg #[Value.int IntKind.i64 a_0, Value.int IntKind.i64 a_1, Value.int IntKind.i64 a_2, Value.int IntKind.i64 a_3],
 Value.agg #[Value.int IntKind.i64 total_0, Value.int IntKind.i64 total_1, Value.int IntKind.i64 total_2, Value.int IntKind.i64 total_3]]
 w4 fun (e5 : Ending) (w6 : World) =>
 ∃ (x7 : Int),
 ∃ (x8 : Int),
 ∃ (x9 : Int),
 e5 = Ending.returned (Value.tuple #[Value.int IntKind.i64 x7, Value.agg #[Value.int IntKind.i64 x8, Value.int IntKind.i64 x9]]) ∧
 Keeps [n1, n2, n3] w4 w6 ∧
 ∀ (n10 : Nat),
 w6.heap.size ≤ n10 →
 ∀ (w11 : World), Evo [n3, n10] w6 w11 → Under [n1, n2, n3, n10] w11 → R (Ending.returned (Value.agg #[Value.int IntKind.i64 x8, Value.int IntKind.i64 x9, Value.int IntKind.i64 weight])) w11
theorem f71_eq (a_0 : Int) (a_1 : Int) (a_2 : Int) (a_3 : Int) (total_0 : Int) (total_1 : Int) (total_2 : Int) (total_3 : Int) (weight : Int) (w : World) (R : Ending → World → Prop) : (fnF Go.Proofs.Tryz.prog h71 Go.Proofs.Tryz.f71 [Value.agg #[Value.int IntKind.i64 a_0, Value.int IntKind.i64 a_1, Value.int IntKind.i64 a_2, Value.int IntKind.i64 a_3],
 Value.agg #[Value.int IntKind.i64 total_0, Value.int IntKind.i64 total_1, Value.int IntKind.i64 total_2, Value.int IntKind.i64 total_3], Value.int IntKind.i64 weight] w R).den = f71_vc a_0 a_1 a_2 a_3 total_0 total_1 total_2 total_3 weight w R := by kernel_rfl
theorem f71_calls (a_0 : Int) (a_1 : Int) (a_2 : Int) (a_3 : Int) (total_0 : Int) (total_1 : Int) (total_2 : Int) (total_3 : Int) (weight : Int) (w : World) (R : Ending → World → Prop) (h : f71_vc a_0 a_1 a_2 a_3 total_0 total_1 total_2 total_3 weight w R) : Calls Go.Proofs.Tryz.prog 71 (List.toArray [Value.agg #[Value.int IntKind.i64 a_0, Value.int IntKind.i64 a_1, Value.int IntKind.i64 a_2, Value.int IntKind.i64 a_3],
 Value.agg #[Value.int IntKind.i64 total_0, Value.int IntKind.i64 total_1, Value.int IntKind.i64 total_2, Value.int IntKind.i64 total_3], Value.int IntKind.i64 weight]) w R :=
 fn_sound (H := h71) (fn := Go.Proofs.Tryz.f71) (by kernel_rfl) (by kernel_rfl) (by kernel_rfl) ((f71_eq a_0 a_1 a_2 a_3 total_0 total_1 total_2 total_3 weight w R).mpr h)

/-! manciple/ratio.Cmp -/
def h91 : Hints := ⟨[2, 3], [], [12, 8], [(3, [0, 1, 2, 3, 4, 5, 7, 8, 9, 10, 11, 12, 6, 13, 14, 15])], [], [], [], [], []⟩
def f91_vc (a_0 : Int) (a_1 : Int) (b_0 : Int) (b_1 : Int) (w : World) (R : Ending → World → Prop) : Prop :=
 ∀ (n1 : Nat),
 w.heap.size ≤ n1 →
 ∀ (n2 : Nat),
 w.heap.size ≤ n2 →
 ∀ (w3 : World),
 Bel w w3 →
 Under [n1, n2] w3 →
 Calls Proofs.Tryz.prog 80 #[Value.agg #[Value.int IntKind.i64 a_0, Value.int IntKind.i64 a_1]] w3 fun (e4 : Ending) (w5 : World) =>
 ∃ (b6 : Bool),
 e4 = Ending.returned (Value.bool b6) ∧
 Keeps [n1, n2] w3 w5 ∧
 ((!b6) = true → R (Ending.returned (Value.int IntKind.i64 0)) w5) ∧
 ((!b6) = false →
 Calls Proofs.Tryz.prog 80 #[Value.agg #[Value.int IntKind.i64 b_0, Value.int IntKind.i64 b_1]] w5 fun (e7 : Ending) (w8 : World) =>
 ∃ (b9 : Bool),
 e7 = Ending.returned (Value.bool b9) ∧
 Keeps [n1, n2] w5 w8 ∧
 ((!b9) = true → R (Ending.returned (Value.int IntKind.i64 0)) w8) ∧
 ((!b9) = false →
 ∀ (w10 : World),
 Bel w8 w10 →
 Under [n1, n2] w10 →
 Calls Proofs.Tryz.prog 81 #[Value.int IntKind.u64 (IntKind.u64.wrap a_0), Value.int IntKind.u64 (IntKind.u64.wrap b_1)] w10 fun (e11 : Ending) (w12 : World) =>
 ∃ (x13 : Int),
 ∃ (x14 : Int),
 e11 = Ending.returned (Value.agg #[Value.int IntKind.u64 x13, Value.int IntKind.u64 x14]) ∧
 Keeps [n1, n2] w10 w12 ∧
 Calls Proofs.Tryz.prog 81 #[Value.int IntKind.u64 (IntKind.u64.wrap b_0), Value.int IntKind.u64 (IntKind.u64.wrap a_1)] w12 fun (e15 : Ending) (w16 : World) =>
 ∃ (x17 : Int),
 ∃ (x18 : Int),
 e15 = Ending.returned (Value.agg #[Value.int IntKind.u64 x17, Value.int IntKind.u64 x18]) ∧
 Keeps [n1, n2] w12 w16 ∧
 Calls Proofs.Tryz.prog 68 #[Value.agg #[Value.int IntKind.u64 x13, Value.int IntKind.u64 x14], Value.agg #[Value.int IntKind.u64 x17, Value.int IntKind.u64 x18]] w16
 fun (e19 : Ending) (w20 : World) =>
 ∃ (x21 : Int), e19 = Ending.returned (Value.int IntKind.i64 x21) ∧ Keeps [n1, n2] w16 w20 ∧ R (Ending.returned (Value.int IntKind.i64 x21)) w20))
theorem f91_eq (a_0 : Int) (a_1 : Int) (b_0 : Int) (b_1 : Int) (w : World) (R : Ending → World → Prop) : (fnF Go.Proofs.Tryz.prog h91 Go.Proofs.Tryz.f91 [Value.agg #[Value.int IntKind.i64 a_0, Value.int IntKind.i64 a_1], Value.agg #[Value.int IntKind.i64 b_0, Value.int IntKind.i64 b_1]] w R).den = f91_vc a_0 a_1 b_0 b_1 w R := by kernel_rfl
theorem f91_calls (a_0 : Int) (a_1 : Int) (b_0 : Int) (b_1 : Int) (w : World) (R : Ending → World → Prop) (h : f91_vc a_0 a_1 b_0 b_1 w R) : Calls Go.Proofs.Tryz.prog 91 (List.toArray [Value.agg #[Value.int IntKind.i64 a_0, Value.int IntKind.i64 a_1], Value.agg #[Value.int IntKind.i64 b_0, Value.int IntKind.i64 b_1]]) w R :=
 fn_sound (H := h91) (fn := Go.Proofs.Tryz.f91) (by kernel_rfl) (by kernel_rfl) (by kernel_rfl) ((f91_eq a_0 a_1 b_0 b_1 w R).mpr h)

end Vcz

/- The formulas of functions, printed by a program (VcTool.lean): each is what the generator's formula comes to, by the kernel's reckoning; whoever proves one has the function's contract. -/
set_option maxRecDepth 100000
set_option maxHeartbeats 1000000
set_option linter.unusedVariables false
namespace Vcz
open Go Go.Vc Go.RowKit
/-! (manciple/sums.Sums).Add -/
def h62 : Hints := ⟨[2, 3, 4], [20, 23, 26], [14, 30, 10], [(6, [0, 1, 2, 3, 4, 5, 6, 7, 8])], [(4, 5)], [], [], [], []⟩
def f62_vc (a_0 : Int) (a_1 : Int) (a_2 : Int) (a_3 : Int) (b_0 : Int) (b_1 : Int) (b_2 : Int) (b_3 : Int) (w : World) (R : Ending → World → Prop) : Prop :=
 ∀ (n1 : Nat),
 w.heap.size ≤ n1 →
 ∀ (n2 : Nat),
 w.heap.size ≤ n2 →
 ∀ (n3 : Nat),
 w.heap.size ≤ n3 →
 ∀ (w4 : World),
 Bel w w4 →
 Under [n1, n2, n3] w4 →
 Calls Proofs.Tryz.prog 74 #[Value.agg #[Value.int IntKind.i64 a_0, Value.int IntKind.i64 a_1, Value.int IntKind.i64 a_2, Value.int IntKind.i64 a_3]] w4 fun (e5 : Ending) (w6 : World) =>
 ∃ (b7 : Bool),
 e5 = Ending.returned (Value.bool b7) ∧
 Keeps [n1, n2, n3] w4 w6 ∧
 ((!b7) = true →
 ∀ (w8 : World),
 Evo [n3] w6 w8 →
 Under [n1, n2, n3] w8 → R (Ending.returned (Value.tuple #[Value.agg #[Value.int IntKind.i64 0, Value.int IntKind.i64 0, Value.int IntKind.i64 0, Value.int IntKind.i64 0], Value.bool false])) w8) ∧
 ((!b7) = false →
 Calls Proofs.Tryz.prog 74 #[Value.agg #[Value.int IntKind.i64 b_0, Value.int IntKind.i64 b_1, Value.int IntKind.i64 b_2, Value.int IntKind.i64 b_3]] w6 fun (e9 : Ending) (w10 : World) =>
 ∃ (b11 : Bool),
 e9 = Ending.returned (Value.bool b11) ∧
 Keeps [n1, n2, n3] w6 w10 ∧
 ((!b11) = true →
 ∀ (w12 : World),
 Evo [n3] w10 w12 →
 Under [n1, n2, n3] w12 →
 R (Ending.returned (Value.tuple #[Value.agg #[Value.int IntKind.i64 0, Value.int IntKind.i64 0, Value.int IntKind.i64 0, Value.int IntKind.i64 0], Value.bool false])) w12) ∧
 ((!b11) = false →
 ∀ (w13 : World),
 Evo [n1, n1, n1, n1] w10 w13 →
 Under [n1, n2, n3] w13 →
 Calls Proofs.Tryz.prog 74
 #[Value.agg
 #[Value.int IntKind.i64 (IntKind.i64.wrap (a_0 + b_0)), Value.int IntKind.i64 (IntKind.i64.wrap (a_1 + b_1)), Value.int IntKind.i64 (IntKind.i64.wrap (a_2 + b_2)),
 Value.int IntKind.i64 (IntKind.i64.wrap (a_3 + b_3))]]
 w13 fun (e14 : Ending) (w15 : World) =>
 ∃ (b16 : Bool),
 e14 = Ending.returned (Value.bool b16) ∧
 Keeps [n1, n2, n3] w13 w15 ∧
 ((!b16) = true →
 ∀ (w17 : World),
 Evo [n3] w15 w17 →
 Under [n1, n2, n3] w17 →
 R (Ending.returned (Value.tuple #[Value.agg #[Value.int IntKind.i64 0, Value.int IntKind.i64 0, Value.int IntKind.i64 0, Value.int IntKind.i64 0], Value.bool false])) w17) ∧
 ((!b16) = false →
 ∀ (w18 : World),
 Evo [n3] w15 w18 →
 Under [n1, n2, n3] w18 →
 R
 (Ending.returned
 (Value.tuple
 #[Value.agg
 #[Value.int IntKind.i64 (IntKind.i64.wrap (a_0 + b_0)), Value.int IntKind.i64 (IntKind.i64.wrap (a_1 + b_1)), Value.int IntKind.i64 (IntKind.i64.wrap (a_2 + b_2)),
 Value.int IntKind.i64 (IntKind.i64.wrap (a_3 + b_3))],
 Value.bool true]))
 w18)))
theorem f62_eq (a_0 : Int) (a_1 : Int) (a_2 : Int) (a_3 : Int) (b_0 : Int) (b_1 : Int) (b_2 : Int) (b_3 : Int) (w : World) (R : Ending → World → Prop) : (fnF Go.Proofs.Tryz.prog h62 Go.Proofs.Tryz.f62 [Value.agg #[Value.int IntKind.i64 a_0, Value.int IntKind.i64 a_1, Value.int IntKind.i64 a_2, Value.int IntKind.i64 a_3],
 Value.agg #[Value.int IntKind.i64 b_0, Value.int IntKind.i64 b_1, Value.int IntKind.i64 b_2, Value.int IntKind.i64 b_3]] w R).den = f62_vc a_0 a_1 a_2 a_3 b_0 b_1 b_2 b_3 w R := by kernel_rfl
theorem f62_calls (a_0 : Int) (a_1 : Int) (a_2 : Int) (a_3 : Int) (b_0 : Int) (b_1 : Int) (b_2 : Int) (b_3 : Int) (w : World) (R : Ending → World → Prop) (h : f62_vc a_0 a_1 a_2 a_3 b_0 b_1 b_2 b_3 w R) : Calls Go.Proofs.Tryz.prog 62 (List.toArray [Value.agg #[Value.int IntKind.i64 a_0, Value.int IntKind.i64 a_1, Value.int IntKind.i64 a_2, Value.int IntKind.i64 a_3],
 Value.agg #[Value.int IntKind.i64 b_0, Value.int IntKind.i64 b_1, Value.int IntKind.i64 b_2, Value.int IntKind.i64 b_3]]) w R :=
 fn_sound (H := h62) (fn := Go.Proofs.Tryz.f62) (by kernel_rfl) (by kernel_rfl) (by kernel_rfl) ((f62_eq a_0 a_1 a_2 a_3 b_0 b_1 b_2 b_3 w R).mpr h)

/-! (manciple/sums.Sums).Sub -/
def h59 : Hints := ⟨[2, 3, 4], [16, 19, 22], [10], [(6, [0, 1, 2, 3, 4, 5, 6, 7, 8])], [(4, 5)], [], [], [], []⟩
def f59_vc (a_0 : Int) (a_1 : Int) (a_2 : Int) (a_3 : Int) (b_0 : Int) (b_1 : Int) (b_2 : Int) (b_3 : Int) (w : World) (R : Ending → World → Prop) : Prop :=
 ∀ (n1 : Nat),
 w.heap.size ≤ n1 →
 ∀ (n2 : Nat),
 w.heap.size ≤ n2 →
 ∀ (n3 : Nat),
 w.heap.size ≤ n3 →
 ∀ (w4 : World),
 Bel w w4 →
 Under [n1, n2, n3] w4 →
 Calls Proofs.Tryz.prog 73
 #[Value.agg #[Value.int IntKind.i64 a_0, Value.int IntKind.i64 a_1, Value.int IntKind.i64 a_2, Value.int IntKind.i64 a_3],
 Value.agg #[Value.int IntKind.i64 b_0, Value.int IntKind.i64 b_1, Value.int IntKind.i64 b_2, Value.int IntKind.i64 b_3]]
 w4 fun (e5 : Ending) (w6 : World) =>
 ∃ (b7 : Bool),
 e5 = Ending.returned (Value.bool b7) ∧
 Keeps [n1, n2, n3] w4 w6 ∧
 ((!b7) = true →
 ∀ (w8 : World),
 Evo [n3] w6 w8 →
 Under [n1, n2, n3] w8 → R (Ending.returned (Value.tuple #[Value.agg #[Value.int IntKind.i64 0, Value.int IntKind.i64 0, Value.int IntKind.i64 0, Value.int IntKind.i64 0], Value.bool false])) w8) ∧
 ((!b7) = false →
 ∀ (w9 : World),
 Evo [n3, n1, n1, n1, n1] w6 w9 →
 Under [n1, n2, n3] w9 →
 R
 (Ending.returned
 (Value.tuple
 #[Value.agg
 #[Value.int IntKind.i64 (IntKind.i64.wrap (a_0 - b_0)), Value.int IntKind.i64 (IntKind.i64.wrap (a_1 - b_1)), Value.int IntKind.i64 (IntKind.i64.wrap (a_2 - b_2)),
 Value.int IntKind.i64 (IntKind.i64.wrap (a_3 - b_3))],
 Value.bool true]))
 w9)
theorem f59_eq (a_0 : Int) (a_1 : Int) (a_2 : Int) (a_3 : Int) (b_0 : Int) (b_1 : Int) (b_2 : Int) (b_3 : Int) (w : World) (R : Ending → World → Prop) : (fnF Go.Proofs.Tryz.prog h59 Go.Proofs.Tryz.f59 [Value.agg #[Value.int IntKind.i64 a_0, Value.int IntKind.i64 a_1, Value.int IntKind.i64 a_2, Value.int IntKind.i64 a_3],
 Value.agg #[Value.int IntKind.i64 b_0, Value.int IntKind.i64 b_1, Value.int IntKind.i64 b_2, Value.int IntKind.i64 b_3]] w R).den = f59_vc a_0 a_1 a_2 a_3 b_0 b_1 b_2 b_3 w R := by kernel_rfl
theorem f59_calls (a_0 : Int) (a_1 : Int) (a_2 : Int) (a_3 : Int) (b_0 : Int) (b_1 : Int) (b_2 : Int) (b_3 : Int) (w : World) (R : Ending → World → Prop) (h : f59_vc a_0 a_1 a_2 a_3 b_0 b_1 b_2 b_3 w R) : Calls Go.Proofs.Tryz.prog 59 (List.toArray [Value.agg #[Value.int IntKind.i64 a_0, Value.int IntKind.i64 a_1, Value.int IntKind.i64 a_2, Value.int IntKind.i64 a_3],
 Value.agg #[Value.int IntKind.i64 b_0, Value.int IntKind.i64 b_1, Value.int IntKind.i64 b_2, Value.int IntKind.i64 b_3]]) w R :=
 fn_sound (H := h59) (fn := Go.Proofs.Tryz.f59) (by kernel_rfl) (by kernel_rfl) (by kernel_rfl) ((f59_eq a_0 a_1 a_2 a_3 b_0 b_1 b_2 b_3 w R).mpr h)

/-! (manciple/sums.Sums).Right -/
def h74 : Hints := ⟨[1], [8, 13], [16, 11], [], [(2, 5)], [], [], [], []⟩
def f74_vc (a_0 : Int) (a_1 : Int) (a_2 : Int) (a_3 : Int) (w : World) (R : Ending → World → Prop) : Prop :=
 ∀ (n1 : Nat),
 w.heap.size ≤ n1 →
 (decide (a_0 < 0) = true → ∀ (w2 : World), Bel w w2 → Under [n1] w2 → R (Ending.returned (Value.bool false)) w2) ∧
 (decide (a_0 < 0) = false →
 (decide (a_0 > 1152921504606846976) = true → ∀ (w3 : World), Bel w w3 → Under [n1] w3 → R (Ending.returned (Value.bool false)) w3) ∧
 (decide (a_0 > 1152921504606846976) = false →
 (decide (a_1 < 0) = true → ∀ (w4 : World), Bel w w4 → Under [n1] w4 → R (Ending.returned (Value.bool false)) w4) ∧
 (decide (a_1 < 0) = false →
 (decide (a_1 > 1152921504606846976) = true → ∀ (w5 : World), Bel w w5 → Under [n1] w5 → R (Ending.returned (Value.bool false)) w5) ∧
 (decide (a_1 > 1152921504606846976) = false →
 (decide (a_2 < 0) = true → ∀ (w6 : World), Bel w w6 → Under [n1] w6 → R (Ending.returned (Value.bool false)) w6) ∧
 (decide (a_2 < 0) = false →
 (decide (a_2 > 1152921504606846976) = true → ∀ (w7 : World), Bel w w7 → Under [n1] w7 → R (Ending.returned (Value.bool false)) w7) ∧
 (decide (a_2 > 1152921504606846976) = false →
 (decide (a_3 < 0) = true → ∀ (w8 : World), Bel w w8 → Under [n1] w8 → R (Ending.returned (Value.bool false)) w8) ∧
 (decide (a_3 < 0) = false →
 (decide (a_3 > 1152921504606846976) = true → ∀ (w9 : World), Bel w w9 → Under [n1] w9 → R (Ending.returned (Value.bool false)) w9) ∧
 (decide (a_3 > 1152921504606846976) = false → ∀ (w10 : World), Bel w w10 → Under [n1] w10 → R (Ending.returned (Value.bool true)) w10))))))))
theorem f74_eq (a_0 : Int) (a_1 : Int) (a_2 : Int) (a_3 : Int) (w : World) (R : Ending → World → Prop) : (fnF Go.Proofs.Tryz.prog h74 Go.Proofs.Tryz.f74 [Value.agg #[Value.int IntKind.i64 a_0, Value.int IntKind.i64 a_1, Value.int IntKind.i64 a_2, Value.int IntKind.i64 a_3]] w R).den = f74_vc a_0 a_1 a_2 a_3 w R := by kernel_rfl
theorem f74_calls (a_0 : Int) (a_1 : Int) (a_2 : Int) (a_3 : Int) (w : World) (R : Ending → World → Prop) (h : f74_vc a_0 a_1 a_2 a_3 w R) : Calls Go.Proofs.Tryz.prog 74 (List.toArray [Value.agg #[Value.int IntKind.i64 a_0, Value.int IntKind.i64 a_1, Value.int IntKind.i64 a_2, Value.int IntKind.i64 a_3]]) w R :=
 fn_sound (H := h74) (fn := Go.Proofs.Tryz.f74) (by kernel_rfl) (by kernel_rfl) (by kernel_rfl) ((f74_eq a_0 a_1 a_2 a_3 w R).mpr h)

/-! (manciple/sums.Sums).Holds -/
def h73 : Hints := ⟨[2, 3], [10, 13], [15, 19], [(4, [0, 1, 2, 3, 4, 5, 6])], [(2, 5)], [], [], [], []⟩
def f73_vc (a_0 : Int) (a_1 : Int) (a_2 : Int) (a_3 : Int) (b_0 : Int) (b_1 : Int) (b_2 : Int) (b_3 : Int) (w : World) (R : Ending → World → Prop) : Prop :=
 ∀ (n1 : Nat),
 w.heap.size ≤ n1 →
 ∀ (n2 : Nat),
 w.heap.size ≤ n2 →
 (decide (a_0 < b_0) = true → ∀ (w3 : World), Bel w w3 → Under [n1, n2] w3 → R (Ending.returned (Value.bool false)) w3) ∧
 (decide (a_0 < b_0) = false →
 (decide (a_1 < b_1) = true → ∀ (w4 : World), Bel w w4 → Under [n1, n2] w4 → R (Ending.returned (Value.bool false)) w4) ∧
 (decide (a_1 < b_1) = false →
 (decide (a_2 < b_2) = true → ∀ (w5 : World), Bel w w5 → Under [n1, n2] w5 → R (Ending.returned (Value.bool false)) w5) ∧
 (decide (a_2 < b_2) = false →
 (decide (a_3 < b_3) = true → ∀ (w6 : World), Bel w w6 → Under [n1, n2] w6 → R (Ending.returned (Value.bool false)) w6) ∧
 (decide (a_3 < b_3) = false →
 ∀ (w7 : World),
 Bel w w7 →
 Under [n1, n2] w7 →
 Calls Proofs.Tryz.prog 74 #[Value.agg #[Value.int IntKind.i64 a_0, Value.int IntKind.i64 a_1, Value.int IntKind.i64 a_2, Value.int IntKind.i64 a_3]] w7 fun (e8 : Ending) (w9 : World) =>
 ∃ (b10 : Bool),
 e8 = Ending.returned (Value.bool b10) ∧
 Keeps [n1, n2] w7 w9 ∧
 (b10 = true →
 Calls Proofs.Tryz.prog 74 #[Value.agg #[Value.int IntKind.i64 b_0, Value.int IntKind.i64 b_1, Value.int IntKind.i64 b_2, Value.int IntKind.i64 b_3]] w9 fun (e11 : Ending) (w12 : World) =>
 ∃ (b13 : Bool), e11 = Ending.returned (Value.bool b13) ∧ Keeps [n1, n2] w9 w12 ∧ R (Ending.returned (Value.bool b13)) w12) ∧
 (b10 = false → R (Ending.returned (Value.bool false)) w9)))))
theorem f73_eq (a_0 : Int) (a_1 : Int) (a_2 : Int) (a_3 : Int) (b_0 : Int) (b_1 : Int) (b_2 : Int) (b_3 : Int) (w : World) (R : Ending → World → Prop) : (fnF Go.Proofs.Tryz.prog h73 Go.Proofs.Tryz.f73 [Value.agg #[Value.int IntKind.i64 a_0, Value.int IntKind.i64 a_1, Value.int IntKind.i64 a_2, Value.int IntKind.i64 a_3],
 Value.agg #[Value.int IntKind.i64 b_0, Value.int IntKind.i64 b_1, Value.int IntKind.i64 b_2, Value.int IntKind.i64 b_3]] w R).den = f73_vc a_0 a_1 a_2 a_3 b_0 b_1 b_2 b_3 w R := by kernel_rfl
theorem f73_calls (a_0 : Int) (a_1 : Int) (a_2 : Int) (a_3 : Int) (b_0 : Int) (b_1 : Int) (b_2 : Int) (b_3 : Int) (w : World) (R : Ending → World → Prop) (h : f73_vc a_0 a_1 a_2 a_3 b_0 b_1 b_2 b_3 w R) : Calls Go.Proofs.Tryz.prog 73 (List.toArray [Value.agg #[Value.int IntKind.i64 a_0, Value.int IntKind.i64 a_1, Value.int IntKind.i64 a_2, Value.int IntKind.i64 a_3],
 Value.agg #[Value.int IntKind.i64 b_0, Value.int IntKind.i64 b_1, Value.int IntKind.i64 b_2, Value.int IntKind.i64 b_3]]) w R :=
 fn_sound (H := h73) (fn := Go.Proofs.Tryz.f73) (by kernel_rfl) (by kernel_rfl) (by kernel_rfl) ((f73_eq a_0 a_1 a_2 a_3 b_0 b_1 b_2 b_3 w R).mpr h)

/-! manciple/sums.Dominant -/
def h83 : Hints := ⟨[2, 3, 5, 6, 9], [25, 28], [18, 43, 14, 34, 37], [(3, [0, 1, 2, 3]), (7, [0, 1, 2, 3, 4, 5, 6, 7, 8]), (11, [0, 1, 2, 3])], [(5, 5)], [], [(10, ⟨[(7, .int .i64)], [(6, .cons (.int .i64) (.cons (.int .i64) (.nil)))]⟩)], [], []⟩
def f83_vc (a_0 : Int) (a_1 : Int) (a_2 : Int) (a_3 : Int) (total_0 : Int) (total_1 : Int) (total_2 : Int) (total_3 : Int) (w : World) (R : Ending → World → Prop) : Prop :=
 ∀ (n1 : Nat),
 w.heap.size ≤ n1 →
 ∀ (n2 : Nat),
 w.heap.size ≤ n2 →
 ∀ (n3 : Nat),
 w.heap.size ≤ n3 →
 ∀ (n4 : Nat),
 w.heap.size ≤ n4 →
 ∀ (w5 : World),
 Evo [n4] w w5 →
 Under [n1, n2, n3, n4] w5 →
 Calls Proofs.Tryz.prog 74 #[Value.agg #[Value.int IntKind.i64 a_0, Value.int IntKind.i64 a_1, Value.int IntKind.i64 a_2, Value.int IntKind.i64 a_3]] w5 fun (e6 : Ending) (w7 : World) =>
 ∃ (b8 : Bool),
 e6 = Ending.returned (Value.bool b8) ∧
 Keeps [n1, n2, n3, n4] w5 w7 ∧
 ((!b8) = true → ∀ (w9 : World), Evo [n3] w7 w9 → Under [n1, n2, n3, n4] w9 → R (Ending.returned (Value.tuple #[Value.int IntKind.i64 (-1), Value.agg #[Value.int IntKind.i64 0, Value.int IntKind.i64 1]])) w9) ∧
 ((!b8) = false →
 Calls Proofs.Tryz.prog 74 #[Value.agg #[Value.int IntKind.i64 total_0, Value.int IntKind.i64 total_1, Value.int IntKind.i64 total_2, Value.int IntKind.i64 total_3]] w7 fun (e10 : Ending) (w11 : World) =>
 ∃ (b12 : Bool),
 e10 = Ending.returned (Value.bool b12) ∧
 Keeps [n1, n2, n3, n4] w7 w11 ∧
 ((!b12) = true →
 ∀ (w13 : World),
 Evo [n3] w11 w13 → Under [n1, n2, n3, n4] w13 → R (Ending.returned (Value.tuple #[Value.int IntKind.i64 (-1), Value.agg #[Value.int IntKind.i64 0, Value.int IntKind.i64 1]])) w13) ∧
 ((!b12) = false →
 ∃ (J14 : Int × Int × Int × Unit → World → Prop),
 (∀ (n15 : Nat),
 w11.heap.size ≤ n15 →
 (decide (total_0 > 0) = true →
 (true = true → ∀ (w16 : World), Evo [n4, n15] w11 w16 → Under [n1, n2, n3, n4, n15] w16 → J14 (0, a_0, total_0, ()) w16) ∧
 (true = false →
 ∀ (w17 : World),
 Evo [n15] w11 w17 →
 Under [n1, n2, n3, n4, n15] w17 →
 Calls Proofs.Tryz.prog 91 #[Value.agg #[Value.int IntKind.i64 a_0, Value.int IntKind.i64 total_0], Value.agg #[Value.int IntKind.i64 0, Value.int IntKind.i64 1]] w17
 fun (e18 : Ending) (w19 : World) =>
 ∃ (x20 : Int),
 e18 = Ending.returned (Value.int IntKind.i64 x20) ∧
 Keeps [n1, n2, n3, n4, n15] w17 w19 ∧
 (decide (x20 > 0) = true → ∀ (w21 : World), Evo [n4] w19 w21 → Under [n1, n2, n3, n4, n15] w21 → J14 (0, a_0, total_0, ()) w21) ∧
 (decide (x20 > 0) = false → J14 (-1, 0, 1, ()) w19))) ∧
 (decide (total_0 > 0) = false → ∀ (w22 : World), Evo [n15] w11 w22 → Under [n1, n2, n3, n4, n15] w22 → J14 (-1, 0, 1, ()) w22)) ∧
 ∀ (x23 x24 x25 : Int) (w26 : World),
 J14 (x23, x24, x25, ()) w26 →
 ∃ (J27 : Int × Int × Int × Unit → World → Prop),
 (∀ (n28 : Nat),
 w26.heap.size ≤ n28 →
 (decide (total_1 > 0) = true →
 ((x23 == -1) = true → ∀ (w29 : World), Evo [n4, n28] w26 w29 → Under [n1, n2, n3, n4, n28] w29 → J27 (1, a_1, total_1, ()) w29) ∧
 ((x23 == -1) = false →
 ∀ (w30 : World),
 Evo [n28] w26 w30 →
 Under [n1, n2, n3, n4, n28] w30 →
 Calls Proofs.Tryz.prog 91
 #[Value.agg #[Value.int IntKind.i64 a_1, Value.int IntKind.i64 total_1], Value.agg #[Value.int IntKind.i64 x24, Value.int IntKind.i64 x25]] w30
 fun (e31 : Ending) (w32 : World) =>
 ∃ (x33 : Int),
 e31 = Ending.returned (Value.int IntKind.i64 x33) ∧
 Keeps [n1, n2, n3, n4, n28] w30 w32 ∧
 (decide (x33 > 0) = true → ∀ (w34 : World), Evo [n4] w32 w34 → Under [n1, n2, n3, n4, n28] w34 → J27 (1, a_1, total_1, ()) w34) ∧
 (decide (x33 > 0) = false → J27 (x23, x24, x25, ()) w32))) ∧
 (decide (total_1 > 0) = false → ∀ (w35 : World), Evo [n28] w26 w35 → Under [n1, n2, n3, n4, n28] w35 → J27 (x23, x24, x25, ()) w35)) ∧
 ∀ (x36 x37 x38 : Int) (w39 : World),
 J27 (x36, x37, x38, ()) w39 →
 ∃ (J40 : Int × Int × Int × Unit → World → Prop),
 (∀ (n41 : Nat),
 w39.heap.size ≤ n41 →
 (decide (total_2 > 0) = true →
 ((x36 == -1) = true → ∀ (w42 : World), Evo [n4, n41] w39 w42 → Under [n1, n2, n3, n4, n41] w42 → J40 (2, a_2, total_2, ()) w42) ∧
 ((x36 == -1) = false →
 ∀ (w43 : World),
 Evo [n41] w39 w43 →
 Under [n1, n2, n3, n4, n41] w43 →
 Calls Proofs.Tryz.prog 91
 #[Value.agg #[Value.int IntKind.i64 a_2, Value.int IntKind.i64 total_2], Value.agg #[Value.int IntKind.i64 x37, Value.int IntKind.i64 x38]] w43
 fun (e44 : Ending) (w45 : World) =>
 ∃ (x46 : Int),
 e44 = Ending.returned (Value.int IntKind.i64 x46) ∧
 Keeps [n1, n2, n3, n4, n41] w43 w45 ∧
 (decide (x46 > 0) = true → ∀ (w47 : World), Evo [n4] w45 w47 → Under [n1, n2, n3, n4, n41] w47 → J40 (2, a_2, total_2, ()) w47) ∧
 (decide (x46 > 0) = false → J40 (x36, x37, x38, ()) w45))) ∧
 (decide (total_2 > 0) = false → ∀ (w48 : World), Evo [n41] w39 w48 → Under [n1, n2, n3, n4, n41] w48 → J40 (x36, x37, x38, ()) w48)) ∧
 ∀ (x49 x50 x51 : Int) (w52 : World),
 J40 (x49, x50, x51, ()) w52 →
 ∃ (J53 : Int × Int × Int × Unit → World → Prop),
 (∀ (n54 : Nat),
 w52.heap.size ≤ n54 →
 (decide (total_3 > 0) = true →
 ((x49 == -1) = true → ∀ (w55 : World), Evo [n4, n54] w52 w55 → Under [n1, n2, n3, n4, n54] w55 → J53 (3, a_3, total_3, ()) w55) ∧
 ((x49 == -1) = false →
 ∀ (w56 : World),
 Evo [n54] w52 w56 →
 Under [n1, n2, n3, n4, n54] w56 →
 Calls Proofs.Tryz.prog 91
 #[Value.agg #[Value.int IntKind.i64 a_3, Value.int IntKind.i64 total_3], Value.agg #[Value.int IntKind.i64 x50, Value.int IntKind.i64 x51]] w56
 fun (e57 : Ending) (w58 : World) =>
 ∃ (x59 : Int),
 e57 = Ending.returned (Value.int IntKind.i64 x59) ∧
 Keeps [n1, n2, n3, n4, n54] w56 w58 ∧
 (decide (x59 > 0) = true → ∀ (w60 : World), Evo [n4] w58 w60 → Under [n1, n2, n3, n4, n54] w60 → J53 (3, a_3, total_3, ()) w60) ∧
 (decide (x59 > 0) = false → J53 (x49, x50, x51, ()) w58))) ∧
 (decide (total_3 > 0) = false → ∀ (w61 : World), Evo [n54] w52 w61 → Under [n1, n2, n3, n4, n54] w61 → J53 (x49, x50, x51, ()) w61)) ∧
 ∀ (x62 x63 x64 : Int) (w65 : World),
 J53 (x62, x63, x64, ()) w65 →
 ∀ (w66 : World),
 Evo [n3] w65 w66 →
 Under [n1, n2, n3, n4] w66 →
 R (Ending.returned (Value.tuple #[Value.int IntKind.i64 x62, Value.agg #[Value.int IntKind.i64 x63, Value.int IntKind.i64 x64]])) w66))
theorem f83_eq (a_0 : Int) (a_1 : Int) (a_2 : Int) (a_3 : Int) (total_0 : Int) (total_1 : Int) (total_2 : Int) (total_3 : Int) (w : World) (R : Ending → World → Prop) : (fnF Go.Proofs.Tryz.prog h83 Go.Proofs.Tryz.f83 [Value.agg #[Value.int IntKind.i64 a_0, Value.int IntKind.i64 a_1, Value.int IntKind.i64 a_2, Value.int IntKind.i64 a_3],
 Value.agg #[Value.int IntKind.i64 total_0, Value.int IntKind.i64 total_1, Value.int IntKind.i64 total_2, Value.int IntKind.i64 total_3]] w R).den = f83_vc a_0 a_1 a_2 a_3 total_0 total_1 total_2 total_3 w R := by kernel_rfl
theorem f83_calls (a_0 : Int) (a_1 : Int) (a_2 : Int) (a_3 : Int) (total_0 : Int) (total_1 : Int) (total_2 : Int) (total_3 : Int) (w : World) (R : Ending → World → Prop) (h : f83_vc a_0 a_1 a_2 a_3 total_0 total_1 total_2 total_3 w R) : Calls Go.Proofs.Tryz.prog 83 (List.toArray [Value.agg #[Value.int IntKind.i64 a_0, Value.int IntKind.i64 a_1, Value.int IntKind.i64 a_2, Value.int IntKind.i64 a_3],
 Value.agg #[Value.int IntKind.i64 total_0, Value.int IntKind.i64 total_1, Value.int IntKind.i64 total_2, Value.int IntKind.i64 total_3]]) w R :=
 fn_sound (H := h83) (fn := Go.Proofs.Tryz.f83) (by kernel_rfl) (by kernel_rfl) (by kernel_rfl) ((f83_eq a_0 a_1 a_2 a_3 total_0 total_1 total_2 total_3 w R).mpr h)

end Vcz

/- Own text of this claim: ZSp1. -/
set_option maxRecDepth 20000
set_option linter.unusedVariables false
namespace Go.Vc.SZ
open Go Go.Vc Go.RowKit Go.Proofs Vcz

noncomputable abbrev fracV (a b : Int) : Value := .agg #[.int .i64 a, .int .i64 b]
noncomputable abbrev wideV (a b : Int) : Value := .agg #[.int .u64 a, .int .u64 b]
noncomputable def right (a b : Int) : Prop := 0 ≤ a ∧ 1 ≤ b
instance (a b : Int) : Decidable (right a b) := by unfold right; infer_instance

theorem c80 (a b : Int) (w : World) : Ret Tryz.prog 80 #[fracV a b] w (.bool (decide (right a b))) := by
  intro R h
  refine f80_calls a b w R ?_
  unfold f80_vc
  have hA := At.refl w
  refine go_n hA fun n1 h1 => ?_
  refine brD (fun ha => ?_) (fun ha => ?_)
  · refine go_below hA fun w2 hA => leaf h hA ?_
    simp only [right, ge_iff_le] at *
    simp [*]
  · refine go_below hA fun w2 hA => leaf h hA ?_
    simp only [right, ge_iff_le] at *
    simp [*]

def cmpI (x y : Int) : Int := if x = y then 0 else if x < y then -1 else 1

theorem c68 (a0 a1 b0 b1 : Int) (ha : 0 ≤ a1 ∧ a1 < 18446744073709551616) (hb : 0 ≤ b1 ∧ b1 < 18446744073709551616) (w : World) :
    Ret Tryz.prog 68 #[wideV a0 a1, wideV b0 b1] w (.int .i64 (cmpI (a0 * 18446744073709551616 + a1) (b0 * 18446744073709551616 + b1))) := by
  intro R h
  refine f68_calls a0 a1 b0 b1 w R ?_
  unfold f68_vc
  have hA := At.refl w
  refine go_n hA fun n1 h1 => ?_
  refine go_n hA fun n2 h2 => ?_
  refine brB (fun hc => ?_) (fun hc => ?_)
  · refine go_below hA fun w2 hA => leaf h hA ?_
    simp at hc
    simp [cmpI, hc]
  · refine brD (fun hd => ?_) (fun hd => ?_)
    · refine go_below hA fun w2 hA => leaf h hA ?_
      simp only [cmpI]
      rw [if_neg (by omega), if_pos (by omega)]
    · refine brE (fun he => brD (fun hf => ?_) (fun hf => ?_)) (fun he => ?_)
      all_goals (refine go_below hA fun w2 hA => leaf h hA ?_)
      all_goals simp only [cmpI]
      · rw [if_neg (by omega), if_pos (by omega)]
      · simp [he] at hc
        rw [if_neg (by omega), if_neg (by omega)]
      · rw [if_neg (by omega), if_neg (by omega)]

theorem c81 (a b : Int) (ha : 0 ≤ a ∧ a < 18446744073709551616) (hb : 0 ≤ b ∧ b < 18446744073709551616) (w : World) :
    Ret Tryz.prog 81 #[.int .u64 a, .int .u64 b] w (wideV (a * b / 18446744073709551616) (a * b % 18446744073709551616)) := by
  intro R h
  refine f81_calls a b w R ?_
  unfold f81_vc
  have hA := At.refl w
  refine go_n hA fun n1 h1 => ?_
  refine go_evo hA (by simp [*]) fun w2 hA => leaf h hA ?_
  obtain ⟨ah, al, bh, bl, p, q, r, t, e1, e2, e3, e4, e5, e6, e7, e8, hp, hq, hr, ht, hm⟩ := quarters ha.1 ha.2 hb.1 hb.2
  have k1 : ∀ x, 0 ≤ x → x < 18446744073709551616 → ((BitVec.ofInt 64 x &&& BitVec.ofInt 64 4294967295).toNat : Int) = x % 4294967296 := fun x h1 h2 => and_low32 h1 h2
  simp only [fdiv_pos _ (show (0 : Int) ≤ 4294967296 by decide), k1 a ha.1 ha.2, k1 b hb.1 hb.2, e1, e2, e3, e4]
  have w1 : IntKind.u64.wrap al = al := wrap_u64_id (by omega) (by omega)
  have w2 : IntKind.u64.wrap bl = bl := wrap_u64_id (by omega) (by omega)
  simp only [w1, w2, e5, e6, e7, e8]
  have w3 : IntKind.u64.wrap t = t := wrap_u64_id (by omega) (by omega)
  have w4 : IntKind.u64.wrap p = p := wrap_u64_id (by omega) (by omega)
  have w5 : IntKind.u64.wrap q = q := wrap_u64_id (by omega) (by omega)
  have w6 : IntKind.u64.wrap r = r := wrap_u64_id (by omega) (by omega)
  simp only [w3, w4, w5, w6]
  have w7 : IntKind.u64.wrap (q + t / 4294967296) = q + t / 4294967296 := wrap_u64_id (by omega) (by omega)
  simp only [w7, k1 t (by omega) (by omega), k1 (q + t / 4294967296) (by omega) (by omega)]
  simp only [wrap_u64]
  have z1 : ((p + (q + t / 4294967296) / 4294967296) % 18446744073709551616 + (r + (q + t / 4294967296) % 4294967296 % 18446744073709551616) % 18446744073709551616 / 4294967296) % 18446744073709551616 = a * b / 18446744073709551616 := by omega
  have z2 : ((r + (q + t / 4294967296) % 4294967296 % 18446744073709551616) % 18446744073709551616 * 4294967296 % 18446744073709551616 + t % 4294967296 % 18446744073709551616) % 18446744073709551616 = a * b % 18446744073709551616 := by omega
  rw [z1, z2]
end Go.Vc.SZ

/- Own text of this claim: ZSp2. -/
set_option maxRecDepth 20000
set_option linter.unusedVariables false
namespace Go.Vc.SZ
open Go Go.Vc Go.RowKit Go.Proofs Vcz

abbrev I64 (x : Int) : Prop := -9223372036854775808 ≤ x ∧ x ≤ 9223372036854775807

noncomputable def frCmp (a b c d : Int) : Int := if right a b ∧ right c d then cmpI (a * d) (c * b) else 0

theorem c91 (a0 a1 b0 b1 : Int) (h0 : I64 a0) (h1 : I64 a1) (h2 : I64 b0) (h3 : I64 b1) (w : World) : Ret Tryz.prog 91 #[fracV a0 a1, fracV b0 b1] w (.int .i64 (frCmp a0 a1 b0 b1)) := by
  intro R h
  refine f91_calls a0 a1 b0 b1 w R ?_
  unfold f91_vc
  have hA := At.refl w
  refine go_n hA fun n1 h1 => ?_
  refine go_n hA fun n2 h2 => ?_
  refine go_below hA fun w3 hA => ?_
  refine at_call hA (c80 _ _ _) (fun _ hA hk => ⟨_, rfl, hk, ?_⟩)
  refine brND (fun hr => ?_) (fun hr => ?_)
  · refine leaf h hA ?_
    simp [frCmp, hr]
  refine at_call hA (c80 _ _ _) (fun _ hA hk => ⟨_, rfl, hk, ?_⟩)
  refine brND (fun hs => ?_) (fun hs => ?_)
  · refine leaf h hA ?_
    simp [frCmp, hs]
  refine go_below hA fun w3 hA => ?_
  have g1 := hr.1; have g2 := hr.2; have g3 := hs.1; have g4 := hs.2
  rw [wrap_u64_id (x := a0) (by omega) (by omega), wrap_u64_id (x := a1) (by omega) (by omega), wrap_u64_id (x := b0) (by omega) (by omega), wrap_u64_id (x := b1) (by omega) (by omega)]
  refine at_call hA (c81 _ _ (by omega) (by omega) _) (fun _ hA hk => ⟨_, _, rfl, hk, ?_⟩)
  refine at_call hA (c81 _ _ (by omega) (by omega) _) (fun _ hA hk => ⟨_, _, rfl, hk, ?_⟩)
  refine at_call hA (c68 _ _ _ _ ⟨Int.emod_nonneg _ (by decide), Int.emod_lt_of_pos _ (by decide)⟩ ⟨Int.emod_nonneg _ (by decide), Int.emod_lt_of_pos _ (by decide)⟩ _) (fun _ hA hk => ⟨_, rfl, hk, ?_⟩)
  refine leaf h hA ?_
  have e : ∀ x : Int, x / 18446744073709551616 * 18446744073709551616 + x % 18446744073709551616 = x := fun x => by omega
  rw [e, e, frCmp, if_pos ⟨hr, hs⟩]

/-! ### The greatest common divisor -/
end Go.Vc.SZ

/- Own text of this claim: ZSp3. -/
set_option maxRecDepth 20000
set_option linter.unusedVariables false
namespace Go.Vc.SZ
open Go Go.Vc Go.RowKit Go.Proofs Vcz

abbrev shV (a b c : Int) : Value := .agg #[.int .i64 a, .int .i64 b, .int .i64 c]
def sRight (a b c : Int) : Prop := right a b ∧ a ≤ 9007199254740992 ∧ b ≤ 9007199254740992 ∧ 1 ≤ c ∧ c ≤ 1000
instance (a b c : Int) : Decidable (sRight a b c) := by unfold sRight; infer_instance
noncomputable def sCmp (a0 a1 a2 b0 b1 b2 : Int) : Int := if sRight a0 a1 a2 ∧ sRight b0 b1 b2 then cmpI (a0 * (b1 * b2)) (b0 * (a1 * a2)) else 0

theorem c66 (a b c : Int) (w : World) : Ret Tryz.prog 66 #[shV a b c] w (.bool (decide (sRight a b c))) := by
  intro R h
  refine f66_calls a b c w R ?_
  unfold f66_vc
  have hA := At.refl w
  refine go_n hA fun n1 h1 => ?_
  refine go_below hA fun w2 hA => ?_
  refine at_call hA (c80 _ _ _) (fun _ hA hk => ⟨_, rfl, hk, ?_⟩)
  refine brD (fun h1 => brD (fun h2 => brD (fun h3 => brD (fun h4 => leaf h hA ?_) (fun h4 => leaf h hA ?_)) (fun h3 => leaf h hA ?_)) (fun h2 => leaf h hA ?_)) (fun h1 => leaf h hA ?_)
  · rw [show decide (sRight a b c) = decide (c ≤ 1000) from decide_eq_decide.2 ⟨fun hh => hh.2.2.2.2, fun hh => ⟨h1, h2, h3, h4, hh⟩⟩]
  · rw [decide_eq_false (show ¬ sRight a b c from fun hh => h4 hh.2.2.2.1)]
  · rw [decide_eq_false (show ¬ sRight a b c from fun hh => h3 hh.2.2.1)]
  · rw [decide_eq_false (show ¬ sRight a b c from fun hh => h2 hh.2.1)]
  · rw [decide_eq_false (show ¬ sRight a b c from fun hh => h1 hh.1)]

theorem mul_le {a b : Int} {A B : Int} (ha : 0 ≤ a ∧ a ≤ A) (hb : 0 ≤ b ∧ b ≤ B) : 0 ≤ a * b ∧ a * b ≤ A * B :=
  ⟨Int.mul_nonneg ha.1 hb.1, Int.le_trans (Int.mul_le_mul_of_nonneg_right ha.2 hb.1) (Int.mul_le_mul_of_nonneg_left hb.2 (by omega))⟩

theorem c67 (a0 a1 a2 b0 b1 b2 : Int) (ha : sRight a0 a1 a2) (hb : sRight b0 b1 b2) (w : World) : Ret Tryz.prog 67 #[shV a0 a1 a2, shV b0 b1 b2] w (wideV (a0 * (b1 * b2) / 18446744073709551616) (a0 * (b1 * b2) % 18446744073709551616)) := by
  intro R h
  refine f67_calls a0 a1 a2 b0 b1 b2 w R ?_
  unfold f67_vc
  have hA := At.refl w
  obtain ⟨⟨p0, p1⟩, p2, p3, p4, p5⟩ := ha
  obtain ⟨⟨q0, q1⟩, q2, q3, q4, q5⟩ := hb
  have hm := mul_le (a := b1) (b := b2) (A := 9007199254740992) (B := 1000) (by omega) (by omega)
  rw [wrap_u64_id (x := a0) (by omega) (by omega), wrap_u64_id (x := b1) (by omega) (by omega), wrap_u64_id (x := b2) (by omega) (by omega), wrap_u64_id (x := b1 * b2) (by omega) (by omega)]
  refine go_n hA fun n1 h1 => ?_
  refine go_n hA fun n2 h2 => ?_
  refine go_n hA fun n3 h3 => ?_
  refine go_below hA fun w4 hA => ?_
  refine at_call hA (c81 _ _ (by omega) (by omega) _) (fun _ hA hk => ⟨_, _, rfl, hk, ?_⟩)
  exact go_evo hA (by intro d hd; simp at hd; omega) fun w9 hA => leaf h hA rfl

theorem c49 (a0 a1 a2 b0 b1 b2 : Int) (w : World) : Ret Tryz.prog 49 #[shV a0 a1 a2, shV b0 b1 b2] w (.int .i64 (sCmp a0 a1 a2 b0 b1 b2)) := by
  intro R h
  refine f49_calls a0 a1 a2 b0 b1 b2 w R ?_
  unfold f49_vc
  have hA := At.refl w
  refine go_n hA fun n1 h1 => ?_
  refine go_n hA fun n2 h2 => ?_
  refine ⟨fun he => go_below hA fun w3 hA => leaf h hA ?_, fun hne => go_below hA fun w4 hA => ?_⟩
  · simp at he
    obtain ⟨⟨rfl, rfl⟩, rfl⟩ := he
    unfold sCmp cmpI
    split <;> simp
  refine at_call hA (c66 _ _ _ _) (fun _ hA hk => ⟨_, rfl, hk, ?_⟩)
  refine brND (fun hr => leaf h hA (by rw [sCmp, if_neg (fun hh => hr hh.1)])) (fun hr => ?_)
  refine at_call hA (c66 _ _ _ _) (fun _ hA hk => ⟨_, rfl, hk, ?_⟩)
  refine brND (fun hs => leaf h hA (by rw [sCmp, if_neg (fun hh => hs hh.2)])) (fun hs => ?_)
  refine go_below hA fun w11 hA => ?_
  refine at_call hA (c67 _ _ _ _ _ _ hr hs _) (fun _ hA hk => ⟨_, _, rfl, hk, ?_⟩)
  refine at_call hA (c67 _ _ _ _ _ _ hs hr _) (fun _ hA hk => ⟨_, _, rfl, hk, ?_⟩)
  refine at_call hA (c68 _ _ _ _ ⟨Int.emod_nonneg _ (by decide), Int.emod_lt_of_pos _ (by decide)⟩ ⟨Int.emod_nonneg _ (by decide), Int.emod_lt_of_pos _ (by decide)⟩ _) (fun _ hA hk => ⟨_, rfl, hk, ?_⟩)
  refine leaf h hA ?_
  have e : ∀ x : Int, x / 18446744073709551616 * 18446744073709551616 + x % 18446744073709551616 = x := fun x => by omega
  rw [e, e, sCmp, if_pos ⟨hr, hs⟩]
end Go.Vc.SZ

/- Own text of this claim: ZSp4. -/
set_option maxRecDepth 20000
set_option linter.unusedVariables false
namespace Go.Vc.SZ
open Go Go.Vc Go.RowKit Go.Proofs Vcz

abbrev arrV (a b c d : Int) : Value := .agg #[.int .i64 a, .int .i64 b, .int .i64 c, .int .i64 d]
def sumR (a b c d : Int) : Prop := (0 ≤ a ∧ a ≤ 1152921504606846976) ∧ (0 ≤ b ∧ b ≤ 1152921504606846976) ∧ (0 ≤ c ∧ c ≤ 1152921504606846976) ∧ (0 ≤ d ∧ d ≤ 1152921504606846976)
instance (a b c d : Int) : Decidable (sumR a b c d) := by unfold sumR; infer_instance
def sumH (a0 a1 a2 a3 b0 b1 b2 b3 : Int) : Prop := (b0 ≤ a0 ∧ b1 ≤ a1 ∧ b2 ≤ a2 ∧ b3 ≤ a3) ∧ sumR a0 a1 a2 a3 ∧ sumR b0 b1 b2 b3
instance (a0 a1 a2 a3 b0 b1 b2 b3 : Int) : Decidable (sumH a0 a1 a2 a3 b0 b1 b2 b3) := by unfold sumH; infer_instance
abbrev pairA (a b c d : Int) (o : Bool) : Value := .tuple #[arrV a b c d, .bool o]
def sumA (a0 a1 a2 a3 b0 b1 b2 b3 : Int) : Value := if sumR a0 a1 a2 a3 ∧ sumR b0 b1 b2 b3 ∧ sumR (a0 + b0) (a1 + b1) (a2 + b2) (a3 + b3) then pairA (a0 + b0) (a1 + b1) (a2 + b2) (a3 + b3) true else pairA 0 0 0 0 false
def sumS (a0 a1 a2 a3 b0 b1 b2 b3 : Int) : Value := if sumH a0 a1 a2 a3 b0 b1 b2 b3 then pairA (a0 - b0) (a1 - b1) (a2 - b2) (a3 - b3) true else pairA 0 0 0 0 false

theorem c74 (a b c d : Int) (w : World) : Ret Tryz.prog 74 #[arrV a b c d] w (.bool (decide (sumR a b c d))) := by
  intro R h
  refine f74_calls a b c d w R ?_
  unfold f74_vc
  have hA := At.refl w
  refine go_n hA fun n1 h_n1 => ?_
  have no : ¬ sumR a b c d → ∀ W, At w [n1] W → R (.returned (.bool false)) W := fun hn W hA => leaf h hA (by rw [decide_eq_false hn])
  unfold sumR at no
  refine brD (fun h1 => go_below hA fun _ hA => no (by omega) _ hA) (fun h1 => ?_)
  refine brD (fun h2 => go_below hA fun _ hA => no (by omega) _ hA) (fun h2 => ?_)
  refine brD (fun h3 => go_below hA fun _ hA => no (by omega) _ hA) (fun h3 => ?_)
  refine brD (fun h4 => go_below hA fun _ hA => no (by omega) _ hA) (fun h4 => ?_)
  refine brD (fun h5 => go_below hA fun _ hA => no (by omega) _ hA) (fun h5 => ?_)
  refine brD (fun h6 => go_below hA fun _ hA => no (by omega) _ hA) (fun h6 => ?_)
  refine brD (fun h7 => go_below hA fun _ hA => no (by omega) _ hA) (fun h7 => ?_)
  refine brD (fun h8 => go_below hA fun _ hA => no (by omega) _ hA) (fun h8 => ?_)
  refine go_below hA fun _ hA => ?_
  exact leaf h hA (by rw [decide_eq_true (show sumR a b c d by unfold sumR; omega)])

theorem c73 (a0 a1 a2 a3 b0 b1 b2 b3 : Int) (w : World) : Ret Tryz.prog 73 #[arrV a0 a1 a2 a3, arrV b0 b1 b2 b3] w (.bool (decide (sumH a0 a1 a2 a3 b0 b1 b2 b3))) := by
  intro R h
  refine f73_calls a0 a1 a2 a3 b0 b1 b2 b3 w R ?_
  unfold f73_vc
  have hA := At.refl w
  refine go_n hA fun n1 h_n1 => ?_
  refine go_n hA fun n2 h_n2 => ?_
  have no : ¬ sumH a0 a1 a2 a3 b0 b1 b2 b3 → ∀ W, At w [n1, n2] W → R (.returned (.bool false)) W := fun hn W hA => leaf h hA (by rw [decide_eq_false hn])
  refine brD (fun h1 => go_below hA fun _ hA => no (fun hh => by have := hh.1; omega) _ hA) (fun h1 => ?_)
  refine brD (fun h2 => go_below hA fun _ hA => no (fun hh => by have := hh.1; omega) _ hA) (fun h2 => ?_)
  refine brD (fun h3 => go_below hA fun _ hA => no (fun hh => by have := hh.1; omega) _ hA) (fun h3 => ?_)
  refine brD (fun h4 => go_below hA fun _ hA => no (fun hh => by have := hh.1; omega) _ hA) (fun h4 => ?_)
  refine go_below hA fun _ hA => ?_
  refine at_call hA (c74 _ _ _ _ _) (fun _ hA hk => ⟨_, rfl, hk, ?_⟩)
  refine brD (fun ha => ?_) (fun ha => no (fun hh => ha hh.2.1) _ hA)
  refine at_call hA (c74 _ _ _ _ _) (fun _ hA hk => ⟨_, rfl, hk, ?_⟩)
  refine leaf h hA ?_
  rw [show decide (sumH a0 a1 a2 a3 b0 b1 b2 b3) = decide (sumR b0 b1 b2 b3) from decide_eq_decide.2 ⟨fun hh => hh.2.2, fun hh => ⟨by omega, ha, hh⟩⟩]

theorem c62 (a0 a1 a2 a3 b0 b1 b2 b3 : Int) (w : World) : Ret Tryz.prog 62 #[arrV a0 a1 a2 a3, arrV b0 b1 b2 b3] w (sumA a0 a1 a2 a3 b0 b1 b2 b3) := by
  intro R h
  refine f62_calls a0 a1 a2 a3 b0 b1 b2 b3 w R ?_
  unfold f62_vc
  have hA := At.refl w
  refine go_n hA fun n1 h_n1 => ?_
  refine go_n hA fun n2 h_n2 => ?_
  refine go_n hA fun n3 h_n3 => ?_
  refine go_below hA fun _ hA => ?_
  refine at_call hA (c74 _ _ _ _ _) (fun _ hA hk => ⟨_, rfl, hk, ?_⟩)
  refine brND (fun hr => go_evo hA (by intro d hd; simp at hd; omega) fun _ hA => leaf h hA (by rw [sumA, if_neg (fun hh => hr hh.1)])) (fun ha => ?_)
  refine at_call hA (c74 _ _ _ _ _) (fun _ hA hk => ⟨_, rfl, hk, ?_⟩)
  refine brND (fun hr => go_evo hA (by intro d hd; simp at hd; omega) fun _ hA => leaf h hA (by rw [sumA, if_neg (fun hh => hr hh.2.1)])) (fun hb => ?_)
  have ha' := ha
  have hb' := hb
  unfold sumR at ha' hb'
  rw [wrap_i64 (x := a0 + b0) (by omega) (by omega), wrap_i64 (x := a1 + b1) (by omega) (by omega), wrap_i64 (x := a2 + b2) (by omega) (by omega), wrap_i64 (x := a3 + b3) (by omega) (by omega)]
  refine go_evo hA (by intro d hd; simp at hd; omega) fun _ hA => ?_
  refine at_call hA (c74 _ _ _ _ _) (fun _ hA hk => ⟨_, rfl, hk, ?_⟩)
  exact brND (fun hr => go_evo hA (by intro d hd; simp at hd; omega) fun _ hA => leaf h hA (by rw [sumA, if_neg (fun hh => hr hh.2.2)])) (fun hc => go_evo hA (by intro d hd; simp at hd; omega) fun _ hA => leaf h hA (by rw [sumA, if_pos ⟨ha, hb, hc⟩]))

theorem c59 (a0 a1 a2 a3 b0 b1 b2 b3 : Int) (w : World) : Ret Tryz.prog 59 #[arrV a0 a1 a2 a3, arrV b0 b1 b2 b3] w (sumS a0 a1 a2 a3 b0 b1 b2 b3) := by
  intro R h
  refine f59_calls a0 a1 a2 a3 b0 b1 b2 b3 w R ?_
  unfold f59_vc
  have hA := At.refl w
  refine go_n hA fun n1 h_n1 => ?_
  refine go_n hA fun n2 h_n2 => ?_
  refine go_n hA fun n3 h_n3 => ?_
  refine go_below hA fun _ hA => ?_
  refine at_call hA (c73 _ _ _ _ _ _ _ _ _) (fun _ hA hk => ⟨_, rfl, hk, ?_⟩)
  refine brND (fun hr => go_evo hA (by intro d hd; simp at hd; omega) fun _ hA => leaf h hA (by rw [sumS, if_neg hr])) (fun ha => ?_)
  have ha' := ha
  unfold sumH sumR at ha'
  rw [wrap_i64 (x := a0 - b0) (by omega) (by omega), wrap_i64 (x := a1 - b1) (by omega) (by omega), wrap_i64 (x := a2 - b2) (by omega) (by omega), wrap_i64 (x := a3 - b3) (by omega) (by omega)]
  refine go_evo hA (by intro d hd; simp at hd; omega) fun _ hA => ?_
  exact leaf h hA (by rw [sumS, if_pos ha])

noncomputable def dstep (s : Int × Int × Int) (k a t : Int) : Int × Int × Int := if t > 0 ∧ (s.1 = -1 ∨ frCmp a t s.2.1 s.2.2 > 0) then (k, a, t) else s
noncomputable def dom (a0 a1 a2 a3 t0 t1 t2 t3 : Int) : Int × Int × Int := if sumR a0 a1 a2 a3 ∧ sumR t0 t1 t2 t3 then dstep (dstep (dstep (dstep (-1, 0, 1) 0 a0 t0) 1 a1 t1) 2 a2 t2) 3 a3 t3 else (-1, 0, 1)
abbrev domV (s : Int × Int × Int) : Value := .tuple #[.int .i64 s.1, .agg #[.int .i64 s.2.1, .int .i64 s.2.2]]
def dok (s : Int × Int × Int) : Prop := (-1 ≤ s.1 ∧ s.1 ≤ 3) ∧ (0 ≤ s.2.1 ∧ s.2.1 ≤ 1152921504606846976) ∧ (1 ≤ s.2.2 ∧ s.2.2 ≤ 1152921504606846976)
theorem dok_step {s : Int × Int × Int} {k a t : Int} (h : dok s) (hk : 0 ≤ k ∧ k ≤ 3) (ha : 0 ≤ a ∧ a ≤ 1152921504606846976) (ht : 0 ≤ t ∧ t ≤ 1152921504606846976) : dok (dstep s k a t) := by
  unfold dstep
  split
  · rename_i hc
    exact ⟨by simp only; omega, by simp only; omega, by simp only; omega⟩
  · exact h
theorem dom_ok (a0 a1 a2 a3 t0 t1 t2 t3 : Int) : dok (dom a0 a1 a2 a3 t0 t1 t2 t3) := by
  have h0 : dok (-1, 0, 1) := ⟨by decide, by decide, by decide⟩
  unfold dom
  split
  · rename_i hr
    obtain ⟨⟨p0, p1, p2, p3⟩, q0, q1, q2, q3⟩ := hr
    exact dok_step (dok_step (dok_step (dok_step h0 (by omega) p0 q0) (by omega) p1 q1) (by omega) p2 q2) (by omega) p3 q3
  · exact h0

theorem c83 (a0 a1 a2 a3 t0 t1 t2 t3 : Int) (w : World) : Ret Tryz.prog 83 #[arrV a0 a1 a2 a3, arrV t0 t1 t2 t3] w (domV (dom a0 a1 a2 a3 t0 t1 t2 t3)) := by
  intro R h
  refine f83_calls a0 a1 a2 a3 t0 t1 t2 t3 w R ?_
  unfold f83_vc
  have hA := At.refl w
  refine go_n hA fun n1 h_n1 => ?_
  refine go_n hA fun n2 h_n2 => ?_
  refine go_n hA fun n3 h_n3 => ?_
  refine go_n hA fun n4 h_n4 => ?_
  refine go_evo hA (by intro d hd; simp at hd; omega) fun _ hA => ?_
  refine at_call hA (c74 _ _ _ _ _) (fun _ hA hk => ⟨_, rfl, hk, ?_⟩)
  refine brND (fun hr => go_evo hA (by intro d hd; simp at hd; omega) fun _ hA => leaf h hA (by rw [dom, if_neg (fun hh => hr hh.1)])) (fun ha => ?_)
  refine at_call hA (c74 _ _ _ _ _) (fun _ hA hk => ⟨_, rfl, hk, ?_⟩)
  refine brND (fun hr => go_evo hA (by intro d hd; simp at hd; omega) fun _ hA => leaf h hA (by rw [dom, if_neg (fun hh => hr hh.2)])) (fun ht => ?_)
  rw [dom, if_pos ⟨ha, ht⟩] at h
  obtain ⟨p0, p1, p2, p3⟩ := ha
  obtain ⟨q0, q1, q2, q3⟩ := ht
  have k0 : dok (-1, 0, 1) := ⟨by decide, by decide, by decide⟩
  have k1 : dok (dstep ((-1, 0, 1)) 0 a0 t0) := dok_step k0 (by omega) p0 q0
  refine ⟨fun s W => At w [n1, n2, n3, n4] W ∧ (s.1, s.2.1, s.2.2.1) = dstep ((-1, 0, 1)) 0 a0 t0, ?_, ?_⟩
  · refine go_n hA fun m h_m => ?_
    refine brD (fun hp => ⟨fun _ => go_evo hA (by intro d hd; simp at hd; omega) fun _ hA => ⟨⟨hA.chg, fun g hg => hA.under g (by simp at hg ⊢; omega)⟩, by rw [dstep, if_pos ⟨hp, .inl rfl⟩]⟩, fun hf => (by cases hf)⟩) (fun hp => go_evo hA (by intro d hd; simp at hd; omega) fun _ hA => ⟨⟨hA.chg, fun g hg => hA.under g (by simp at hg ⊢; omega)⟩, by rw [dstep, if_neg (fun hh => hp hh.1)]⟩)
  intro x0 y0 z0 W0 ⟨hA, hs⟩
  simp only at hs
  have k2 : dok (dstep (dstep ((-1, 0, 1)) 0 a0 t0) 1 a1 t1) := dok_step k1 (by omega) p1 q1
  refine ⟨fun s W => At w [n1, n2, n3, n4] W ∧ (s.1, s.2.1, s.2.2.1) = dstep (dstep ((-1, 0, 1)) 0 a0 t0) 1 a1 t1, ?_, ?_⟩
  · refine go_n hA fun m h_m => ?_
    refine brD (fun hp => ?_) (fun hp => go_evo hA (by intro d hd; simp at hd; omega) fun _ hA => ⟨⟨hA.chg, fun g hg => hA.under g (by simp at hg ⊢; omega)⟩, by rw [dstep, if_neg (fun hh => hp hh.1), ← hs]⟩)
    have k := k1
    rw [← hs] at k
    simp only [dok] at k
    refine brE (fun hn => go_evo hA (by intro d hd; simp at hd; omega) fun _ hA => ⟨⟨hA.chg, fun g hg => hA.under g (by simp at hg ⊢; omega)⟩, by rw [← hs, dstep, if_pos ⟨hp, .inl (by simp only; omega)⟩]⟩) (fun hn => ?_)
    refine go_evo hA (by intro d hd; simp at hd; omega) fun _ hA => ?_
    refine at_call hA (c91 _ _ _ _ ⟨by omega, by omega⟩ ⟨by omega, by omega⟩ ⟨by omega, by omega⟩ ⟨by omega, by omega⟩ _) (fun _ hA hk => ⟨_, rfl, hk, ?_⟩)
    refine brD (fun hc => go_evo hA (by intro d hd; simp at hd; omega) fun _ hA => ⟨⟨hA.chg, fun g hg => hA.under g (by simp at hg ⊢; omega)⟩, by rw [← hs, dstep, if_pos ⟨hp, .inr hc⟩]⟩) (fun hc => ⟨⟨hA.chg, fun g hg => hA.under g (by simp at hg ⊢; omega)⟩, ?_⟩)
    rw [← hs, dstep, if_neg (fun hh => hh.2.elim (fun h1 => by simp only at h1; omega) hc)]
  intro x1 y1 z1 W1 ⟨hA, hs⟩
  simp only at hs
  have k3 : dok (dstep (dstep (dstep ((-1, 0, 1)) 0 a0 t0) 1 a1 t1) 2 a2 t2) := dok_step k2 (by omega) p2 q2
  refine ⟨fun s W => At w [n1, n2, n3, n4] W ∧ (s.1, s.2.1, s.2.2.1) = dstep (dstep (dstep ((-1, 0, 1)) 0 a0 t0) 1 a1 t1) 2 a2 t2, ?_, ?_⟩
  · refine go_n hA fun m h_m => ?_
    refine brD (fun hp => ?_) (fun hp => go_evo hA (by intro d hd; simp at hd; omega) fun _ hA => ⟨⟨hA.chg, fun g hg => hA.under g (by simp at hg ⊢; omega)⟩, by rw [dstep, if_neg (fun hh => hp hh.1), ← hs]⟩)
    have k := k2
    rw [← hs] at k
    simp only [dok] at k
    refine brE (fun hn => go_evo hA (by intro d hd; simp at hd; omega) fun _ hA => ⟨⟨hA.chg, fun g hg => hA.under g (by simp at hg ⊢; omega)⟩, by rw [← hs, dstep, if_pos ⟨hp, .inl (by simp only; omega)⟩]⟩) (fun hn => ?_)
    refine go_evo hA (by intro d hd; simp at hd; omega) fun _ hA => ?_
    refine at_call hA (c91 _ _ _ _ ⟨by omega, by omega⟩ ⟨by omega, by omega⟩ ⟨by omega, by omega⟩ ⟨by omega, by omega⟩ _) (fun _ hA hk => ⟨_, rfl, hk, ?_⟩)
    refine brD (fun hc => go_evo hA (by intro d hd; simp at hd; omega) fun _ hA => ⟨⟨hA.chg, fun g hg => hA.under g (by simp at hg ⊢; omega)⟩, by rw [← hs, dstep, if_pos ⟨hp, .inr hc⟩]⟩) (fun hc => ⟨⟨hA.chg, fun g hg => hA.under g (by simp at hg ⊢; omega)⟩, ?_⟩)
    rw [← hs, dstep, if_neg (fun hh => hh.2.elim (fun h1 => by simp only at h1; omega) hc)]
  intro x2 y2 z2 W2 ⟨hA, hs⟩
  simp only at hs
  have k4 : dok (dstep (dstep (dstep (dstep ((-1, 0, 1)) 0 a0 t0) 1 a1 t1) 2 a2 t2) 3 a3 t3) := dok_step k3 (by omega) p3 q3
  refine ⟨fun s W => At w [n1, n2, n3, n4] W ∧ (s.1, s.2.1, s.2.2.1) = dstep (dstep (dstep (dstep ((-1, 0, 1)) 0 a0 t0) 1 a1 t1) 2 a2 t2) 3 a3 t3, ?_, ?_⟩
  · refine go_n hA fun m h_m => ?_
    refine brD (fun hp => ?_) (fun hp => go_evo hA (by intro d hd; simp at hd; omega) fun _ hA => ⟨⟨hA.chg, fun g hg => hA.under g (by simp at hg ⊢; omega)⟩, by rw [dstep, if_neg (fun hh => hp hh.1), ← hs]⟩)
    have k := k3
    rw [← hs] at k
    simp only [dok] at k
    refine brE (fun hn => go_evo hA (by intro d hd; simp at hd; omega) fun _ hA => ⟨⟨hA.chg, fun g hg => hA.under g (by simp at hg ⊢; omega)⟩, by rw [← hs, dstep, if_pos ⟨hp, .inl (by simp only; omega)⟩]⟩) (fun hn => ?_)
    refine go_evo hA (by intro d hd; simp at hd; omega) fun _ hA => ?_
    refine at_call hA (c91 _ _ _ _ ⟨by omega, by omega⟩ ⟨by omega, by omega⟩ ⟨by omega, by omega⟩ ⟨by omega, by omega⟩ _) (fun _ hA hk => ⟨_, rfl, hk, ?_⟩)
    refine brD (fun hc => go_evo hA (by intro d hd; simp at hd; omega) fun _ hA => ⟨⟨hA.chg, fun g hg => hA.under g (by simp at hg ⊢; omega)⟩, by rw [← hs, dstep, if_pos ⟨hp, .inr hc⟩]⟩) (fun hc => ⟨⟨hA.chg, fun g hg => hA.under g (by simp at hg ⊢; omega)⟩, ?_⟩)
    rw [← hs, dstep, if_neg (fun hh => hh.2.elim (fun h1 => by simp only at h1; omega) hc)]
  intro x3 y3 z3 W3 ⟨hA, hs⟩
  refine go_evo hA (by intro d hd; simp at hd; omega) fun _ hA => leaf h hA ?_
  rw [← hs]

end Go.Vc.SZ

/- Own text of this claim: ZSp5. -/
set_option maxRecDepth 20000
set_option linter.unusedVariables false
namespace Go.Vc.SZ
open Go Go.Vc Go.RowKit Go.Proofs Vcz

theorem c71 (a0 a1 a2 a3 t0 t1 t2 t3 k : Int) (w : World) : Ret Tryz.prog 71 #[arrV a0 a1 a2 a3, arrV t0 t1 t2 t3, .int .i64 k] w (shV (dom a0 a1 a2 a3 t0 t1 t2 t3).2.1 (dom a0 a1 a2 a3 t0 t1 t2 t3).2.2 k) := by
  intro R h
  refine f71_calls a0 a1 a2 a3 t0 t1 t2 t3 k w R ?_
  unfold f71_vc
  have hA := At.refl w
  refine go_n hA fun n1 h_n1 => ?_
  refine go_n hA fun n2 h_n2 => ?_
  refine go_n hA fun n3 h_n3 => ?_
  refine go_below hA fun _ hA => ?_
  refine at_call hA (c83 _ _ _ _ _ _ _ _ _) (fun _ hA hk => ?_)
  first | refine ⟨_, rfl, hk, ?_⟩ | refine ⟨_, _, rfl, hk, ?_⟩ | refine ⟨_, _, _, rfl, hk, ?_⟩ | refine ⟨_, _, _, _, rfl, hk, ?_⟩ | refine ⟨_, _, _, _, _, rfl, hk, ?_⟩ | refine ⟨_, _, _, _, _, _, rfl, hk, ?_⟩ | refine ⟨_, _, _, _, _, _, _, rfl, hk, ?_⟩ | refine ⟨_, _, _, _, _, _, _, _, rfl, hk, ?_⟩
  refine go_n hA fun n10 h_n10 => ?_
  refine go_evo hA (by intro d hd; simp at hd; omega) fun _ hA => ?_
  exact leaf h hA rfl
end Go.Vc.SZ

/- Own text of this claim: ZSp6. -/
set_option maxRecDepth 20000
set_option linter.unusedVariables false
namespace Go.Vc.SZ
open Go Go.Vc Go.RowKit Go.Proofs Vcz

theorem cmp_anti (a b c d : Int) : frCmp c d a b = - frCmp a b c d := by
  unfold frCmp cmpI
  by_cases h : right a b ∧ right c d
  · rw [if_pos h, if_pos h.symm]
    rcases Int.lt_trichotomy (a * d) (c * b) with h1 | h1 | h1
    · rw [if_neg (by omega), if_neg (by omega), if_neg (by omega), if_pos h1]; rfl
    · rw [if_pos h1.symm, if_pos h1]; rfl
    · rw [if_neg (by omega), if_pos h1, if_neg (by omega), if_neg (by omega)]
  · rw [if_neg h, if_neg (fun k => h k.symm)]; rfl
theorem cmp_self (a b : Int) : frCmp a b a b = 0 := by
  unfold frCmp cmpI
  split <;> simp
theorem cmp_le {a b c d : Int} (h1 : right a b) (h2 : right c d) : (frCmp a b c d ≤ 0 ↔ a * d ≤ c * b) ∧ (frCmp a b c d < 0 ↔ a * d < c * b) := by
  unfold frCmp cmpI
  rw [if_pos ⟨h1, h2⟩]
  split
  · omega
  · split <;> omega

theorem cmp_trans {a b c d e f : Int} (h1 : right a b) (h2 : right c d) (h3 : right e f) (h4 : frCmp a b c d ≤ 0) (h5 : frCmp c d e f ≤ 0) : frCmp a b e f ≤ 0 ∧ (frCmp a b e f = 0 → frCmp a b c d = 0 ∧ frCmp c d e f = 0) := by
  have k1 := (cmp_le h1 h2).1.1 h4
  have k2 := (cmp_le h2 h3).1.1 h5
  obtain ⟨a0, b0⟩ := h1
  obtain ⟨cc0, d0⟩ := h2
  obtain ⟨e0, f0⟩ := h3
  have m1 : a * d * f ≤ c * b * f := Int.mul_le_mul_of_nonneg_right k1 (by omega)
  have m2 : c * f * b ≤ e * d * b := Int.mul_le_mul_of_nonneg_right k2 (by omega)
  have e1 : c * f * b = c * b * f := Int.mul_right_comm ..
  have e2 : a * d * f = a * f * d := Int.mul_right_comm ..
  have e3 : e * d * b = e * b * d := Int.mul_right_comm ..
  have m3 : a * f * d ≤ e * b * d := by omega
  have m4 : a * f ≤ e * b := Int.le_of_mul_le_mul_right m3 (by omega)
  refine ⟨(cmp_le ⟨a0, b0⟩ ⟨e0, f0⟩).1.2 m4, fun hz => ?_⟩
  have n1 : ¬ a * f < e * b := fun hlt => by
    have := (cmp_le ⟨a0, b0⟩ ⟨e0, f0⟩).2.2 hlt
    omega
  have q : a * f * d = e * b * d := by rw [show a * f = e * b by omega]
  have q1 : a * d * f = c * b * f := by omega
  have q2 : c * f * b = e * d * b := by omega
  have r1 : a * d = c * b := Int.eq_of_mul_eq_mul_right (by omega) q1
  have r2 : c * f = e * d := Int.eq_of_mul_eq_mul_right (by omega) q2
  constructor
  · have := (cmp_le (a := a) (b := b) (c := c) (d := d) ⟨a0, b0⟩ ⟨cc0, d0⟩).2
    omega
  · have := (cmp_le (a := c) (b := d) (c := e) (d := f) ⟨cc0, d0⟩ ⟨e0, f0⟩).2
    omega

end Go.Vc.SZ

/- Own text of this claim: ZSp7. -/
set_option maxRecDepth 20000
set_option linter.unusedVariables false
namespace Go.Vc.SZ
open Go Go.Vc Go.RowKit Go.Proofs Vcz

theorem sCmp_fr {a0 a1 a2 b0 b1 b2 : Int} (ha : sRight a0 a1 a2) (hb : sRight b0 b1 b2) : sCmp a0 a1 a2 b0 b1 b2 = frCmp a0 (a1 * a2) b0 (b1 * b2) ∧ right a0 (a1 * a2) ∧ right b0 (b1 * b2) := by
  obtain ⟨⟨p0, p1⟩, p2, p3, p4, p5⟩ := ha
  obtain ⟨⟨q0, q1⟩, q2, q3, q4, q5⟩ := hb
  have m1 : 1 * 1 ≤ a1 * a2 := Int.le_trans (Int.mul_le_mul_of_nonneg_right p1 (by omega)) (Int.mul_le_mul_of_nonneg_left p4 (by omega))
  have m2 : 1 * 1 ≤ b1 * b2 := Int.le_trans (Int.mul_le_mul_of_nonneg_right q1 (by omega)) (Int.mul_le_mul_of_nonneg_left q4 (by omega))
  have r1 : right a0 (a1 * a2) := ⟨p0, by omega⟩
  have r2 : right b0 (b1 * b2) := ⟨q0, by omega⟩
  exact ⟨by rw [sCmp, frCmp, if_pos ⟨⟨⟨p0, p1⟩, p2, p3, p4, p5⟩, ⟨q0, q1⟩, q2, q3, q4, q5⟩, if_pos ⟨r1, r2⟩], r1, r2⟩
theorem sCmp_anti (a0 a1 a2 b0 b1 b2 : Int) : sCmp b0 b1 b2 a0 a1 a2 = - sCmp a0 a1 a2 b0 b1 b2 := by
  by_cases h : sRight a0 a1 a2 ∧ sRight b0 b1 b2
  · rw [(sCmp_fr h.1 h.2).1, (sCmp_fr h.2 h.1).1]
    exact cmp_anti ..
  · rw [sCmp, sCmp, if_neg h, if_neg (fun hh => h hh.symm)]
    rfl
theorem sCmp_self (a0 a1 a2 : Int) : sCmp a0 a1 a2 a0 a1 a2 = 0 := by
  unfold sCmp cmpI
  split <;> simp
theorem sCmp_range (a0 a1 a2 b0 b1 b2 : Int) : sCmp a0 a1 a2 b0 b1 b2 = -1 ∨ sCmp a0 a1 a2 b0 b1 b2 = 0 ∨ sCmp a0 a1 a2 b0 b1 b2 = 1 := by
  unfold sCmp cmpI
  repeat' split
  all_goals simp

theorem sCmp_weight {a0 a1 b0 b1 c : Int} (ha : sRight a0 a1 c) (hb : sRight b0 b1 c) : sCmp a0 a1 c b0 b1 c = frCmp a0 a1 b0 b1 := by
  rw [sCmp, frCmp, if_pos ⟨ha, hb⟩, if_pos ⟨ha.1, hb.1⟩]
  have hc : 0 < c := by have := ha.2.2.2.1; omega
  have e1 : a0 * (b1 * c) = a0 * b1 * c := (Int.mul_assoc ..).symm
  have e2 : b0 * (a1 * c) = b0 * a1 * c := (Int.mul_assoc ..).symm
  rw [e1, e2]
  unfold cmpI
  have k1 : a0 * b1 * c = b0 * a1 * c ↔ a0 * b1 = b0 * a1 := ⟨fun h => Int.eq_of_mul_eq_mul_right (by omega) h, fun h => by rw [h]⟩
  have k2 : a0 * b1 * c < b0 * a1 * c ↔ a0 * b1 < b0 * a1 := ⟨fun h => Int.lt_of_mul_lt_mul_right h (by omega), fun h => Int.mul_lt_mul_of_pos_right h hc⟩
  simp only [k1, k2]

end Go.Vc.SZ

/- Places' order; clients, plainly. -/
set_option maxRecDepth 20000
set_option linter.unusedVariables false
namespace Go.Vc.SZ
open Go Go.Vc Go.RowKit Go.Proofs Go.Vc.T Vcz

variable {w W W' W1 : World} {M N : Nat → Prop} {gs : List Nat}

theorem c69 (x : Int) (w : World) : Ret Tryz.prog 69 #[.int .i64 x] w (.bool false) := by
  intro R h
  refine f69_calls x w R ?_
  unfold f69_vc
  have e : (x != x) = false := by simp
  rw [e]
  exact leaf h (At.refl w) rfl
theorem c50 (x y : Int) (w : World) : Ret Tryz.prog 50 #[.int .i64 x, .int .i64 y] w (.int .i64 (cmpI x y)) := by
  intro R h
  refine f50_calls x y w R ?_
  unfold f50_vc
  unfold cmpI at h
  refine at_call (At.refl w) (c69 x _) fun w2 hA _ => ⟨_, rfl, at_call hA (c69 y _) fun w5 hA _ => ⟨_, rfl, brB (fun e => by cases e) fun _ => brB (fun e => by cases e) fun _ => ?_⟩⟩
  refine brD (fun h1 => ?_) (fun h1 => brD (fun h2 => ?_) (fun h2 => ?_))
  · rw [if_neg (by omega), if_pos h1] at h; exact leaf h hA rfl
  · rw [if_neg (by omega), if_neg h1] at h; exact leaf h hA rfl
  · rw [if_pos (by omega)] at h; exact leaf h hA rfl
noncomputable def cfP (x y : Pl) : Int := if sCmp x.a x.b x.c y.a y.b y.c ≠ 0 then sCmp x.a x.b x.c y.a y.b y.c else cmpI x.d y.d
theorem c30 : OrdC cfP := by
  intro w x y R h
  refine f30_calls _ _ _ _ _ _ _ _ w R ?_
  unfold f30_vc
  have hA := At.refl w
  unfold cfP at h
  refine go_n hA fun n1 h1 => go_n hA fun n2 h2 => go_below hA fun w3 hA => at_call hA (c49 _ _ _ _ _ _ _) fun w5 hA hk => ⟨_, rfl, hk, brN (fun hne => ?_) (fun he => ?_)⟩
  · rw [if_pos hne] at h
    exact leaf h hA rfl
  · rw [if_neg (fun e => e he)] at h
    exact at_call hA (c50 _ _ _) fun w8 hA hk => ⟨_, rfl, hk, leaf h hA rfl⟩
theorem cmpI_zero {x y : Int} : cmpI x y = 0 ↔ x = y := by
  unfold cmpI
  split
  · simp [*]
  · split <;> simp [*]
theorem cmpI_neg {x y : Int} : cmpI x y < 0 ↔ x < y := by
  unfold cmpI
  split
  · subst_vars; simp
  · split
    · simp [*]
    · simp; omega
theorem cmpI_pos {x y : Int} : cmpI x y > 0 ↔ y < x := by
  unfold cmpI
  split
  · subst_vars; simp
  · split
    · simp; omega
    · simp; omega
/-- A set of places whose shares may be, and that their numbers tell apart. -/
structure PS (S : Pl → Prop) : Prop where
  rt : ∀ a, S a → sRight a.a a.b a.c
  id : ∀ a b, S a → S b → a.d = b.d → a = b
theorem PS.ord {S : Pl → Prop} (h : PS S) : Tr.OrdOn S cfP := by
  refine ⟨fun a b ha hb => ?_, fun a b _ _ => ?_, fun a b c ha hb hc h1 h2 => ?_⟩
  · unfold cfP
    constructor
    · split
      · intro e; contradiction
      · rename_i hz
        intro e
        exact h.id a b ha hb (cmpI_zero.1 e)
    · rintro rfl
      rw [sCmp_self]
      simp [cmpI_zero]
  · have e := sCmp_anti a.a a.b a.c b.a b.b b.c
    unfold cfP
    by_cases h0 : sCmp a.a a.b a.c b.a b.b b.c = 0
    · rw [if_neg (by omega), if_neg (by omega), cmpI_neg, cmpI_pos]
    · rw [if_pos h0, if_pos (by omega)]; omega
  · have r1 := sCmp_range a.a a.b a.c b.a b.b b.c
    obtain ⟨e1, p1, p2⟩ := sCmp_fr (h.rt a ha) (h.rt b hb)
    obtain ⟨e2, _, p3⟩ := sCmp_fr (h.rt b hb) (h.rt c hc)
    obtain ⟨e3, _, _⟩ := sCmp_fr (h.rt a ha) (h.rt c hc)
    have t := @cmp_trans _ _ _ _ _ _ p1 p2 p3
    rw [← e1, ← e2, ← e3] at t
    have k1 : sCmp a.a a.b a.c b.a b.b b.c ≤ 0 := by
      unfold cfP at h1
      split at h1 <;> omega
    have k2 : sCmp b.a b.b b.c c.a c.b c.c ≤ 0 := by
      unfold cfP at h2
      split at h2 <;> omega
    obtain ⟨t1, t2⟩ := t k1 k2
    unfold cfP at h1 h2 ⊢
    by_cases h0 : sCmp a.a a.b a.c c.a c.b c.c = 0
    · obtain ⟨z1, z2⟩ := t2 h0
      rw [if_neg (by omega)] at h1 h2 ⊢
      rw [cmpI_neg] at *
      omega
    · rw [if_pos h0]; omega

/-! ### Clients -/
abbrev Ar4 := Int × Int × Int × Int
abbrev arT (x : Ar4) : Value := arrV x.1 x.2.1 x.2.2.1 x.2.2.2
structure Cl where
  w : Int
  s : Ar4
  aw : Bool
noncomputable def domT (T s : Ar4) : Int × Int := (dom s.1 s.2.1 s.2.2.1 s.2.2.2 T.1 T.2.1 T.2.2.1 T.2.2.2).2
abbrev cl8 (n d w : Int) (s : Ar4) (aw : Bool) : Value := .agg #[.int .i64 n, .int .i64 d, .int .i64 w, .int .i64 s.1, .int .i64 s.2.1, .int .i64 s.2.2.1, .int .i64 s.2.2.2, .bool aw]
noncomputable abbrev clV (T : Ar4) (c : Cl) : Value := cl8 (domT T c.s).1 (domT T c.s).2 c.w c.s c.aw
noncomputable def plc (T : Ar4) (x : Int × Cl) : Pl := ⟨(domT T x.2.s).1, (domT T x.2.s).2, x.2.w, x.1⟩
def sm4 (x : Ar4) : Prop := (0 ≤ x.1 ∧ x.1 ≤ 9007199254740992) ∧ (0 ≤ x.2.1 ∧ x.2.1 ≤ 9007199254740992) ∧ (0 ≤ x.2.2.1 ∧ x.2.2.1 ≤ 9007199254740992) ∧ (0 ≤ x.2.2.2 ∧ x.2.2.2 ≤ 9007199254740992)
instance (x : Ar4) : Decidable (sm4 x) := by unfold sm4; infer_instance
def okC (c : Cl) : Prop := sm4 c.s ∧ 1 ≤ c.w ∧ c.w ≤ 1000
def d53 (s : Int × Int × Int) : Prop := (0 ≤ s.2.1 ∧ s.2.1 ≤ 9007199254740992) ∧ (1 ≤ s.2.2 ∧ s.2.2 ≤ 9007199254740992)
theorem d53_step {s : Int × Int × Int} {k a t : Int} (h : d53 s) (ha : 0 ≤ a ∧ a ≤ 9007199254740992) (ht : 0 ≤ t ∧ t ≤ 9007199254740992) : d53 (dstep s k a t) := by
  unfold dstep
  split
  · rename_i hc
    exact ⟨by simp only; omega, by simp only; omega⟩
  · exact h
theorem domT_right {T : Ar4} {c : Cl} (hT : sm4 T) (hc : okC c) : sRight (domT T c.s).1 (domT T c.s).2 c.w := by
  have h0 : d53 (-1, 0, 1) := ⟨by decide, by decide⟩
  obtain ⟨⟨p0, p1, p2, p3⟩, hw⟩ := hc
  obtain ⟨q0, q1, q2, q3⟩ := hT
  have : d53 (dom c.s.1 c.s.2.1 c.s.2.2.1 c.s.2.2.2 T.1 T.2.1 T.2.2.1 T.2.2.2) := by
    unfold dom
    split
    · exact d53_step (d53_step (d53_step (d53_step h0 p0 q0) p1 q1) p2 q2) p3 q3
    · exact h0
  exact ⟨⟨this.1.1, this.2.1⟩, this.1.2, this.2.2, hw⟩

/-- What a tree holds: the places of those that are awake. -/
structure TrG (T : Ar4) (m : List (Int × Cl)) (t : Tr Pl) : Prop where
  so : Tr.Srt cfP t.toL
  me : ∀ y, y ∈ t.toL ↔ ∃ x ∈ m, x.2.aw = true ∧ y = plc T x
/-- What holds of clients whatever is done. -/
structure Good (T : Ar4) (m : List (Int × Cl)) : Prop where
  nd : (m.map (·.1)).Nodup
  ok : ∀ x ∈ m, okC x.2
  sm : sm4 T
abbrev SP (T : Ar4) (m : List (Int × Cl)) (y : Pl) : Prop := ∃ x ∈ m, y = plc T x
theorem nd_eq {α : Type} {m : List (Int × α)} (h : (m.map (·.1)).Nodup) {x y : Int × α} (hx : x ∈ m) (hy : y ∈ m) (e : x.1 = y.1) : x = y := by
  have h1 := mget_of_mem h (show (x.1, x.2) ∈ m from hx)
  have h2 := mget_of_mem h (show (y.1, y.2) ∈ m from hy)
  rw [e, h2] at h1
  exact Prod.ext e (Option.some.inj h1).symm
theorem Good.ps {T : Ar4} {m : List (Int × Cl)} (h : Good T m) : PS (SP T m) := by
  refine ⟨?_, ?_⟩
  · rintro a ⟨x, hx, rfl⟩
    exact domT_right h.sm (h.ok x hx)
  · rintro a b ⟨x, hx, rfl⟩ ⟨y, hy, rfl⟩ e
    rw [nd_eq h.nd hx hy e]
theorem TrG.sp {T : Ar4} {m : List (Int × Cl)} {t : Tr Pl} (h : TrG T m t) : ∀ y ∈ t.toL, SP T m y := fun y hy => by
  obtain ⟨x, hx, _, e⟩ := (h.me y).1 hy
  exact ⟨x, hx, e⟩
theorem nodup_len {α : Type} [DecidableEq α] : ∀ {l l' : List α}, l.Nodup → (∀ x ∈ l, x ∈ l') → l.length ≤ l'.length
  | [], _, _, _ => Nat.zero_le _
  | a :: l, l', hn, hs => by
    have hn := List.nodup_cons.1 hn
    have ha := hs a (by simp)
    have := nodup_len (l' := l'.erase a) hn.2 fun x hx => (List.mem_erase_of_ne (show x ≠ a from fun e => hn.1 (e ▸ hx))).2 (hs x (by simp [hx]))
    rw [List.length_erase_of_mem ha] at this
    have := List.length_pos_of_mem ha
    simp only [List.length_cons]
    omega
theorem srt_nodup {S : Pl → Prop} (h : Tr.OrdOn S cfP) : ∀ {l : List Pl}, (∀ y ∈ l, S y) → Tr.Srt cfP l → l.Nodup
  | [], _, _ => List.nodup_nil
  | a :: l, hS, hs => by
    have hs := List.pairwise_cons.1 hs
    exact List.nodup_cons.2 ⟨fun hm => h.irrefl a (hS a (by simp)) (hs.1 a hm), srt_nodup h (fun y hy => hS y (by simp [hy])) hs.2⟩
theorem TrG.len {T : Ar4} {m : List (Int × Cl)} {t : Tr Pl} (h : TrG T m t) (hg : Good T m) : t.size ≤ m.length := by
  rw [Tr.size_len]
  have := nodup_len (l' := m.map (plc T)) (srt_nodup hg.ps.ord h.sp h.so) fun y hy => by
    obtain ⟨x, hx, _, e⟩ := (h.me y).1 hy
    exact List.mem_map.2 ⟨x, hx, e.symm⟩
  simpa using this
end Go.Vc.SZ

/- What a set does with a tree, plainly. -/
set_option maxRecDepth 20000
set_option linter.unusedVariables false
namespace Go.Vc.SZ
open Go Go.Vc Go.Vc.T

section
variable {α : Type}
theorem mem_mset {k : Int} {v : α} : ∀ {m : List (Int × α)}, (m.map (·.1)).Nodup → ∀ x, x ∈ mset k v m ↔ x = (k, v) ∨ (x ∈ m ∧ x.1 ≠ k) := by
  intro m hn x
  have h1 := mset_nodup (k := k) (v := v) hn
  constructor
  · intro hx
    by_cases e : x.1 = k
    · have := mget_of_mem h1 (show (x.1, x.2) ∈ _ from hx)
      rw [e, mget_mset_self] at this
      exact .inl (Prod.ext e (Option.some.inj this).symm)
    · have := mget_of_mem h1 (show (x.1, x.2) ∈ _ from hx)
      rw [mget_mset_ne v e] at this
      exact .inr ⟨mem_of_mget this, e⟩
  · rintro (e | ⟨hx, e⟩)
    · subst e
      exact mem_of_mget (mget_mset_self k v m)
    · have := mget_of_mem hn (show (x.1, x.2) ∈ _ from hx)
      exact mem_of_mget (show mget x.1 (mset k v m) = some x.2 by rw [mget_mset_ne v e]; exact this)
theorem mem_mdel {k : Int} : ∀ {m : List (Int × α)}, (m.map (·.1)).Nodup → ∀ x, x ∈ mdel k m ↔ x ∈ m ∧ x.1 ≠ k := by
  intro m hn x
  have h1 := mdel_nodup (k := k) hn
  constructor
  · intro hx
    by_cases e : x.1 = k
    · have := mget_of_mem h1 (show (x.1, x.2) ∈ _ from hx)
      rw [e, mget_mdel_self hn] at this
      cases this
    · have := mget_of_mem h1 (show (x.1, x.2) ∈ _ from hx)
      rw [mget_mdel_ne e] at this
      exact ⟨mem_of_mget this, e⟩
  · rintro ⟨hx, e⟩
    have := mget_of_mem hn (show (x.1, x.2) ∈ _ from hx)
    exact mem_of_mget (show mget x.1 (mdel k m) = some x.2 by rw [mget_mdel_ne e]; exact this)
end

variable {T : Ar4} {m : List (Int × Cl)} {t : Tr Pl} {k : Int} {c cc0 : Cl}
theorem Good.mset (h : Good T m) (hc : okC c) : Good T (mset k c m) := ⟨mset_nodup h.nd, fun x hx => by
  rcases (mem_mset h.nd x).1 hx with e | ⟨e, _⟩
  · rw [e]; exact hc
  · exact h.ok x e, h.sm⟩
theorem Good.mdel (h : Good T m) : Good T (mdel k m) := ⟨mdel_nodup h.nd, fun x hx => h.ok x ((mem_mdel h.nd x).1 hx).1, h.sm⟩
/-- All that are awake, but for one. -/
structure TrX (T : Ar4) (m : List (Int × Cl)) (k : Int) (t : Tr Pl) : Prop where
  so : Tr.Srt cfP t.toL
  me : ∀ y, y ∈ t.toL ↔ ∃ x ∈ m, x.1 ≠ k ∧ x.2.aw = true ∧ y = plc T x
theorem TrG.x (h : TrG T m t) (hn : ∀ cc0, (k, cc0) ∈ m → cc0.aw = false) : TrX T m k t := ⟨h.so, fun y => by
  rw [h.me]
  constructor
  · rintro ⟨x, hx, ha, e⟩
    exact ⟨x, hx, (fun e2 => by subst e2; rw [hn x.2 hx] at ha; cases ha), ha, e⟩
  · rintro ⟨x, hx, _, ha, e⟩
    exact ⟨x, hx, ha, e⟩⟩
theorem TrG.drop (h : TrG T m t) (hg : Good T m) (hk : (k, cc0) ∈ m) : TrX T m k (Tr.drop cfP (plc T (k, cc0)) t).1 := by
  obtain ⟨s1, s2, _⟩ := Tr.drop_specOn hg.ps.ord (plc T (k, cc0)) ⟨_, hk, rfl⟩ t h.sp h.so
  refine ⟨s1, fun y => ?_⟩
  rw [s2, h.me]
  constructor
  · rintro ⟨⟨x, hx, hxa, e⟩, hne⟩
    refine ⟨x, hx, fun e2 => hne ?_, hxa, e⟩
    rw [e, nd_eq hg.nd hx hk e2]
  · rintro ⟨x, hx, hne, hxa, e⟩
    refine ⟨⟨x, hx, hxa, e⟩, fun e2 => hne ?_⟩
    have := congrArg Pl.d (e.symm.trans e2)
    exact this
theorem TrX.set (h : TrX T m k t) (hg : Good T m) (ha : c.aw = false) : TrG T (mset k c m) t := ⟨h.so, fun y => by
  rw [h.me]
  constructor
  · rintro ⟨x, hx, hne, hxa, e⟩
    exact ⟨x, (mem_mset hg.nd x).2 (.inr ⟨hx, hne⟩), hxa, e⟩
  · rintro ⟨x, hx, hxa, e⟩
    rcases (mem_mset hg.nd x).1 hx with e2 | ⟨hx, hne⟩
    · subst e2; rw [ha] at hxa; cases hxa
    · exact ⟨x, hx, hne, hxa, e⟩⟩
theorem TrX.put (h : TrX T m k t) (hg : Good T m) (hc : okC c) (ha : c.aw = true) : TrG T (mset k c m) (Tr.put cfP (plc T (k, c)) t).1 := by
  have hg' := hg.mset (k := k) hc
  obtain ⟨s1, s2, _⟩ := Tr.put_specOn hg'.ps.ord (plc T (k, c)) ⟨_, (mem_mset hg.nd _).2 (.inl rfl), rfl⟩ t (fun y hy => by
    obtain ⟨x, hx, hne, hxa, e⟩ := (h.me y).1 hy
    exact ⟨x, (mem_mset hg.nd x).2 (.inr ⟨hx, hne⟩), e⟩) h.so
  refine ⟨s1, fun y => ?_⟩
  rw [s2, h.me]
  constructor
  · rintro (e | ⟨x, hx, hne, hxa, e⟩)
    · exact ⟨_, (mem_mset hg.nd _).2 (.inl rfl), ha, e⟩
    · exact ⟨x, (mem_mset hg.nd x).2 (.inr ⟨hx, hne⟩), hxa, e⟩
  · rintro ⟨x, hx, hxa, e⟩
    rcases (mem_mset hg.nd x).1 hx with e2 | ⟨hx, hne⟩
    · subst e2; exact .inl e
    · exact .inr ⟨x, hx, hne, hxa, e⟩
/-- One that sleeps is taken out. -/
theorem TrG.del (h : TrG T m t) (hg : Good T m) (hn : ∀ cc0, (k, cc0) ∈ m → cc0.aw = false) : TrG T (mdel k m) t := ⟨h.so, fun y => by
  rw [h.me]
  constructor
  · rintro ⟨x, hx, hxa, e⟩
    exact ⟨x, (mem_mdel hg.nd x).2 ⟨hx, (fun e2 => by subst e2; rw [hn x.2 hx] at hxa; cases hxa)⟩, hxa, e⟩
  · rintro ⟨x, hx, hxa, e⟩
    exact ⟨x, ((mem_mdel hg.nd x).1 hx).1, hxa, e⟩⟩
theorem TrG.nil : TrG T [] .nil := ⟨List.Pairwise.nil, fun y => by simp [Tr.toL]⟩
theorem Good.nil (h : sm4 T) : Good T [] := ⟨List.nodup_nil, by simp, h⟩
/-- The order of clients hangs on who they are alone. -/
theorem TrG.ext {m2 : List (Int × Cl)} {t2 : Tr Pl} (h : TrG T m t) (h2 : TrG T m2 t2) (hg : Good T m) (he : ∀ x, x ∈ m ↔ x ∈ m2) : t.toL = t2.toL :=
  Tr.srt_extOn hg.ps.ord h.sp h.so h2.so fun y => by
    rw [h.me, h2.me]
    constructor
    · rintro ⟨x, hx, r⟩; exact ⟨x, (he x).1 hx, r⟩
    · rintro ⟨x, hx, r⟩; exact ⟨x, (he x).2 hx, r⟩
end Go.Vc.SZ

/- The formulas of functions, printed by a program (VcTool.lean): each is what the generator's formula comes to, by the kernel's reckoning; whoever proves one has the function's contract. -/
set_option maxRecDepth 100000
set_option maxHeartbeats 1000000
set_option linter.unusedVariables false
namespace Vcz
open Go Go.Vc Go.RowKit
/-! manciple/sorter.New -/
def h10 : Hints := ⟨[], [], [], [], [], [], [], [], []⟩
def f10_vc  (w : World) (R : Ending → World → Prop) : Prop :=
 OpW Proofs.Tryz.prog (valueS (Instr.makeMap 77 none)) w fun (v1 : Value) (w2 : World) =>
 ∃ (r3 : Option Nat),
 v1 = Value.map r3 ∧
 Calls Proofs.Tryz.prog 29 #[Value.func (Fn.func 30) #[] #[]] w2 fun (e4 : Ending) (w5 : World) =>
 ∃ (a6 : Option Addr),
 e4 = Ending.returned (Value.pointer a6) ∧
 OpW Proofs.Tryz.prog (valueS (Instr.box 85 (Value.agg #[Value.int IntKind.i64 0, Value.int IntKind.i64 0, Value.int IntKind.i64 0, Value.int IntKind.i64 0, Value.map r3, Value.pointer a6]))) w5 fun (v7 : Value) (w8 : World) =>
 ∃ (ad9 : Addr), v7 = Value.pointer (some ad9) ∧ R (Ending.returned (Value.pointer (some ad9))) w8
theorem f10_eq  (w : World) (R : Ending → World → Prop) : (fnF Go.Proofs.Tryz.prog h10 Go.Proofs.Tryz.f10 [] w R).den = f10_vc  w R := by kernel_rfl
theorem f10_calls  (w : World) (R : Ending → World → Prop) (h : f10_vc  w R) : Calls Go.Proofs.Tryz.prog 10 (List.toArray []) w R :=
 fn_sound (H := h10) (fn := Go.Proofs.Tryz.f10) (by kernel_rfl) (by kernel_rfl) (by kernel_rfl) ((f10_eq  w R).mpr h)

/-! (*manciple/sorter.Sorter).made -/
def h51 : Hints := ⟨[], [4, 7, 10], [5], [], [], [], [], [], []⟩
def f51_vc (s : Option Addr) (w : World) (R : Ending → World → Prop) : Prop :=
 ∃ (b1 : Bool),
 Gives Proofs.Tryz.prog (binOpS BinOp.neq 39 (Operand.tmp 3) (Operand.const (Value.pointer none)) (Value.pointer s) (Value.pointer none)) (Value.bool b1) ∧
 (b1 = true →
 ∃ (ad2 : Addr),
 s = some ad2 ∧
 ∃ (r3 : Option Nat),
 Reads Proofs.Tryz.prog [] (Instr.loadAt 77 (Value.pointer (some (Addr.mk ad2.block (ad2.off + 4) none)))) w (Value.map r3) ∧
 ∃ (b4 : Bool), Gives Proofs.Tryz.prog (binOpS BinOp.neq 77 (Operand.tmp 9) (Operand.const (Value.map none)) (Value.map r3) (Value.map none)) (Value.bool b4) ∧ R (Ending.returned (Value.bool b4)) w) ∧
 (b1 = false → R (Ending.returned (Value.bool false)) w)
theorem f51_eq (s : Option Addr) (w : World) (R : Ending → World → Prop) : (fnF Go.Proofs.Tryz.prog h51 Go.Proofs.Tryz.f51 [Value.pointer s] w R).den = f51_vc s w R := by kernel_rfl
theorem f51_calls (s : Option Addr) (w : World) (R : Ending → World → Prop) (h : f51_vc s w R) : Calls Go.Proofs.Tryz.prog 51 (List.toArray [Value.pointer s]) w R :=
 fn_sound (H := h51) (fn := Go.Proofs.Tryz.f51) (by kernel_rfl) (by kernel_rfl) (by kernel_rfl) ((f51_eq s w R).mpr h)

/-! (*manciple/sorter.Sorter).look -/
def h55 : Hints := ⟨[4, 6], [14], [10], [], [], [], [], [], []⟩
def f55_vc (s : Option Addr) (id : Int) (w : World) (R : Ending → World → Prop) : Prop :=
 ∀ (n1 : Nat),
 w.heap.size ≤ n1 →
 ∀ (w2 : World),
 Bel w w2 →
 Under [n1] w2 →
 Calls Proofs.Tryz.prog 51 #[Value.pointer s] w2 fun (e3 : Ending) (w4 : World) =>
 ∃ (b5 : Bool),
 e3 = Ending.returned (Value.bool b5) ∧
 Keeps [n1] w2 w4 ∧
 ((!b5) = true →
 ∀ (w6 : World),
 Evo [n1] w4 w6 →
 Under [n1] w6 →
 R
 (Ending.returned
 (Value.tuple
 #[Value.agg
 #[Value.int IntKind.i64 0, Value.int IntKind.i64 0, Value.int IntKind.i64 0, Value.int IntKind.i64 0, Value.int IntKind.i64 0, Value.int IntKind.i64 0, Value.int IntKind.i64 0, Value.bool false],
 Value.bool false]))
 w6) ∧
 ((!b5) = false →
 ∃ (ad7 : Addr),
 s = some ad7 ∧
 ∃ (r8 : Option Nat),
 Reads Proofs.Tryz.prog [] (Instr.loadAt 77 (Value.pointer (some (Addr.mk ad7.block (ad7.off + 4) none)))) w4 (Value.map r8) ∧
 ∃ (x9 : Int),
 ∃ (x10 : Int),
 ∃ (x11 : Int),
 ∃ (x12 : Int),
 ∃ (x13 : Int),
 ∃ (x14 : Int),
 ∃ (x15 : Int),
 ∃ (b16 : Bool),
 ∃ (b17 : Bool),
 Reads Proofs.Tryz.prog [] (Instr.lookup 77 (Value.map r8) (Value.int IntKind.i64 id) true) w4
 (Value.tuple
 #[Value.agg
 #[Value.int IntKind.i64 x9, Value.int IntKind.i64 x10, Value.int IntKind.i64 x11, Value.int IntKind.i64 x12, Value.int IntKind.i64 x13, Value.int IntKind.i64 x14,
 Value.int IntKind.i64 x15, Value.bool b16],
 Value.bool b17]) ∧
 ∀ (n18 : Nat),
 w4.heap.size ≤ n18 →
 ∀ (w19 : World),
 Evo [n1, n18] w4 w19 →
 Under [n1, n18] w19 →
 R
 (Ending.returned
 (Value.tuple
 #[Value.agg
 #[Value.int IntKind.i64 x9, Value.int IntKind.i64 x10, Value.int IntKind.i64 x11, Value.int IntKind.i64 x12, Value.int IntKind.i64 x13, Value.int IntKind.i64 x14,
 Value.int IntKind.i64 x15, Value.bool b16],
 Value.bool b17]))
 w19)
theorem f55_eq (s : Option Addr) (id : Int) (w : World) (R : Ending → World → Prop) : (fnF Go.Proofs.Tryz.prog h55 Go.Proofs.Tryz.f55 [Value.pointer s, Value.int IntKind.i64 id] w R).den = f55_vc s id w R := by kernel_rfl
theorem f55_calls (s : Option Addr) (id : Int) (w : World) (R : Ending → World → Prop) (h : f55_vc s id w R) : Calls Go.Proofs.Tryz.prog 55 (List.toArray [Value.pointer s, Value.int IntKind.i64 id]) w R :=
 fn_sound (H := h55) (fn := Go.Proofs.Tryz.f55) (by kernel_rfl) (by kernel_rfl) (by kernel_rfl) ((f55_eq s id w R).mpr h)

/-! (*manciple/sorter.Sorter).set -/
def h54 : Hints := ⟨[5, 6], [10, 23, 34, 43, 51], [21, 49, 18], [(3, [0, 1, 2, 3, 4, 5, 6, 7, 8]), (4, [0, 1, 2, 3, 4, 5, 6, 7, 8, 9, 10, 11]), (5, [0, 1, 2, 3, 4, 5, 6]), (7, [0, 1, 2, 3, 4, 5, 6, 7, 8])], [], [], [], [], []⟩
def f54_vc (s : Option Addr) (id : Int) (c_0 : Int) (c_1 : Int) (c_2 : Int) (c_3 : Int) (c_4 : Int) (c_5 : Int) (c_6 : Int) (c_7 : Bool) (w : World) (R : Ending → World → Prop) : Prop :=
 ∀ (n1 : Nat),
 w.heap.size ≤ n1 →
 ∃ (ad2 : Addr),
 s = some ad2 ∧
 ∃ (r3 : Option Nat),
 Reads Proofs.Tryz.prog [] (Instr.loadAt 77 (Value.pointer (some (Addr.mk ad2.block (ad2.off + 4) none)))) w (Value.map r3) ∧
 ∃ (x4 : Int),
 ∃ (x5 : Int),
 ∃ (x6 : Int),
 ∃ (x7 : Int),
 ∃ (x8 : Int),
 ∃ (x9 : Int),
 ∃ (x10 : Int),
 ∃ (b11 : Bool),
 ∃ (b12 : Bool),
 Reads Proofs.Tryz.prog [] (Instr.lookup 77 (Value.map r3) (Value.int IntKind.i64 id) true) w
 (Value.tuple
 #[Value.agg
 #[Value.int IntKind.i64 x4, Value.int IntKind.i64 x5, Value.int IntKind.i64 x6, Value.int IntKind.i64 x7, Value.int IntKind.i64 x8, Value.int IntKind.i64 x9, Value.int IntKind.i64 x10,
 Value.bool b11],
 Value.bool b12]) ∧
 ∀ (n13 : Nat),
 w.heap.size ≤ n13 →
 (b12 = true →
 (b11 = true →
 ∃ (ad14 : Addr),
 s = some ad14 ∧
 ∃ (a15 : Option Addr),
 Reads Proofs.Tryz.prog [n13] (Instr.loadAt 78 (Value.pointer (some (Addr.mk ad14.block (ad14.off + 5) none)))) w (Value.pointer a15) ∧
 ∀ (w16 : World),
 Evo [n13] w w16 →
 Under [n1, n13] w16 →
 Calls Proofs.Tryz.prog 70 #[Value.pointer a15, Value.agg #[Value.int IntKind.i64 x4, Value.int IntKind.i64 x5, Value.int IntKind.i64 x6, Value.int IntKind.i64 id]] w16
 fun (e17 : Ending) (w18 : World) =>
 ∃ (b19 : Bool),
 e17 = Ending.returned (Value.bool b19) ∧
 Keeps [n1, n13] w16 w18 ∧
 ∃ (ad20 : Addr),
 s = some ad20 ∧
 ∃ (x21 : Int),
 ∃ (x22 : Int),
 ∃ (x23 : Int),
 ∃ (x24 : Int),
 Reads Proofs.Tryz.prog [] (Instr.loadAt 43 (Value.pointer (some ad20))) w18
 (Value.agg #[Value.int IntKind.i64 x21, Value.int IntKind.i64 x22, Value.int IntKind.i64 x23, Value.int IntKind.i64 x24]) ∧
 ∀ (w25 : World),
 Bel w18 w25 →
 Under [n1, n13] w25 →
 Calls Proofs.Tryz.prog 71
 #[Value.agg #[Value.int IntKind.i64 c_3, Value.int IntKind.i64 c_4, Value.int IntKind.i64 c_5, Value.int IntKind.i64 c_6],
 Value.agg #[Value.int IntKind.i64 x21, Value.int IntKind.i64 x22, Value.int IntKind.i64 x23, Value.int IntKind.i64 x24], Value.int IntKind.i64 c_2]
 w25 fun (e26 : Ending) (w27 : World) =>
 ∃ (x28 : Int),
 ∃ (x29 : Int),
 ∃ (x30 : Int),
 e26 = Ending.returned (Value.agg #[Value.int IntKind.i64 x28, Value.int IntKind.i64 x29, Value.int IntKind.i64 x30]) ∧
 Keeps [n1, n13] w25 w27 ∧
 ∃ (ad31 : Addr),
 s = some ad31 ∧
 ∃ (r32 : Option Nat),
 Reads Proofs.Tryz.prog [n1] (Instr.loadAt 77 (Value.pointer (some (Addr.mk ad31.block (ad31.off + 4) none)))) w27 (Value.map r32) ∧
 ∀ (w33 : World),
 Evo [n1] w27 w33 →
 Under [n1, n13] w33 →
 OpW Proofs.Tryz.prog
 (skipS
 (Instr.mapUpdate 77 (Value.map r32) (Value.int IntKind.i64 id)
 (Value.agg
 #[Value.int IntKind.i64 x28, Value.int IntKind.i64 x29, Value.int IntKind.i64 x30, Value.int IntKind.i64 c_3,
 Value.int IntKind.i64 c_4, Value.int IntKind.i64 c_5, Value.int IntKind.i64 c_6, Value.bool c_7])))
 w33 fun (v34 : Value) (w35 : World) =>
 Keeps [n1, n13] w33 w35 ∧
 (c_7 = true →
 ∃ (ad36 : Addr),
 s = some ad36 ∧
 ∃ (a37 : Option Addr),
 Reads Proofs.Tryz.prog [] (Instr.loadAt 78 (Value.pointer (some (Addr.mk ad36.block (ad36.off + 5) none)))) w35
 (Value.pointer a37) ∧
 ∀ (w38 : World),
 Bel w35 w38 →
 Under [n1, n13] w38 →
 Calls Proofs.Tryz.prog 72
 #[Value.pointer a37,
 Value.agg
 #[Value.int IntKind.i64 x28, Value.int IntKind.i64 x29, Value.int IntKind.i64 x30,
 Value.int IntKind.i64 id]]
 w38 fun (e39 : Ending) (w40 : World) =>
 ∃ (b41 : Bool),
 e39 = Ending.returned (Value.bool b41) ∧
 Keeps [n1, n13] w38 w40 ∧ R (Ending.returned (Value.tuple #[])) w40) ∧
 (c_7 = false → R (Ending.returned (Value.tuple #[])) w35)) ∧
 (b11 = false →
 ∃ (ad42 : Addr),
 s = some ad42 ∧
 ∃ (x43 : Int),
 ∃ (x44 : Int),
 ∃ (x45 : Int),
 ∃ (x46 : Int),
 Reads Proofs.Tryz.prog [n13] (Instr.loadAt 43 (Value.pointer (some ad42))) w
 (Value.agg #[Value.int IntKind.i64 x43, Value.int IntKind.i64 x44, Value.int IntKind.i64 x45, Value.int IntKind.i64 x46]) ∧
 ∀ (w47 : World),
 Evo [n13] w w47 →
 Under [n1, n13] w47 →
 Calls Proofs.Tryz.prog 71
 #[Value.agg #[Value.int IntKind.i64 c_3, Value.int IntKind.i64 c_4, Value.int IntKind.i64 c_5, Value.int IntKind.i64 c_6],
 Value.agg #[Value.int IntKind.i64 x43, Value.int IntKind.i64 x44, Value.int IntKind.i64 x45, Value.int IntKind.i64 x46], Value.int IntKind.i64 c_2]
 w47 fun (e48 : Ending) (w49 : World) =>
 ∃ (x50 : Int),
 ∃ (x51 : Int),
 ∃ (x52 : Int),
 e48 = Ending.returned (Value.agg #[Value.int IntKind.i64 x50, Value.int IntKind.i64 x51, Value.int IntKind.i64 x52]) ∧
 Keeps [n1, n13] w47 w49 ∧
 ∃ (ad53 : Addr),
 s = some ad53 ∧
 ∃ (r54 : Option Nat),
 Reads Proofs.Tryz.prog [n1] (Instr.loadAt 77 (Value.pointer (some (Addr.mk ad53.block (ad53.off + 4) none)))) w49 (Value.map r54) ∧
 ∀ (w55 : World),
 Evo [n1] w49 w55 →
 Under [n1, n13] w55 →
 OpW Proofs.Tryz.prog
 (skipS
 (Instr.mapUpdate 77 (Value.map r54) (Value.int IntKind.i64 id)
 (Value.agg
 #[Value.int IntKind.i64 x50, Value.int IntKind.i64 x51, Value.int IntKind.i64 x52, Value.int IntKind.i64 c_3, Value.int IntKind.i64 c_4,
 Value.int IntKind.i64 c_5, Value.int IntKind.i64 c_6, Value.bool c_7])))
 w55 fun (v56 : Value) (w57 : World) =>
 Keeps [n1, n13] w55 w57 ∧
 (c_7 = true →
 ∃ (ad58 : Addr),
 s = some ad58 ∧
 ∃ (a59 : Option Addr),
 Reads Proofs.Tryz.prog [] (Instr.loadAt 78 (Value.pointer (some (Addr.mk ad58.block (ad58.off + 5) none)))) w57 (Value.pointer a59) ∧
 ∀ (w60 : World),
 Bel w57 w60 →
 Under [n1, n13] w60 →
 Calls Proofs.Tryz.prog 72
 #[Value.pointer a59,
 Value.agg #[Value.int IntKind.i64 x50, Value.int IntKind.i64 x51, Value.int IntKind.i64 x52, Value.int IntKind.i64 id]]
 w60 fun (e61 : Ending) (w62 : World) =>
 ∃ (b63 : Bool),
 e61 = Ending.returned (Value.bool b63) ∧ Keeps [n1, n13] w60 w62 ∧ R (Ending.returned (Value.tuple #[])) w62) ∧
 (c_7 = false → R (Ending.returned (Value.tuple #[])) w57))) ∧
 (b12 = false →
 ∃ (ad64 : Addr),
 s = some ad64 ∧
 ∃ (x65 : Int),
 ∃ (x66 : Int),
 ∃ (x67 : Int),
 ∃ (x68 : Int),
 Reads Proofs.Tryz.prog [n13] (Instr.loadAt 43 (Value.pointer (some ad64))) w
 (Value.agg #[Value.int IntKind.i64 x65, Value.int IntKind.i64 x66, Value.int IntKind.i64 x67, Value.int IntKind.i64 x68]) ∧
 ∀ (w69 : World),
 Evo [n13] w w69 →
 Under [n1, n13] w69 →
 Calls Proofs.Tryz.prog 71
 #[Value.agg #[Value.int IntKind.i64 c_3, Value.int IntKind.i64 c_4, Value.int IntKind.i64 c_5, Value.int IntKind.i64 c_6],
 Value.agg #[Value.int IntKind.i64 x65, Value.int IntKind.i64 x66, Value.int IntKind.i64 x67, Value.int IntKind.i64 x68], Value.int IntKind.i64 c_2]
 w69 fun (e70 : Ending) (w71 : World) =>
 ∃ (x72 : Int),
 ∃ (x73 : Int),
 ∃ (x74 : Int),
 e70 = Ending.returned (Value.agg #[Value.int IntKind.i64 x72, Value.int IntKind.i64 x73, Value.int IntKind.i64 x74]) ∧
 Keeps [n1, n13] w69 w71 ∧
 ∃ (ad75 : Addr),
 s = some ad75 ∧
 ∃ (r76 : Option Nat),
 Reads Proofs.Tryz.prog [n1] (Instr.loadAt 77 (Value.pointer (some (Addr.mk ad75.block (ad75.off + 4) none)))) w71 (Value.map r76) ∧
 ∀ (w77 : World),
 Evo [n1] w71 w77 →
 Under [n1, n13] w77 →
 OpW Proofs.Tryz.prog
 (skipS
 (Instr.mapUpdate 77 (Value.map r76) (Value.int IntKind.i64 id)
 (Value.agg
 #[Value.int IntKind.i64 x72, Value.int IntKind.i64 x73, Value.int IntKind.i64 x74, Value.int IntKind.i64 c_3, Value.int IntKind.i64 c_4,
 Value.int IntKind.i64 c_5, Value.int IntKind.i64 c_6, Value.bool c_7])))
 w77 fun (v78 : Value) (w79 : World) =>
 Keeps [n1, n13] w77 w79 ∧
 (c_7 = true →
 ∃ (ad80 : Addr),
 s = some ad80 ∧
 ∃ (a81 : Option Addr),
 Reads Proofs.Tryz.prog [] (Instr.loadAt 78 (Value.pointer (some (Addr.mk ad80.block (ad80.off + 5) none)))) w79 (Value.pointer a81) ∧
 ∀ (w82 : World),
 Bel w79 w82 →
 Under [n1, n13] w82 →
 Calls Proofs.Tryz.prog 72
 #[Value.pointer a81,
 Value.agg #[Value.int IntKind.i64 x72, Value.int IntKind.i64 x73, Value.int IntKind.i64 x74, Value.int IntKind.i64 id]]
 w82 fun (e83 : Ending) (w84 : World) =>
 ∃ (b85 : Bool), e83 = Ending.returned (Value.bool b85) ∧ Keeps [n1, n13] w82 w84 ∧ R (Ending.returned (Value.tuple #[])) w84) ∧
 (c_7 = false → R (Ending.returned (Value.tuple #[])) w79))
theorem f54_eq (s : Option Addr) (id : Int) (c_0 : Int) (c_1 : Int) (c_2 : Int) (c_3 : Int) (c_4 : Int) (c_5 : Int) (c_6 : Int) (c_7 : Bool) (w : World) (R : Ending → World → Prop) : (fnF Go.Proofs.Tryz.prog h54 Go.Proofs.Tryz.f54 [Value.pointer s, Value.int IntKind.i64 id,
 Value.agg #[Value.int IntKind.i64 c_0, Value.int IntKind.i64 c_1, Value.int IntKind.i64 c_2, Value.int IntKind.i64 c_3, Value.int IntKind.i64 c_4, Value.int IntKind.i64 c_5, Value.int IntKind.i64 c_6, Value.bool c_7]] w R).den = f54_vc s id c_0 c_1 c_2 c_3 c_4 c_5 c_6 c_7 w R := by kernel_rfl
theorem f54_calls (s : Option Addr) (id : Int) (c_0 : Int) (c_1 : Int) (c_2 : Int) (c_3 : Int) (c_4 : Int) (c_5 : Int) (c_6 : Int) (c_7 : Bool) (w : World) (R : Ending → World → Prop) (h : f54_vc s id c_0 c_1 c_2 c_3 c_4 c_5 c_6 c_7 w R) : Calls Go.Proofs.Tryz.prog 54 (List.toArray [Value.pointer s, Value.int IntKind.i64 id,
 Value.agg #[Value.int IntKind.i64 c_0, Value.int IntKind.i64 c_1, Value.int IntKind.i64 c_2, Value.int IntKind.i64 c_3, Value.int IntKind.i64 c_4, Value.int IntKind.i64 c_5, Value.int IntKind.i64 c_6, Value.bool c_7]]) w R :=
 fn_sound (H := h54) (fn := Go.Proofs.Tryz.f54) (by kernel_rfl) (by kernel_rfl) (by kernel_rfl) ((f54_eq s id c_0 c_1 c_2 c_3 c_4 c_5 c_6 c_7 w R).mpr h)

/-! manciple/sorter.small -/
def h52 : Hints := ⟨[1], [8], [7, 14, 11], [], [], [(2, ⟨[(6, .int .i64)], []⟩)], [], [], []⟩
def f52_vc (n_0 : Int) (n_1 : Int) (n_2 : Int) (n_3 : Int) (w : World) (R : Ending → World → Prop) : Prop :=
 ∀ (n1 : Nat),
 w.heap.size ≤ n1 →
 ∃ (J2 : Int × Unit → World → Prop),
 ∃ (J3 : Int × Unit → World → Nat),
 (∀ (w4 : World), Bel w w4 → Under [n1] w4 → J2 (0, ()) w4) ∧
 ∀ (x5 : Int) (w6 : World),
 J2 (x5, ()) w6 →
 (decide (x5 < 4) = true →
 ∃ (x7 : Int),
 Gives Proofs.Tryz.prog (Instr.index 43 (Value.agg #[Value.int IntKind.i64 n_0, Value.int IntKind.i64 n_1, Value.int IntKind.i64 n_2, Value.int IntKind.i64 n_3]) (Value.int IntKind.i64 x5)) (Value.int IntKind.i64 x7) ∧
 (decide (x7 < 0) = true → R (Ending.returned (Value.bool false)) w6) ∧
 (decide (x7 < 0) = false →
 (decide (x7 > 9007199254740992) = true → R (Ending.returned (Value.bool false)) w6) ∧
 (decide (x7 > 9007199254740992) = false → J2 (IntKind.i64.wrap (x5 + 1), ()) w6 ∧ J3 (IntKind.i64.wrap (x5 + 1), ()) w6 < J3 (x5, ()) w6))) ∧
 (decide (x5 < 4) = false → R (Ending.returned (Value.bool true)) w6)
theorem f52_eq (n_0 : Int) (n_1 : Int) (n_2 : Int) (n_3 : Int) (w : World) (R : Ending → World → Prop) : (fnF Go.Proofs.Tryz.prog h52 Go.Proofs.Tryz.f52 [Value.agg #[Value.int IntKind.i64 n_0, Value.int IntKind.i64 n_1, Value.int IntKind.i64 n_2, Value.int IntKind.i64 n_3]] w R).den = f52_vc n_0 n_1 n_2 n_3 w R := by kernel_rfl
theorem f52_calls (n_0 : Int) (n_1 : Int) (n_2 : Int) (n_3 : Int) (w : World) (R : Ending → World → Prop) (h : f52_vc n_0 n_1 n_2 n_3 w R) : Calls Go.Proofs.Tryz.prog 52 (List.toArray [Value.agg #[Value.int IntKind.i64 n_0, Value.int IntKind.i64 n_1, Value.int IntKind.i64 n_2, Value.int IntKind.i64 n_3]]) w R :=
 fn_sound (H := h52) (fn := Go.Proofs.Tryz.f52) (by kernel_rfl) (by kernel_rfl) (by kernel_rfl) ((f52_eq n_0 n_1 n_2 n_3 w R).mpr h)

/-! manciple/sorter.heavy -/
def h56 : Hints := ⟨[], [], [5], [], [], [], [], [], []⟩
def f56_vc (weight : Int) (w : World) (R : Ending → World → Prop) : Prop :=
 (decide (weight < 1) = true → R (Ending.returned (Value.bool true)) w) ∧ (decide (weight < 1) = false → R (Ending.returned (Value.bool (decide (weight > 1000)))) w)
theorem f56_eq (weight : Int) (w : World) (R : Ending → World → Prop) : (fnF Go.Proofs.Tryz.prog h56 Go.Proofs.Tryz.f56 [Value.int IntKind.i64 weight] w R).den = f56_vc weight w R := by kernel_rfl
theorem f56_calls (weight : Int) (w : World) (R : Ending → World → Prop) (h : f56_vc weight w R) : Calls Go.Proofs.Tryz.prog 56 (List.toArray [Value.int IntKind.i64 weight]) w R :=
 fn_sound (H := h56) (fn := Go.Proofs.Tryz.f56) (by kernel_rfl) (by kernel_rfl) (by kernel_rfl) ((f56_eq weight w R).mpr h)

/-! (*manciple/sorter.Sorter).turn -/
def h57 : Hints := ⟨[7, 9], [25], [13, 21, 29], [], [], [], [], [], []⟩
def f57_vc (s : Option Addr) (id : Int) (how : Value) (w : World) (R : Ending → World → Prop) : Prop :=
 Calls Proofs.Tryz.prog 51 #[Value.pointer s] w fun (e1 : Ending) (w2 : World) =>
 ∃ (b3 : Bool),
 e1 = Ending.returned (Value.bool b3) ∧
 ((!b3) = true → R (Ending.returned (Value.int IntKind.i64 40)) w2) ∧
 ((!b3) = false →
 Calls Proofs.Tryz.prog 55 #[Value.pointer s, Value.int IntKind.i64 id] w2 fun (e4 : Ending) (w5 : World) =>
 ∃ (x6 : Int),
 ∃ (x7 : Int),
 ∃ (x8 : Int),
 ∃ (x9 : Int),
 ∃ (x10 : Int),
 ∃ (x11 : Int),
 ∃ (x12 : Int),
 ∃ (b13 : Bool),
 ∃ (b14 : Bool),
 e4 =
 Ending.returned
 (Value.tuple
 #[Value.agg
 #[Value.int IntKind.i64 x6, Value.int IntKind.i64 x7, Value.int IntKind.i64 x8, Value.int IntKind.i64 x9, Value.int IntKind.i64 x10, Value.int IntKind.i64 x11, Value.int IntKind.i64 x12,
 Value.bool b13],
 Value.bool b14]) ∧
 ∀ (n15 : Nat),
 w5.heap.size ≤ n15 →
 ((!b14) = true → ∀ (w16 : World), Evo [n15] w5 w16 → Under [n15] w16 → R (Ending.returned (Value.int IntKind.i64 43)) w16) ∧
 ((!b14) = false →
 ∀ (w17 : World),
 Evo [n15] w5 w17 →
 Under [n15] w17 →
 OpW Proofs.Tryz.prog
 (invokeS how
 #[Value.agg
 #[Value.int IntKind.i64 x6, Value.int IntKind.i64 x7, Value.int IntKind.i64 x8, Value.int IntKind.i64 x9, Value.int IntKind.i64 x10, Value.int IntKind.i64 x11, Value.int IntKind.i64 x12,
 Value.bool b13]])
 w17 fun (v18 : Value) (w19 : World) =>
 ∃ (x20 : Int),
 ∃ (x21 : Int),
 ∃ (x22 : Int),
 ∃ (x23 : Int),
 ∃ (x24 : Int),
 ∃ (x25 : Int),
 ∃ (x26 : Int),
 ∃ (b27 : Bool),
 ∃ (x28 : Int),
 v18 =
 Value.tuple
 #[Value.agg
 #[Value.int IntKind.i64 x20, Value.int IntKind.i64 x21, Value.int IntKind.i64 x22, Value.int IntKind.i64 x23, Value.int IntKind.i64 x24, Value.int IntKind.i64 x25,
 Value.int IntKind.i64 x26, Value.bool b27],
 Value.int IntKind.i64 x28] ∧
 Keeps [n15] w17 w19 ∧
 ∀ (n29 : Nat),
 w19.heap.size ≤ n29 →
 ((x28 == 0) = true →
 ∀ (w30 : World),
 Evo [n29] w19 w30 →
 Under [n15, n29] w30 →
 Calls Proofs.Tryz.prog 54
 #[Value.pointer s, Value.int IntKind.i64 id,
 Value.agg
 #[Value.int IntKind.i64 x20, Value.int IntKind.i64 x21, Value.int IntKind.i64 x22, Value.int IntKind.i64 x23, Value.int IntKind.i64 x24,
 Value.int IntKind.i64 x25, Value.int IntKind.i64 x26, Value.bool b27]]
 w30 fun (e31 : Ending) (w32 : World) =>
 e31 = Ending.returned (Value.tuple #[]) ∧ Keeps [n15, n29] w30 w32 ∧ R (Ending.returned (Value.int IntKind.i64 x28)) w32) ∧
 ((x28 == 0) = false → ∀ (w33 : World), Evo [n29] w19 w33 → Under [n15, n29] w33 → R (Ending.returned (Value.int IntKind.i64 x28)) w33)))
theorem f57_eq (s : Option Addr) (id : Int) (how : Value) (w : World) (R : Ending → World → Prop) : (fnF Go.Proofs.Tryz.prog h57 Go.Proofs.Tryz.f57 [Value.pointer s, Value.int IntKind.i64 id, how] w R).den = f57_vc s id how w R := by kernel_rfl
theorem f57_calls (s : Option Addr) (id : Int) (how : Value) (w : World) (R : Ending → World → Prop) (h : f57_vc s id how w R) : Calls Go.Proofs.Tryz.prog 57 (List.toArray [Value.pointer s, Value.int IntKind.i64 id, how]) w R :=
 fn_sound (H := h57) (fn := Go.Proofs.Tryz.f57) (by kernel_rfl) (by kernel_rfl) (by kernel_rfl) ((f57_eq s id how w R).mpr h)

/-! (*manciple/sorter.Sorter).Give$1 -/
def h61 : Hints := ⟨[2, 3, 5], [], [20, 16], [], [], [], [], [], []⟩
def f61_vc (c_0 : Int) (c_1 : Int) (c_2 : Int) (c_3 : Int) (c_4 : Int) (c_5 : Int) (c_6 : Int) (c_7 : Bool) (cap0 : Value) (w : World) (R : Ending → World → Prop) : Prop :=
 ∀ (n1 : Nat),
 w.heap.size ≤ n1 →
 ∀ (n2 : Nat),
 w.heap.size ≤ n2 →
 ∃ (x3 : Int),
 ∃ (x4 : Int),
 ∃ (x5 : Int),
 ∃ (x6 : Int),
 Reads Proofs.Tryz.prog [] (Instr.loadAt 43 cap0) w (Value.agg #[Value.int IntKind.i64 x3, Value.int IntKind.i64 x4, Value.int IntKind.i64 x5, Value.int IntKind.i64 x6]) ∧
 ∀ (w7 : World),
 Bel w w7 →
 Under [n1, n2] w7 →
 Calls Proofs.Tryz.prog 62
 #[Value.agg #[Value.int IntKind.i64 c_3, Value.int IntKind.i64 c_4, Value.int IntKind.i64 c_5, Value.int IntKind.i64 c_6],
 Value.agg #[Value.int IntKind.i64 x3, Value.int IntKind.i64 x4, Value.int IntKind.i64 x5, Value.int IntKind.i64 x6]]
 w7 fun (e8 : Ending) (w9 : World) =>
 ∃ (x10 : Int),
 ∃ (x11 : Int),
 ∃ (x12 : Int),
 ∃ (x13 : Int),
 ∃ (b14 : Bool),
 e8 = Ending.returned (Value.tuple #[Value.agg #[Value.int IntKind.i64 x10, Value.int IntKind.i64 x11, Value.int IntKind.i64 x12, Value.int IntKind.i64 x13], Value.bool b14]) ∧
 Keeps [n1, n2] w7 w9 ∧
 ∀ (n15 : Nat),
 w9.heap.size ≤ n15 →
 ((!b14) = true →
 ∀ (w16 : World),
 Evo [n2, n15] w9 w16 →
 Under [n1, n2, n15] w16 →
 R
 (Ending.returned
 (Value.tuple
 #[Value.agg
 #[Value.int IntKind.i64 c_0, Value.int IntKind.i64 c_1, Value.int IntKind.i64 c_2, Value.int IntKind.i64 c_3, Value.int IntKind.i64 c_4, Value.int IntKind.i64 c_5,
 Value.int IntKind.i64 c_6, Value.bool c_7],
 Value.int IntKind.i64 41]))
 w16) ∧
 ((!b14) = false →
 ∀ (w17 : World),
 Evo [n15] w9 w17 →
 Under [n1, n2, n15] w17 →
 Calls Proofs.Tryz.prog 52 #[Value.agg #[Value.int IntKind.i64 x10, Value.int IntKind.i64 x11, Value.int IntKind.i64 x12, Value.int IntKind.i64 x13]] w17
 fun (e18 : Ending) (w19 : World) =>
 ∃ (b20 : Bool),
 e18 = Ending.returned (Value.bool b20) ∧
 Keeps [n1, n2, n15] w17 w19 ∧
 ((!b20) = true →
 ∀ (w21 : World),
 Evo [n2] w19 w21 →
 Under [n1, n2, n15] w21 →
 R
 (Ending.returned
 (Value.tuple
 #[Value.agg
 #[Value.int IntKind.i64 c_0, Value.int IntKind.i64 c_1, Value.int IntKind.i64 c_2, Value.int IntKind.i64 c_3, Value.int IntKind.i64 c_4,
 Value.int IntKind.i64 c_5, Value.int IntKind.i64 c_6, Value.bool c_7],
 Value.int IntKind.i64 41]))
 w21) ∧
 ((!b20) = false →
 ∀ (w22 : World),
 Evo [n2, n1] w19 w22 →
 Under [n1, n2, n15] w22 →
 R
 (Ending.returned
 (Value.tuple
 #[Value.agg
 #[Value.int IntKind.i64 c_0, Value.int IntKind.i64 c_1, Value.int IntKind.i64 c_2, Value.int IntKind.i64 x10, Value.int IntKind.i64 x11,
 Value.int IntKind.i64 x12, Value.int IntKind.i64 x13, Value.bool c_7],
 Value.int IntKind.i64 0]))
 w22))
theorem f61_eq (c_0 : Int) (c_1 : Int) (c_2 : Int) (c_3 : Int) (c_4 : Int) (c_5 : Int) (c_6 : Int) (c_7 : Bool) (cap0 : Value) (w : World) (R : Ending → World → Prop) : (fnF Go.Proofs.Tryz.prog h61 Go.Proofs.Tryz.f61 [Value.agg #[Value.int IntKind.i64 c_0, Value.int IntKind.i64 c_1, Value.int IntKind.i64 c_2, Value.int IntKind.i64 c_3, Value.int IntKind.i64 c_4, Value.int IntKind.i64 c_5, Value.int IntKind.i64 c_6, Value.bool c_7], cap0] w R).den = f61_vc c_0 c_1 c_2 c_3 c_4 c_5 c_6 c_7 cap0 w R := by kernel_rfl
theorem f61_calls (c_0 : Int) (c_1 : Int) (c_2 : Int) (c_3 : Int) (c_4 : Int) (c_5 : Int) (c_6 : Int) (c_7 : Bool) (cap0 : Value) (w : World) (R : Ending → World → Prop) (h : f61_vc c_0 c_1 c_2 c_3 c_4 c_5 c_6 c_7 cap0 w R) : Calls Go.Proofs.Tryz.prog 61 (List.toArray [Value.agg #[Value.int IntKind.i64 c_0, Value.int IntKind.i64 c_1, Value.int IntKind.i64 c_2, Value.int IntKind.i64 c_3, Value.int IntKind.i64 c_4, Value.int IntKind.i64 c_5, Value.int IntKind.i64 c_6, Value.bool c_7], cap0]) w R :=
 fn_sound (H := h61) (fn := Go.Proofs.Tryz.f61) (by kernel_rfl) (by kernel_rfl) (by kernel_rfl) ((f61_eq c_0 c_1 c_2 c_3 c_4 c_5 c_6 c_7 cap0 w R).mpr h)

/-! (*manciple/sorter.Sorter).Take$1 -/
def h58 : Hints := ⟨[2, 3, 5], [], [15], [], [], [], [], [], []⟩
def f58_vc (c_0 : Int) (c_1 : Int) (c_2 : Int) (c_3 : Int) (c_4 : Int) (c_5 : Int) (c_6 : Int) (c_7 : Bool) (cap0 : Value) (w : World) (R : Ending → World → Prop) : Prop :=
 ∀ (n1 : Nat),
 w.heap.size ≤ n1 →
 ∀ (n2 : Nat),
 w.heap.size ≤ n2 →
 ∃ (x3 : Int),
 ∃ (x4 : Int),
 ∃ (x5 : Int),
 ∃ (x6 : Int),
 Reads Proofs.Tryz.prog [] (Instr.loadAt 43 cap0) w (Value.agg #[Value.int IntKind.i64 x3, Value.int IntKind.i64 x4, Value.int IntKind.i64 x5, Value.int IntKind.i64 x6]) ∧
 ∀ (w7 : World),
 Bel w w7 →
 Under [n1, n2] w7 →
 Calls Proofs.Tryz.prog 59
 #[Value.agg #[Value.int IntKind.i64 c_3, Value.int IntKind.i64 c_4, Value.int IntKind.i64 c_5, Value.int IntKind.i64 c_6],
 Value.agg #[Value.int IntKind.i64 x3, Value.int IntKind.i64 x4, Value.int IntKind.i64 x5, Value.int IntKind.i64 x6]]
 w7 fun (e8 : Ending) (w9 : World) =>
 ∃ (x10 : Int),
 ∃ (x11 : Int),
 ∃ (x12 : Int),
 ∃ (x13 : Int),
 ∃ (b14 : Bool),
 e8 = Ending.returned (Value.tuple #[Value.agg #[Value.int IntKind.i64 x10, Value.int IntKind.i64 x11, Value.int IntKind.i64 x12, Value.int IntKind.i64 x13], Value.bool b14]) ∧
 Keeps [n1, n2] w7 w9 ∧
 ∀ (n15 : Nat),
 w9.heap.size ≤ n15 →
 ((!b14) = true →
 ∀ (w16 : World),
 Evo [n2, n15] w9 w16 →
 Under [n1, n2, n15] w16 →
 R
 (Ending.returned
 (Value.tuple
 #[Value.agg
 #[Value.int IntKind.i64 c_0, Value.int IntKind.i64 c_1, Value.int IntKind.i64 c_2, Value.int IntKind.i64 c_3, Value.int IntKind.i64 c_4, Value.int IntKind.i64 c_5,
 Value.int IntKind.i64 c_6, Value.bool c_7],
 Value.int IntKind.i64 30]))
 w16) ∧
 ((!b14) = false →
 ∀ (w17 : World),
 Evo [n2, n1, n15] w9 w17 →
 Under [n1, n2, n15] w17 →
 R
 (Ending.returned
 (Value.tuple
 #[Value.agg
 #[Value.int IntKind.i64 c_0, Value.int IntKind.i64 c_1, Value.int IntKind.i64 c_2, Value.int IntKind.i64 x10, Value.int IntKind.i64 x11, Value.int IntKind.i64 x12,
 Value.int IntKind.i64 x13, Value.bool c_7],
 Value.int IntKind.i64 0]))
 w17)
theorem f58_eq (c_0 : Int) (c_1 : Int) (c_2 : Int) (c_3 : Int) (c_4 : Int) (c_5 : Int) (c_6 : Int) (c_7 : Bool) (cap0 : Value) (w : World) (R : Ending → World → Prop) : (fnF Go.Proofs.Tryz.prog h58 Go.Proofs.Tryz.f58 [Value.agg #[Value.int IntKind.i64 c_0, Value.int IntKind.i64 c_1, Value.int IntKind.i64 c_2, Value.int IntKind.i64 c_3, Value.int IntKind.i64 c_4, Value.int IntKind.i64 c_5, Value.int IntKind.i64 c_6, Value.bool c_7], cap0] w R).den = f58_vc c_0 c_1 c_2 c_3 c_4 c_5 c_6 c_7 cap0 w R := by kernel_rfl
theorem f58_calls (c_0 : Int) (c_1 : Int) (c_2 : Int) (c_3 : Int) (c_4 : Int) (c_5 : Int) (c_6 : Int) (c_7 : Bool) (cap0 : Value) (w : World) (R : Ending → World → Prop) (h : f58_vc c_0 c_1 c_2 c_3 c_4 c_5 c_6 c_7 cap0 w R) : Calls Go.Proofs.Tryz.prog 58 (List.toArray [Value.agg #[Value.int IntKind.i64 c_0, Value.int IntKind.i64 c_1, Value.int IntKind.i64 c_2, Value.int IntKind.i64 c_3, Value.int IntKind.i64 c_4, Value.int IntKind.i64 c_5, Value.int IntKind.i64 c_6, Value.bool c_7], cap0]) w R :=
 fn_sound (H := h58) (fn := Go.Proofs.Tryz.f58) (by kernel_rfl) (by kernel_rfl) (by kernel_rfl) ((f58_eq c_0 c_1 c_2 c_3 c_4 c_5 c_6 c_7 cap0 w R).mpr h)

/-! (*manciple/sorter.Sorter).Wake$1 -/
def h60 : Hints := ⟨[2, 3], [], [], [], [], [], [], [], []⟩
def f60_vc (c_0 : Int) (c_1 : Int) (c_2 : Int) (c_3 : Int) (c_4 : Int) (c_5 : Int) (c_6 : Int) (c_7 : Bool) (cap0 : Value) (w : World) (R : Ending → World → Prop) : Prop :=
 ∀ (n1 : Nat),
 w.heap.size ≤ n1 →
 ∀ (n2 : Nat),
 w.heap.size ≤ n2 →
 ∃ (b3 : Bool),
 Reads Proofs.Tryz.prog [] (Instr.loadAt 4 cap0) w (Value.bool b3) ∧
 ∀ (w4 : World),
 Evo [n2, n1] w w4 →
 Under [n1, n2] w4 →
 R
 (Ending.returned
 (Value.tuple
 #[Value.agg
 #[Value.int IntKind.i64 c_0, Value.int IntKind.i64 c_1, Value.int IntKind.i64 c_2, Value.int IntKind.i64 c_3, Value.int IntKind.i64 c_4, Value.int IntKind.i64 c_5, Value.int IntKind.i64 c_6, Value.bool b3],
 Value.int IntKind.i64 0]))
 w4
theorem f60_eq (c_0 : Int) (c_1 : Int) (c_2 : Int) (c_3 : Int) (c_4 : Int) (c_5 : Int) (c_6 : Int) (c_7 : Bool) (cap0 : Value) (w : World) (R : Ending → World → Prop) : (fnF Go.Proofs.Tryz.prog h60 Go.Proofs.Tryz.f60 [Value.agg #[Value.int IntKind.i64 c_0, Value.int IntKind.i64 c_1, Value.int IntKind.i64 c_2, Value.int IntKind.i64 c_3, Value.int IntKind.i64 c_4, Value.int IntKind.i64 c_5, Value.int IntKind.i64 c_6, Value.bool c_7], cap0] w R).den = f60_vc c_0 c_1 c_2 c_3 c_4 c_5 c_6 c_7 cap0 w R := by kernel_rfl
theorem f60_calls (c_0 : Int) (c_1 : Int) (c_2 : Int) (c_3 : Int) (c_4 : Int) (c_5 : Int) (c_6 : Int) (c_7 : Bool) (cap0 : Value) (w : World) (R : Ending → World → Prop) (h : f60_vc c_0 c_1 c_2 c_3 c_4 c_5 c_6 c_7 cap0 w R) : Calls Go.Proofs.Tryz.prog 60 (List.toArray [Value.agg #[Value.int IntKind.i64 c_0, Value.int IntKind.i64 c_1, Value.int IntKind.i64 c_2, Value.int IntKind.i64 c_3, Value.int IntKind.i64 c_4, Value.int IntKind.i64 c_5, Value.int IntKind.i64 c_6, Value.bool c_7], cap0]) w R :=
 fn_sound (H := h60) (fn := Go.Proofs.Tryz.f60) (by kernel_rfl) (by kernel_rfl) (by kernel_rfl) ((f60_eq c_0 c_1 c_2 c_3 c_4 c_5 c_6 c_7 cap0 w R).mpr h)

/-! (*manciple/sorter.Sorter).Put -/
def h36 : Hints := ⟨[7], [], [15, 19, 22], [], [], [], [], [], []⟩
def f36_vc (s : Option Addr) (id : Int) (weight : Int) (w : World) (R : Ending → World → Prop) : Prop :=
 Calls Proofs.Tryz.prog 55 #[Value.pointer s, Value.int IntKind.i64 id] w fun (e1 : Ending) (w2 : World) =>
 ∃ (x3 : Int),
 ∃ (x4 : Int),
 ∃ (x5 : Int),
 ∃ (x6 : Int),
 ∃ (x7 : Int),
 ∃ (x8 : Int),
 ∃ (x9 : Int),
 ∃ (b10 : Bool),
 ∃ (b11 : Bool),
 e1 =
 Ending.returned
 (Value.tuple
 #[Value.agg #[Value.int IntKind.i64 x3, Value.int IntKind.i64 x4, Value.int IntKind.i64 x5, Value.int IntKind.i64 x6, Value.int IntKind.i64 x7, Value.int IntKind.i64 x8, Value.int IntKind.i64 x9, Value.bool b10],
 Value.bool b11]) ∧
 ∀ (n12 : Nat),
 w2.heap.size ≤ n12 →
 ∀ (w13 : World),
 Evo [n12] w2 w13 →
 Under [n12] w13 →
 Calls Proofs.Tryz.prog 51 #[Value.pointer s] w13 fun (e14 : Ending) (w15 : World) =>
 ∃ (b16 : Bool),
 e14 = Ending.returned (Value.bool b16) ∧
 Keeps [n12] w13 w15 ∧
 ((!b16) = true → R (Ending.returned (Value.int IntKind.i64 40)) w15) ∧
 ((!b16) = false →
 Calls Proofs.Tryz.prog 56 #[Value.int IntKind.i64 weight] w15 fun (e17 : Ending) (w18 : World) =>
 ∃ (b19 : Bool),
 e17 = Ending.returned (Value.bool b19) ∧
 Keeps [n12] w15 w18 ∧
 (b19 = true → R (Ending.returned (Value.int IntKind.i64 41)) w18) ∧
 (b19 = false →
 (b11 = true → R (Ending.returned (Value.int IntKind.i64 42)) w18) ∧
 (b11 = false →
 Calls Proofs.Tryz.prog 54
 #[Value.pointer s, Value.int IntKind.i64 id,
 Value.agg
 #[Value.int IntKind.i64 0, Value.int IntKind.i64 0, Value.int IntKind.i64 weight, Value.int IntKind.i64 0, Value.int IntKind.i64 0, Value.int IntKind.i64 0,
 Value.int IntKind.i64 0, Value.bool true]]
 w18 fun (e20 : Ending) (w21 : World) => e20 = Ending.returned (Value.tuple #[]) ∧ Keeps [n12] w18 w21 ∧ R (Ending.returned (Value.int IntKind.i64 0)) w21)))
theorem f36_eq (s : Option Addr) (id : Int) (weight : Int) (w : World) (R : Ending → World → Prop) : (fnF Go.Proofs.Tryz.prog h36 Go.Proofs.Tryz.f36 [Value.pointer s, Value.int IntKind.i64 id, Value.int IntKind.i64 weight] w R).den = f36_vc s id weight w R := by kernel_rfl
theorem f36_calls (s : Option Addr) (id : Int) (weight : Int) (w : World) (R : Ending → World → Prop) (h : f36_vc s id weight w R) : Calls Go.Proofs.Tryz.prog 36 (List.toArray [Value.pointer s, Value.int IntKind.i64 id, Value.int IntKind.i64 weight]) w R :=
 fn_sound (H := h36) (fn := Go.Proofs.Tryz.f36) (by kernel_rfl) (by kernel_rfl) (by kernel_rfl) ((f36_eq s id weight w R).mpr h)

/-! (*manciple/sorter.Sorter).Total$1 -/
def h53 : Hints := ⟨[4], [], [], [], [], [], [], [], []⟩
def f53_vc (id : Int) (c_0 : Int) (c_1 : Int) (c_2 : Int) (c_3 : Int) (c_4 : Int) (c_5 : Int) (c_6 : Int) (c_7 : Bool) (cap0 : Value) (w : World) (R : Ending → World → Prop) : Prop :=
 ∀ (n1 : Nat),
 w.heap.size ≤ n1 →
 ∃ (a2 : Option Addr),
 Reads Proofs.Tryz.prog [] (Instr.loadAt 39 cap0) w (Value.pointer a2) ∧
 ∀ (w3 : World),
 Bel w w3 →
 Under [n1] w3 →
 Calls Proofs.Tryz.prog 54
 #[Value.pointer a2, Value.int IntKind.i64 id,
 Value.agg #[Value.int IntKind.i64 c_0, Value.int IntKind.i64 c_1, Value.int IntKind.i64 c_2, Value.int IntKind.i64 c_3, Value.int IntKind.i64 c_4, Value.int IntKind.i64 c_5, Value.int IntKind.i64 c_6, Value.bool c_7]]
 w3 fun (e4 : Ending) (w5 : World) => e4 = Ending.returned (Value.tuple #[]) ∧ Keeps [n1] w3 w5 ∧ R (Ending.returned (Value.tuple #[])) w5
theorem f53_eq (id : Int) (c_0 : Int) (c_1 : Int) (c_2 : Int) (c_3 : Int) (c_4 : Int) (c_5 : Int) (c_6 : Int) (c_7 : Bool) (cap0 : Value) (w : World) (R : Ending → World → Prop) : (fnF Go.Proofs.Tryz.prog h53 Go.Proofs.Tryz.f53 [Value.int IntKind.i64 id,
 Value.agg #[Value.int IntKind.i64 c_0, Value.int IntKind.i64 c_1, Value.int IntKind.i64 c_2, Value.int IntKind.i64 c_3, Value.int IntKind.i64 c_4, Value.int IntKind.i64 c_5, Value.int IntKind.i64 c_6, Value.bool c_7], cap0] w R).den = f53_vc id c_0 c_1 c_2 c_3 c_4 c_5 c_6 c_7 cap0 w R := by kernel_rfl
theorem f53_calls (id : Int) (c_0 : Int) (c_1 : Int) (c_2 : Int) (c_3 : Int) (c_4 : Int) (c_5 : Int) (c_6 : Int) (c_7 : Bool) (cap0 : Value) (w : World) (R : Ending → World → Prop) (h : f53_vc id c_0 c_1 c_2 c_3 c_4 c_5 c_6 c_7 cap0 w R) : Calls Go.Proofs.Tryz.prog 53 (List.toArray [Value.int IntKind.i64 id,
 Value.agg #[Value.int IntKind.i64 c_0, Value.int IntKind.i64 c_1, Value.int IntKind.i64 c_2, Value.int IntKind.i64 c_3, Value.int IntKind.i64 c_4, Value.int IntKind.i64 c_5, Value.int IntKind.i64 c_6, Value.bool c_7], cap0]) w R :=
 fn_sound (H := h53) (fn := Go.Proofs.Tryz.f53) (by kernel_rfl) (by kernel_rfl) (by kernel_rfl) ((f53_eq id c_0 c_1 c_2 c_3 c_4 c_5 c_6 c_7 cap0 w R).mpr h)

/-! (*manciple/sorter.Sorter).Drop -/
def h40 : Hints := ⟨[], [12], [10], [], [], [], [], [], []⟩
def f40_vc (s : Option Addr) (id : Int) (w : World) (R : Ending → World → Prop) : Prop :=
 Calls Proofs.Tryz.prog 42 #[Value.pointer s, Value.int IntKind.i64 id, Value.bool false] w fun (e1 : Ending) (w2 : World) =>
 ∃ (x3 : Int),
 e1 = Ending.returned (Value.int IntKind.i64 x3) ∧
 ((x3 == 0) = true →
 ∃ (ad4 : Addr),
 s = some ad4 ∧
 ∃ (r5 : Option Nat),
 Reads Proofs.Tryz.prog [] (Instr.loadAt 77 (Value.pointer (some (Addr.mk ad4.block (ad4.off + 4) none)))) w2 (Value.map r5) ∧
 OpW Proofs.Tryz.prog (builtin Builtin.delete #[77, 2] 0 #[false, false] #[Value.map r5, Value.int IntKind.i64 id]) w2 fun (v6 : Value) (w7 : World) =>
 v6 = Value.tuple #[] ∧ R (Ending.returned (Value.int IntKind.i64 x3)) w7) ∧
 ((x3 == 0) = false → R (Ending.returned (Value.int IntKind.i64 x3)) w2)
theorem f40_eq (s : Option Addr) (id : Int) (w : World) (R : Ending → World → Prop) : (fnF Go.Proofs.Tryz.prog h40 Go.Proofs.Tryz.f40 [Value.pointer s, Value.int IntKind.i64 id] w R).den = f40_vc s id w R := by kernel_rfl
theorem f40_calls (s : Option Addr) (id : Int) (w : World) (R : Ending → World → Prop) (h : f40_vc s id w R) : Calls Go.Proofs.Tryz.prog 40 (List.toArray [Value.pointer s, Value.int IntKind.i64 id]) w R :=
 fn_sound (H := h40) (fn := Go.Proofs.Tryz.f40) (by kernel_rfl) (by kernel_rfl) (by kernel_rfl) ((f40_eq s id w R).mpr h)

/-! (*manciple/sorter.Sorter).Wake -/
def h42 : Hints := ⟨[], [], [], [], [], [], [], [], []⟩
def f42_vc (s : Option Addr) (id : Int) (on : Bool) (w : World) (R : Ending → World → Prop) : Prop :=
 OpW Proofs.Tryz.prog (valueS (Instr.box 4 (Value.bool on))) w fun (v1 : Value) (w2 : World) =>
 ∃ (ad3 : Addr),
 v1 = Value.pointer (some ad3) ∧
 Calls Proofs.Tryz.prog 57 #[Value.pointer s, Value.int IntKind.i64 id, Value.func (Fn.func 60) #[] #[Value.pointer (some ad3)]] w2 fun (e4 : Ending) (w5 : World) =>
 ∃ (x6 : Int), e4 = Ending.returned (Value.int IntKind.i64 x6) ∧ R (Ending.returned (Value.int IntKind.i64 x6)) w5
theorem f42_eq (s : Option Addr) (id : Int) (on : Bool) (w : World) (R : Ending → World → Prop) : (fnF Go.Proofs.Tryz.prog h42 Go.Proofs.Tryz.f42 [Value.pointer s, Value.int IntKind.i64 id, Value.bool on] w R).den = f42_vc s id on w R := by kernel_rfl
theorem f42_calls (s : Option Addr) (id : Int) (on : Bool) (w : World) (R : Ending → World → Prop) (h : f42_vc s id on w R) : Calls Go.Proofs.Tryz.prog 42 (List.toArray [Value.pointer s, Value.int IntKind.i64 id, Value.bool on]) w R :=
 fn_sound (H := h42) (fn := Go.Proofs.Tryz.f42) (by kernel_rfl) (by kernel_rfl) (by kernel_rfl) ((f42_eq s id on w R).mpr h)

/-! (*manciple/sorter.Sorter).Give -/
def h43 : Hints := ⟨[], [], [], [], [], [], [], [], []⟩
def f43_vc (s : Option Addr) (id : Int) (n_0 : Int) (n_1 : Int) (n_2 : Int) (n_3 : Int) (w : World) (R : Ending → World → Prop) : Prop :=
 OpW Proofs.Tryz.prog (valueS (Instr.box 43 (Value.agg #[Value.int IntKind.i64 n_0, Value.int IntKind.i64 n_1, Value.int IntKind.i64 n_2, Value.int IntKind.i64 n_3]))) w fun (v1 : Value) (w2 : World) =>
 ∃ (ad3 : Addr),
 v1 = Value.pointer (some ad3) ∧
 Calls Proofs.Tryz.prog 57 #[Value.pointer s, Value.int IntKind.i64 id, Value.func (Fn.func 61) #[] #[Value.pointer (some ad3)]] w2 fun (e4 : Ending) (w5 : World) =>
 ∃ (x6 : Int), e4 = Ending.returned (Value.int IntKind.i64 x6) ∧ R (Ending.returned (Value.int IntKind.i64 x6)) w5
theorem f43_eq (s : Option Addr) (id : Int) (n_0 : Int) (n_1 : Int) (n_2 : Int) (n_3 : Int) (w : World) (R : Ending → World → Prop) : (fnF Go.Proofs.Tryz.prog h43 Go.Proofs.Tryz.f43 [Value.pointer s, Value.int IntKind.i64 id, Value.agg #[Value.int IntKind.i64 n_0, Value.int IntKind.i64 n_1, Value.int IntKind.i64 n_2, Value.int IntKind.i64 n_3]] w R).den = f43_vc s id n_0 n_1 n_2 n_3 w R := by kernel_rfl
theorem f43_calls (s : Option Addr) (id : Int) (n_0 : Int) (n_1 : Int) (n_2 : Int) (n_3 : Int) (w : World) (R : Ending → World → Prop) (h : f43_vc s id n_0 n_1 n_2 n_3 w R) : Calls Go.Proofs.Tryz.prog 43 (List.toArray [Value.pointer s, Value.int IntKind.i64 id, Value.agg #[Value.int IntKind.i64 n_0, Value.int IntKind.i64 n_1, Value.int IntKind.i64 n_2, Value.int IntKind.i64 n_3]]) w R :=
 fn_sound (H := h43) (fn := Go.Proofs.Tryz.f43) (by kernel_rfl) (by kernel_rfl) (by kernel_rfl) ((f43_eq s id n_0 n_1 n_2 n_3 w R).mpr h)

/-! (*manciple/sorter.Sorter).Take -/
def h39 : Hints := ⟨[], [], [], [], [], [], [], [], []⟩
def f39_vc (s : Option Addr) (id : Int) (n_0 : Int) (n_1 : Int) (n_2 : Int) (n_3 : Int) (w : World) (R : Ending → World → Prop) : Prop :=
 OpW Proofs.Tryz.prog (valueS (Instr.box 43 (Value.agg #[Value.int IntKind.i64 n_0, Value.int IntKind.i64 n_1, Value.int IntKind.i64 n_2, Value.int IntKind.i64 n_3]))) w fun (v1 : Value) (w2 : World) =>
 ∃ (ad3 : Addr),
 v1 = Value.pointer (some ad3) ∧
 Calls Proofs.Tryz.prog 57 #[Value.pointer s, Value.int IntKind.i64 id, Value.func (Fn.func 58) #[] #[Value.pointer (some ad3)]] w2 fun (e4 : Ending) (w5 : World) =>
 ∃ (x6 : Int), e4 = Ending.returned (Value.int IntKind.i64 x6) ∧ R (Ending.returned (Value.int IntKind.i64 x6)) w5
theorem f39_eq (s : Option Addr) (id : Int) (n_0 : Int) (n_1 : Int) (n_2 : Int) (n_3 : Int) (w : World) (R : Ending → World → Prop) : (fnF Go.Proofs.Tryz.prog h39 Go.Proofs.Tryz.f39 [Value.pointer s, Value.int IntKind.i64 id, Value.agg #[Value.int IntKind.i64 n_0, Value.int IntKind.i64 n_1, Value.int IntKind.i64 n_2, Value.int IntKind.i64 n_3]] w R).den = f39_vc s id n_0 n_1 n_2 n_3 w R := by kernel_rfl
theorem f39_calls (s : Option Addr) (id : Int) (n_0 : Int) (n_1 : Int) (n_2 : Int) (n_3 : Int) (w : World) (R : Ending → World → Prop) (h : f39_vc s id n_0 n_1 n_2 n_3 w R) : Calls Go.Proofs.Tryz.prog 39 (List.toArray [Value.pointer s, Value.int IntKind.i64 id, Value.agg #[Value.int IntKind.i64 n_0, Value.int IntKind.i64 n_1, Value.int IntKind.i64 n_2, Value.int IntKind.i64 n_3]]) w R :=
 fn_sound (H := h39) (fn := Go.Proofs.Tryz.f39) (by kernel_rfl) (by kernel_rfl) (by kernel_rfl) ((f39_eq s id n_0 n_1 n_2 n_3 w R).mpr h)

/-! (*manciple/sorter.Sorter).Sum -/
def h38 : Hints := ⟨[4, 6], [], [], [], [], [], [], [], []⟩
def f38_vc (s : Option Addr) (id : Int) (w : World) (R : Ending → World → Prop) : Prop :=
 ∀ (n1 : Nat),
 w.heap.size ≤ n1 →
 ∀ (w2 : World),
 Bel w w2 →
 Under [n1] w2 →
 Calls Proofs.Tryz.prog 55 #[Value.pointer s, Value.int IntKind.i64 id] w2 fun (e3 : Ending) (w4 : World) =>
 ∃ (x5 : Int),
 ∃ (x6 : Int),
 ∃ (x7 : Int),
 ∃ (x8 : Int),
 ∃ (x9 : Int),
 ∃ (x10 : Int),
 ∃ (x11 : Int),
 ∃ (b12 : Bool),
 ∃ (b13 : Bool),
 e3 =
 Ending.returned
 (Value.tuple
 #[Value.agg
 #[Value.int IntKind.i64 x5, Value.int IntKind.i64 x6, Value.int IntKind.i64 x7, Value.int IntKind.i64 x8, Value.int IntKind.i64 x9, Value.int IntKind.i64 x10, Value.int IntKind.i64 x11,
 Value.bool b12],
 Value.bool b13]) ∧
 Keeps [n1] w2 w4 ∧
 ∀ (n14 : Nat),
 w4.heap.size ≤ n14 →
 ∀ (w15 : World),
 Evo [n1, n14] w4 w15 →
 Under [n1, n14] w15 → R (Ending.returned (Value.tuple #[Value.agg #[Value.int IntKind.i64 x8, Value.int IntKind.i64 x9, Value.int IntKind.i64 x10, Value.int IntKind.i64 x11], Value.bool b13])) w15
theorem f38_eq (s : Option Addr) (id : Int) (w : World) (R : Ending → World → Prop) : (fnF Go.Proofs.Tryz.prog h38 Go.Proofs.Tryz.f38 [Value.pointer s, Value.int IntKind.i64 id] w R).den = f38_vc s id w R := by kernel_rfl
theorem f38_calls (s : Option Addr) (id : Int) (w : World) (R : Ending → World → Prop) (h : f38_vc s id w R) : Calls Go.Proofs.Tryz.prog 38 (List.toArray [Value.pointer s, Value.int IntKind.i64 id]) w R :=
 fn_sound (H := h38) (fn := Go.Proofs.Tryz.f38) (by kernel_rfl) (by kernel_rfl) (by kernel_rfl) ((f38_eq s id w R).mpr h)

/-! (*manciple/sorter.Sorter).Share -/
def h48 : Hints := ⟨[4, 6], [], [], [], [], [], [], [], []⟩
def f48_vc (s : Option Addr) (id : Int) (w : World) (R : Ending → World → Prop) : Prop :=
 ∀ (n1 : Nat),
 w.heap.size ≤ n1 →
 ∀ (w2 : World),
 Bel w w2 →
 Under [n1] w2 →
 Calls Proofs.Tryz.prog 55 #[Value.pointer s, Value.int IntKind.i64 id] w2 fun (e3 : Ending) (w4 : World) =>
 ∃ (x5 : Int),
 ∃ (x6 : Int),
 ∃ (x7 : Int),
 ∃ (x8 : Int),
 ∃ (x9 : Int),
 ∃ (x10 : Int),
 ∃ (x11 : Int),
 ∃ (b12 : Bool),
 ∃ (b13 : Bool),
 e3 =
 Ending.returned
 (Value.tuple
 #[Value.agg
 #[Value.int IntKind.i64 x5, Value.int IntKind.i64 x6, Value.int IntKind.i64 x7, Value.int IntKind.i64 x8, Value.int IntKind.i64 x9, Value.int IntKind.i64 x10, Value.int IntKind.i64 x11,
 Value.bool b12],
 Value.bool b13]) ∧
 Keeps [n1] w2 w4 ∧
 ∀ (n14 : Nat),
 w4.heap.size ≤ n14 →
 ∀ (w15 : World),
 Evo [n1, n14] w4 w15 → Under [n1, n14] w15 → R (Ending.returned (Value.tuple #[Value.agg #[Value.int IntKind.i64 x5, Value.int IntKind.i64 x6, Value.int IntKind.i64 x7], Value.bool b13])) w15
theorem f48_eq (s : Option Addr) (id : Int) (w : World) (R : Ending → World → Prop) : (fnF Go.Proofs.Tryz.prog h48 Go.Proofs.Tryz.f48 [Value.pointer s, Value.int IntKind.i64 id] w R).den = f48_vc s id w R := by kernel_rfl
theorem f48_calls (s : Option Addr) (id : Int) (w : World) (R : Ending → World → Prop) (h : f48_vc s id w R) : Calls Go.Proofs.Tryz.prog 48 (List.toArray [Value.pointer s, Value.int IntKind.i64 id]) w R :=
 fn_sound (H := h48) (fn := Go.Proofs.Tryz.f48) (by kernel_rfl) (by kernel_rfl) (by kernel_rfl) ((f48_eq s id w R).mpr h)

/-! (*manciple/sorter.Sorter).Order -/
def h45 : Hints := ⟨[5], [9, 16], [7, 15], [], [], [(4, ⟨[(3, .sl), (14, .int .i64)], []⟩)], [], [], []⟩
def f45_vc (s : Option Addr) (w : World) (R : Ending → World → Prop) : Prop :=
 Calls Proofs.Tryz.prog 51 #[Value.pointer s] w fun (e1 : Ending) (w2 : World) =>
 ∃ (b3 : Bool),
 e1 = Ending.returned (Value.bool b3) ∧
 (b3 = true →
 ∃ (ad4 : Addr),
 s = some ad4 ∧
 ∃ (a5 : Option Addr),
 Reads Proofs.Tryz.prog [] (Instr.loadAt 78 (Value.pointer (some (Addr.mk ad4.block (ad4.off + 5) none)))) w2 (Value.pointer a5) ∧
 Calls Proofs.Tryz.prog 63 #[Value.pointer a5] w2 fun (e6 : Ending) (w7 : World) =>
 ∃ (a8 : Option Addr),
 ∃ (n9 : Nat),
 ∃ (n10 : Nat),
 e6 = Ending.returned (Value.slice a8 n9 n10) ∧
 ∃ (J11 : (Option Addr × Nat × Nat) × Int × Unit → World → Prop),
 ∃ (J12 : (Option Addr × Nat × Nat) × Int × Unit → World → Nat),
 J11 ((none, 0, 0), 0, ()) w7 ∧
 ∀ (a13 : Option Addr) (n14 n15 : Nat) (x16 : Int) (w17 : World),
 J11 ((a13, n14, n15), x16, ()) w17 →
 (decide (x16 < (↑n9 : Int)) = true →
 ∃ (ad18 : Addr),
 Gives Proofs.Tryz.prog (Instr.indexAt 123 (Value.slice a8 n9 n10) (Value.int IntKind.i64 x16)) (Value.pointer (some ad18)) ∧
 ∃ (x19 : Int),
 ∃ (x20 : Int),
 ∃ (x21 : Int),
 ∃ (x22 : Int),
 Reads Proofs.Tryz.prog [] (Instr.loadAt 81 (Value.pointer (some ad18))) w17
 (Value.agg #[Value.int IntKind.i64 x19, Value.int IntKind.i64 x20, Value.int IntKind.i64 x21, Value.int IntKind.i64 x22]) ∧
 ∀ (n23 : Nat),
 w17.heap.size ≤ n23 →
 ∀ (w24 : World),
 Evo [n23] w17 w24 →
 Under [n23] w24 →
 OpW Proofs.Tryz.prog (valueS (Instr.buildSlice 66 1 #[(0, Value.int IntKind.i64 x22)])) w24 fun (v25 : Value) (w26 : World) =>
 ∃ (a27 : Option Addr),
 ∃ (n28 : Nat),
 ∃ (n29 : Nat),
 v25 = Value.slice a27 n28 n29 ∧
 Keeps [n23] w24 w26 ∧
 OpW Proofs.Tryz.prog (builtin Builtin.append #[66, 66] 66 #[false, false] #[Value.slice a13 n14 n15, Value.slice a27 n28 n29]) w26
 fun (v30 : Value) (w31 : World) =>
 ∃ (a32 : Option Addr),
 ∃ (n33 : Nat),
 ∃ (n34 : Nat),
 v30 = Value.slice a32 n33 n34 ∧
 Keeps [n23] w26 w31 ∧
 J11 ((a32, n33, n34), IntKind.i64.wrap (x16 + 1), ()) w31 ∧
 J12 ((a32, n33, n34), IntKind.i64.wrap (x16 + 1), ()) w31 < J12 ((a13, n14, n15), x16, ()) w17) ∧
 (decide (x16 < (↑n9 : Int)) = false → R (Ending.returned (Value.slice a13 n14 n15)) w17)) ∧
 (b3 = false → R (Ending.returned (Value.slice none 0 0)) w2)
theorem f45_eq (s : Option Addr) (w : World) (R : Ending → World → Prop) : (fnF Go.Proofs.Tryz.prog h45 Go.Proofs.Tryz.f45 [Value.pointer s] w R).den = f45_vc s w R := by kernel_rfl
theorem f45_calls (s : Option Addr) (w : World) (R : Ending → World → Prop) (h : f45_vc s w R) : Calls Go.Proofs.Tryz.prog 45 (List.toArray [Value.pointer s]) w R :=
 fn_sound (H := h45) (fn := Go.Proofs.Tryz.f45) (by kernel_rfl) (by kernel_rfl) (by kernel_rfl) ((f45_eq s w R).mpr h)

/-! (*manciple/sorter.Sorter).Long -/
def h41 : Hints := ⟨[], [7], [5], [], [], [], [], [], []⟩
def f41_vc (s : Option Addr) (w : World) (R : Ending → World → Prop) : Prop :=
 Calls Proofs.Tryz.prog 51 #[Value.pointer s] w fun (e1 : Ending) (w2 : World) =>
 ∃ (b3 : Bool),
 e1 = Ending.returned (Value.bool b3) ∧
 ((!b3) = true → R (Ending.returned (Value.int IntKind.i64 0)) w2) ∧
 ((!b3) = false →
 ∃ (ad4 : Addr),
 s = some ad4 ∧
 ∃ (r5 : Option Nat),
 Reads Proofs.Tryz.prog [] (Instr.loadAt 77 (Value.pointer (some (Addr.mk ad4.block (ad4.off + 4) none)))) w2 (Value.map r5) ∧
 ∃ (x6 : Int), Reads Proofs.Tryz.prog [] (Builtin.len_ #[77] 3 #[Value.map r5]) w2 (Value.int IntKind.i64 x6) ∧ R (Ending.returned (Value.int IntKind.i64 x6)) w2)
theorem f41_eq (s : Option Addr) (w : World) (R : Ending → World → Prop) : (fnF Go.Proofs.Tryz.prog h41 Go.Proofs.Tryz.f41 [Value.pointer s] w R).den = f41_vc s w R := by kernel_rfl
theorem f41_calls (s : Option Addr) (w : World) (R : Ending → World → Prop) (h : f41_vc s w R) : Calls Go.Proofs.Tryz.prog 41 (List.toArray [Value.pointer s]) w R :=
 fn_sound (H := h41) (fn := Go.Proofs.Tryz.f41) (by kernel_rfl) (by kernel_rfl) (by kernel_rfl) ((f41_eq s w R).mpr h)

end Vcz

/- A map's entry made, then filled: two steps that are a set. -/
namespace Go.Vc
open Go Go.RowKit

section
variable {κ α : Type} {P : Program} {w W : World} {M : Nat → Prop} {gs : List Nat} {r : Nat} {kt : TypeId} {kf : κ → Value} {vf : α → Value} {m : List (κ × α)}

/-- An own map with an entry that is to be filled. -/
structure OwnE (w : World) (M : Nat → Prop) (gs : List Nat) (W : World) (r : Nat) (kf : κ → Value) (vf : α → Value) (m : List (κ × α)) (j : Nat) (k : κ) (stamp : Nat) : Prop where
  mine : w.heap.size ≤ r ∨ M r
  apart : r ∉ gs
  obj : ∃ (es : Array MapEntry) (clock : Nat), W.heap[r]? = some (.map es clock) ∧ EntR kf vf es.toList m ∧ (es.toList.map (·.born)).Nodup ∧ (∀ e ∈ es.toList, e.born < clock) ∧ ∃ e, es[j]? = some e ∧ e.born = stamp
  key : ∃ v, m[j]? = some (k, v)
theorem OwnE.lt {j : Nat} {k : κ} {stamp : Nat} (h : OwnE w M gs W r kf vf m j k stamp) : r < W.heap.size := by
  obtain ⟨es, clock, hr, _⟩ := h.obj
  exact (Array.getElem?_eq_some_iff.1 hr).1

theorem opw_mapEntryO [DecidableEq κ] {t et : TypeId} {k : κ} {z : α} {K : Value → World → Prop} (Ko : KeyOk P kt kf) (ht : P.underlying t = some (.map kt et)) (hz : midx k m = none → pureRun P (zeroValue et) = some (vf z)) (hA : AtF w M gs W) (ho : OwnM w M gs W r kf vf m)
    (h : ∀ w' m1 j v0 stamp, AtF w M gs w' → Keeps gs W w' → Chg (fun b => b = r) W w' → OwnE w M gs w' r kf vf m1 j k stamp → (∀ v, m1.set j (k, v) = mset k v m) → K (.tuple #[vf v0, .int .i64 (stamp : Int)]) w') : OpW P (valueS (Instr.mapEntry t (.map (some r)) (kf k))) W K := by
  have hl := ho.lt
  obtain ⟨es, clock, hr, he, hn, hb⟩ := ho.obj
  unfold OpW
  cases hm : midx k m with
  | none =>
    have hrun : (Instr.mapEntry t (.map (some r)) (kf k)).run P W = .ok (.tuple #[vf z, .int .i64 (clock : Int)]) { W with heap := W.heap.setIfInBounds r (.map (es.push { key := kf k, val := vf z, born := clock }) (clock + 1)) } := by
      unfold Instr.mapEntry
      rw [run_bind_ok (run_underlying ht W)]
      simp only
      rw [run_bind_ok (run_getObj_m hr)]
      simp only
      rw [run_bind_ok (Ko.chk false k W), run_bind_ok (findKey_run Ko k W he), hm]
      simp only [Option.bind_none]
      rw [run_bind_ok (pureRun_run (hz hm) W), run_bind_ok (run_setObj_m hr _)]
      rfl
    rw [run_valueS hrun]
    have hlen := EntR.len he
    refine h _ (m ++ [(k, z)]) m.length z clock (hA.setObjF ho.mine) (keeps_setObj ho.apart) chg_setObj ⟨ho.mine, ho.apart, ⟨_, _, setObj_heap hl _, ?_, ?_, ?_, ⟨{ key := kf k, val := vf z, born := clock }, ?_, rfl⟩⟩, ⟨z, by simp⟩⟩ fun v => by rw [mset_new hm]; simp
    · rw [Array.toList_push]
      unfold EntR at he ⊢
      rw [List.map_append, List.map_append, he]
      rfl
    · rw [Array.toList_push, List.map_append]
      refine List.nodup_append.2 ⟨hn, by simp, fun a ha b hb' => ?_⟩
      simp at hb'
      obtain ⟨e, hem, rfl⟩ := List.mem_map.1 ha
      have := hb e hem
      omega
    · intro e hem
      rw [Array.toList_push] at hem
      rcases List.mem_append.1 hem with h1 | h1
      · have := hb e h1; omega
      · simp at h1; subst h1; simp
    · rw [← hlen, Array.length_toList]; simp
  | some j =>
    obtain ⟨v0, hv0⟩ := midx_key hm
    obtain ⟨e0, he0, hk0, hv00⟩ := EntR.at_ he hv0
    have he0' : es[j]? = some e0 := by simpa using he0
    have hks : (Instr.keyThatStays (kf k) (kf k)).run P W = .ok (kf k) W := by
      unfold Instr.keyThatStays
      rw [if_pos (Ko.bits k)]
      rfl
    have hrun : (Instr.mapEntry t (.map (some r)) (kf k)).run P W = .ok (.tuple #[vf v0, .int .i64 (e0.born : Int)]) { W with heap := W.heap.setIfInBounds r (.map (es.modify j fun e => { e with key := kf k }) clock) } := by
      unfold Instr.mapEntry
      rw [run_bind_ok (run_underlying ht W)]
      simp only
      rw [run_bind_ok (run_getObj_m hr)]
      simp only
      rw [run_bind_ok (Ko.chk false k W), run_bind_ok (findKey_run Ko k W he), hm]
      simp only [Option.bind_some, hv0, Option.map_some, he0', Option.getD_some, hk0]
      rw [run_bind_ok hks, run_bind_ok (run_setObj_m hr _)]
      rfl
    have hmod : es.modify j (fun e => { e with key := kf k }) = es := by
      apply Array.ext_getElem?
      intro i
      rw [Array.getElem?_modify]
      split
      · rename_i hij
        subst hij
        rw [he0']
        simp only [Option.map_some, Option.some.injEq]
        rw [← hk0]
      · rfl
    rw [run_valueS hrun, hmod]
    exact h _ m j v0 e0.born (hA.setObjF ho.mine) (keeps_setObj ho.apart) chg_setObj ⟨ho.mine, ho.apart, ⟨_, _, setObj_heap hl _, he, hn, hb, ⟨e0, he0', rfl⟩⟩, ⟨v0, hv0⟩⟩ fun v => (mset_at hm).symm

theorem opw_mapEntry [DecidableEq κ] {t et : TypeId} {k : κ} {z : α} {K : Value → World → Prop} (Ko : KeyOk P kt kf) (ht : P.underlying t = some (.map kt et)) (hz : pureRun P (zeroValue et) = some (vf z)) (hA : AtF w M gs W) (ho : OwnM w M gs W r kf vf m)
    (h : ∀ w' m1 j v0 stamp, AtF w M gs w' → Keeps gs W w' → Chg (fun b => b = r) W w' → OwnE w M gs w' r kf vf m1 j k stamp → (∀ v, m1.set j (k, v) = mset k v m) → K (.tuple #[vf v0, .int .i64 (stamp : Int)]) w') : OpW P (valueS (Instr.mapEntry t (.map (some r)) (kf k))) W K :=
  opw_mapEntryO Ko ht (fun _ => hz) hA ho h
/-- The same, of a key that is there. -/
theorem opw_mapEntryH [DecidableEq κ] {t et : TypeId} {k : κ} {z : α} {K : Value → World → Prop} (Ko : KeyOk P kt kf) (ht : P.underlying t = some (.map kt et)) (hz : mget k m = some z) (hA : AtF w M gs W) (ho : OwnM w M gs W r kf vf m)
    (h : ∀ w' m1 j v0 stamp, AtF w M gs w' → Keeps gs W w' → Chg (fun b => b = r) W w' → OwnE w M gs w' r kf vf m1 j k stamp → (∀ v, m1.set j (k, v) = mset k v m) → K (.tuple #[vf v0, .int .i64 (stamp : Int)]) w') : OpW P (valueS (Instr.mapEntry t (.map (some r)) (kf k))) W K :=
  opw_mapEntryO (z := z) Ko ht (fun e => by rw [mget_idx, e] at hz; cases hz) hA ho h
theorem opw_entryStore {t : TypeId} {k : κ} {j stamp : Nat} {v : α} {K : Value → World → Prop} (hA : AtF w M gs W) (ho : OwnE w M gs W r kf vf m j k stamp)
    (h : ∀ w', AtF w M gs w' → Keeps gs W w' → Chg (fun b => b = r) W w' → OwnM w M gs w' r kf vf (m.set j (k, v)) → K undef w') : OpW P (skipS (Instr.entryStore t (.map (some r)) (.int .i64 (stamp : Int)) (vf v))) W K := by
  have hl := ho.lt
  obtain ⟨es, clock, hr, he, hn, hb, e0, he0, hst⟩ := ho.obj
  obtain ⟨v0, hv0⟩ := ho.key
  obtain ⟨e1, he1, hk1, _⟩ := EntR.at_ he hv0
  have he1' : es[j]? = some e1 := by simpa using he1
  rw [he0] at he1'
  cases he1'
  have hjl := (Array.getElem?_eq_some_iff.1 he0).1
  have hfind : es.findIdx? (fun e => (e.born : Int) == (stamp : Int)) = some j := by
    rw [Array.findIdx?_eq_some_iff_getElem]
    refine ⟨hjl, ?_, fun q hq => ?_⟩
    · have := (Array.getElem?_eq_some_iff.1 he0).2
      simp [this, hst]
    · have hql : q < es.size := by omega
      have h2 : (es.toList.map (·.born))[q]'(by simpa using hql) ≠ (es.toList.map (·.born))[j]'(by simpa using hjl) := (List.pairwise_iff_getElem.1 hn) q j (by simpa using hql) (by simpa using hjl) hq
      have h3 := (Array.getElem?_eq_some_iff.1 he0).2
      simp only [List.getElem_map, Array.getElem_toList, h3, hst] at h2
      simp only [beq_iff_eq]
      intro e
      exact h2 (by omega)
  have hrun : (Instr.entryStore t (.map (some r)) (.int .i64 (stamp : Int)) (vf v)).run P W = .ok () { W with heap := W.heap.setIfInBounds r (.map (es.modify j fun e => { e with val := vf v }) clock) } := by
    unfold Instr.entryStore
    simp only
    rw [run_bind_ok (run_getObj_m hr)]
    simp only
    have hi : (asInt (.int .i64 (stamp : Int))).run P W = .ok (stamp : Int) W := rfl
    rw [run_bind_ok hi]
    simp only [hfind]
    exact run_setObj_m hr _
  unfold OpW skipS
  rw [run_bind_ok hrun]
  refine h _ (hA.setObjF ho.mine) (keeps_setObj ho.apart) chg_setObj ⟨ho.mine, ho.apart, _, clock, setObj_heap hl _, ?_, ?_, ?_⟩
  · unfold EntR at he ⊢
    rw [List.map_set, ← he]
    apply List.ext_getElem?
    intro i
    simp only [List.getElem?_map, Array.getElem?_toList, Array.getElem?_modify, List.getElem?_set, List.length_map, Array.length_toList]
    by_cases hij : j = i
    · subst hij
      have h3 := (Array.getElem?_eq_some_iff.1 he0).2
      simp [hjl, h3, hk1]
    · simp [hij]
  · have : (es.modify j fun e => { e with val := vf v }).toList.map (·.born) = es.toList.map (·.born) := by
      apply List.ext_getElem?
      intro i
      simp only [List.getElem?_map, Array.getElem?_toList, Array.getElem?_modify]
      by_cases hij : j = i
      · subst hij; simp [he0]
      · simp [hij]
    rw [this]
    exact hn
  · intro e hem
    obtain ⟨i, hi⟩ := List.mem_iff_getElem?.1 hem
    simp only [Array.getElem?_toList, Array.getElem?_modify] at hi
    by_cases hij : j = i
    · subst hij
      simp [he0] at hi
      subst hi
      exact hb e0 (List.mem_of_getElem? (i := j) (by simpa using he0))
    · simp [hij] at hi
      exact hb e (List.mem_of_getElem? (i := i) (by simpa using hi))
end
end Go.Vc

/- A range over a map: its iterator, the next round, the entry. -/
namespace Go.Vc
open Go Go.RowKit

theorem EntR_split {κ α : Type} {kf : κ → Value} {vf : α → Value} {A B : List MapEntry} {e : MapEntry} {rest : List (κ × α)} (h : EntR kf vf (A ++ e :: B) rest) :
    ∃ r1 x r2, rest = r1 ++ x :: r2 ∧ EntR kf vf (A ++ B) (r1 ++ r2) ∧ e.key = kf x.1 ∧ e.val = vf x.2 := by
  unfold EntR at h
  rw [List.map_append, List.map_cons] at h
  obtain ⟨r1, r', rfl, h1, h2⟩ := List.map_eq_append_iff.1 h.symm
  obtain ⟨x, r2, rfl, h3, h4⟩ := List.map_eq_cons_iff.1 h2
  refine ⟨r1, x, r2, rfl, ?_, (Prod.mk.inj h3).1.symm, (Prod.mk.inj h3).2.symm⟩
  unfold EntR
  rw [List.map_append, List.map_append, h1, h4]

theorem leftOf_push {es : Array MapEntry} {seen : Array Nat} {A B : List MapEntry} {e : MapEntry} (hn : (es.toList.map (·.born)).Nodup) (h : (leftOf es seen).toList = A ++ e :: B) :
    (leftOf es (seen.push e.born)).toList = A ++ B := by
  have h1 : (leftOf es (seen.push e.born)).toList = ((leftOf es seen).toList).filter (fun x => x.born != e.born) := by
    unfold leftOf
    rw [Array.toList_filter, Array.toList_filter, List.filter_filter]
    congr 1
    funext x
    by_cases hx : x.born = e.born
    · simp [hx]
    · simp [hx]
  have h2 : ((A ++ e :: B).map (·.born)).Nodup := by
    rw [← h]
    unfold leftOf
    rw [Array.toList_filter]
    exact hn.sublist (List.filter_sublist.map _)
  rw [h1, h, List.filter_append, List.filter_cons]
  rw [List.map_append, List.map_cons, List.nodup_append] at h2
  obtain ⟨h3, h4, h5⟩ := h2
  rw [List.nodup_cons] at h4
  have eA : A.filter (fun x => x.born != e.born) = A := List.filter_eq_self.2 fun x hx => by
    have := h5 x.born (List.mem_map.2 ⟨x, hx, rfl⟩) e.born (List.mem_cons_self ..)
    simpa using this
  have eB : B.filter (fun x => x.born != e.born) = B := List.filter_eq_self.2 fun x hx => by
    have : x.born ≠ e.born := fun he => h4.1 (he ▸ List.mem_map.2 ⟨x, hx, rfl⟩)
    simpa using this
  rw [eA, eB]
  simp

section
variable {κ α : Type} {P : Program} {w W W' : World} {M N : Nat → Prop} {gs gs' ds : List Nat} {q r : Nat} {kf : κ → Value} {vf : α → Value} {m rest : List (κ × α)} {cur : Option (κ × α)}

/-- An iterator over a map: what is left to come, and the entry at hand. -/
structure Itr (w : World) (M : Nat → Prop) (gs : List Nat) (W : World) (q r : Nat) (kf : κ → Value) (vf : α → Value) (m rest : List (κ × α)) (cur : Option (κ × α)) : Prop where
  mine : w.heap.size ≤ q ∨ M q
  apart : q ∉ gs
  obj : ∃ (es : Array MapEntry) (clock since c0 : Nat) (seen : Array Nat), W.heap[r]? = some (.map es clock) ∧ EntR kf vf es.toList m ∧ (es.toList.map (·.born)).Nodup ∧ (∀ e ∈ es.toList, e.born < clock) ∧
    W.heap[q]? = some (.mapIter (some r) since seen c0) ∧ (∀ e ∈ es.toList, e.born < since) ∧ since ≤ c0 ∧ since ≤ clock ∧ EntR kf vf (leftOf es seen).toList rest ∧
    (∀ x, cur = some x → c0 = clock ∧ ∃ e ∈ es.toList, seen.back? = some e.born ∧ e.key = kf x.1 ∧ e.val = vf x.2)

theorem Itr.lts (h : Itr w M gs W q r kf vf m rest cur) : q < W.heap.size ∧ r < W.heap.size ∧ q ≠ r := by
  obtain ⟨es, clock, since, c0, seen, h1, _, _, _, h2, _⟩ := h.obj
  refine ⟨(Array.getElem?_eq_some_iff.1 h2).1, (Array.getElem?_eq_some_iff.1 h1).1, fun e => ?_⟩
  subst e
  rw [h1] at h2
  cases h2
theorem Itr.keep (h : Itr w M gs W q r kf vf m rest cur) (hq : W'.heap[q]? = W.heap[q]?) (hr : W'.heap[r]? = W.heap[r]?) : Itr w M gs W' q r kf vf m rest cur := by
  obtain ⟨es, clock, since, c0, seen, h1, h2, h3, h4, h5, h6⟩ := h.obj
  exact ⟨h.mine, h.apart, es, clock, since, c0, seen, by rw [hr]; exact h1, h2, h3, h4, by rw [hq]; exact h5, h6⟩
theorem Itr.chg (h : Itr w M gs W q r kf vf m rest cur) (hc : Chg N W W') (hq : ¬ N q) (hr : ¬ N r) : Itr w M gs W' q r kf vf m rest cur :=
  h.keep (hc.block q h.lts.1 hq) (hc.block r h.lts.2.1 hr)
theorem Itr.call (h : Itr w M gs W q r kf vf m rest cur) (hb : Bel W W') : Itr w M gs W' q r kf vf m rest cur := h.keep (hb.block h.lts.1) (hb.block h.lts.2.1)
theorem Itr.more (h : Itr w M gs W q r kf vf m rest cur) (hg : ∀ g ∈ gs', g ∉ gs → W.heap.size ≤ g) : Itr w M gs' W q r kf vf m rest cur :=
  ⟨h.mine, fun hr => by
    by_cases hk : q ∈ gs
    · exact h.apart hk
    · have := hg q hr hk
      have := h.lts.1
      omega, h.obj⟩
theorem Itr.evo (h : Itr w M gs W q r kf vf m rest cur) (hd : ∀ d ∈ ds, d ≠ q ∧ d ≠ r) (hb : Evo ds W W') : Itr w M gs W' q r kf vf m rest cur :=
  h.chg (Chg.of_evo hb) (fun hm => (hd q hm).1 rfl) (fun hm => (hd r hm).2 rfl)
theorem Itr.ownM (h : Itr w M gs W q r kf vf m rest cur) {w0 : World} {M0 : Nat → Prop} {gs0 : List Nat} (hm : w0.heap.size ≤ r ∨ M0 r) (ha : r ∉ gs0) : OwnM w0 M0 gs0 W r kf vf m := by
  obtain ⟨es, clock, since, c0, seen, h1, h2, h3, h4, _⟩ := h.obj
  exact ⟨hm, ha, es, clock, h1, h2, h3, h4⟩

/-- How many entries are left to come. -/
def itLeft (W : World) (q r : Nat) : Nat := match W.heap[q]?, W.heap[r]? with
  | some (.mapIter _ _ seen _), some (.map es _) => (leftOf es seen).size
  | _, _ => 0
theorem Itr.left (h : Itr w M gs W q r kf vf m rest cur) : itLeft W q r = rest.length := by
  obtain ⟨es, clock, since, c0, seen, h1, h2, h3, h4, h5, _, _, _, h6, _⟩ := h.obj
  unfold itLeft
  rw [h1, h5]
  simp only
  have := congrArg List.length h6
  simpa using this
theorem Itr.base {w' : World} {M' : Nat → Prop} (h : Itr w M gs W q r kf vf m rest cur) (hm : w'.heap.size ≤ q ∨ M' q) (ha : q ∉ gs') : Itr w' M' gs' W q r kf vf m rest cur := ⟨hm, ha, h.obj⟩
theorem Evo.bel (h : Evo ds W W') (hd : ∀ d ∈ ds, W.heap.size ≤ d) : Bel W W' := ⟨⟨h.os, h.tape, h.output, h.size, fun b hb => h.block b hb fun hm => by have := hd b hm; omega⟩, h.drawn⟩

theorem opw_range {t kt et : TypeId} {w0 : World} {M0 : Nat → Prop} {gs0 : List Nat} {K : Value → World → Prop} (ht : P.underlying t = some (.map kt et)) (hA : AtF w M gs W) (ho : OwnM w0 M0 gs0 W r kf vf m)
    (h : ∀ q w', W.heap.size = q → AtF w M gs w' → Keeps gs W w' → Bel W w' → Itr w M gs w' q r kf vf m m none → K (.pointer (some ⟨q, 0, none⟩)) w') : OpW P (valueS (Instr.range t (.map (some r)))) W K := by
  have hl := ho.lt
  obtain ⟨es, clock, hr, he, hn, hb⟩ := ho.obj
  unfold OpW
  rw [run_valueS (run_range_map (P := P) W t kt et r es clock ht hr)]
  refine h _ _ rfl (hA.call (below_alloc _)) (hA.keeps (below_alloc _)) (below_alloc _) ⟨.inl hA.size, fun hm => ?_, es, clock, clock, clock, #[], ?_, he, hn, hb, heap_alloc_new W _, hb, Nat.le_refl _, Nat.le_refl _, ?_, fun x hx => by cases hx⟩
  · have := hA.under _ hm
    omega
  · rw [heap_alloc_old W _ hl, hr]
  · have : leftOf es #[] = es := by unfold leftOf; simp
    rw [this]
    exact he

theorem opw_next {ty : TypeId} {K : Value → World → Prop} (hA : AtF w M gs W) (hi : Itr w M gs W q r kf vf m rest cur) (h0 : rest = [] → K (.tuple #[.bool false]) W)
    (h1 : ∀ x r1 r2 w', rest = r1 ++ x :: r2 → AtF w M gs w' → Keeps gs W w' → Chg (fun b => b = q) W w' → Itr w M gs w' q r kf vf m (r1 ++ r2) (some x) → K (.tuple #[.bool true, kf x.1, vf x.2]) w') :
    OpW P (valueS (Instr.next (.pointer (some ⟨q, 0, none⟩)) false ty)) W K := by
  have hlt := hi.lts
  obtain ⟨es, clock, since, c0, seen, e1, e2, e3, e4, e5, e6, e7, e8, e9, _⟩ := hi.obj
  rcases run_next_at (P := P) W ty q r since c0 seen es clock e5 e1 e6 e7 with ⟨hz, hrun⟩ | ⟨e, hel, w1, hw1, hrun⟩
  · unfold OpW
    rw [run_valueS hrun]
    refine h0 ?_
    have : (leftOf es seen).toList = [] := List.eq_nil_of_length_eq_zero (by simpa using hz)
    rw [this] at e9
    unfold EntR at e9
    exact List.map_eq_nil_iff.1 e9.symm
  · obtain ⟨A, B, hAB⟩ := List.append_of_mem hel
    have hps := leftOf_push e3 hAB
    rw [hAB] at e9
    obtain ⟨x, r1, r2, hr0, he0, hk, hv⟩ : ∃ x r1 r2, rest = r1 ++ x :: r2 ∧ EntR kf vf (A ++ B) (r1 ++ r2) ∧ e.key = kf x.1 ∧ e.val = vf x.2 := by
      obtain ⟨r1, x, r2, a, b, c, d⟩ := EntR_split e9
      exact ⟨x, r1, r2, a, b, c, d⟩
    have hmem : e ∈ es.toList := by
      unfold leftOf at hel
      rw [Array.toList_filter] at hel
      exact (List.mem_filter.1 hel).1
    have hh : w1.heap = W.heap ∧ w1.os = W.os ∧ w1.tape = W.tape ∧ w1.output = W.output ∧ W.drawn ≤ w1.drawn := by
      rcases hw1 with rfl | rfl
      · exact ⟨rfl, rfl, rfl, rfl, Nat.le_refl _⟩
      · exact ⟨rfl, rfl, rfl, rfl, Nat.le_succ _⟩
    obtain ⟨a1, a2, a3, a4, a5⟩ := hh
    have hch : Chg (fun b => b = q) W (Go.ChangeMaps.setBlock w1 q (.mapIter (some r) since (seen.push e.born) clock)) :=
      ⟨a2, a3, a4, by simp [Go.ChangeMaps.setBlock, a1], fun b _ hb => by simp [Go.ChangeMaps.setBlock, a1, Ne.symm hb], a5⟩
    unfold OpW
    rw [run_valueS hrun, hk, hv]
    refine h1 x r1 r2 _ hr0 (hA.step hch fun b _ hb => hb ▸ hi.mine) (hA.keepsC hch fun g hg hb => hi.apart (hb ▸ hg)) hch ⟨hi.mine, hi.apart, es, clock, since, clock, seen.push e.born, ?_, e2, e3, e4, ?_, e6, e8, e8, ?_, fun y hy => ?_⟩
    · rw [hch.block r hlt.2.1 (Ne.symm hlt.2.2), e1]
    · have : q < w1.heap.size := by rw [a1]; exact hlt.1
      simp [Go.ChangeMaps.setBlock, this]
    · rw [hps]; exact he0
    · cases hy
      exact ⟨rfl, e, hmem, by simp, hk, hv⟩

theorem opw_entry {x : κ × α} {K : Value → World → Prop} (hi : Itr w M gs W q r kf vf m rest (some x)) (h : K (.tuple #[kf x.1, vf x.2]) W) : OpW P (valueS (Instr.entry (.pointer (some ⟨q, 0, none⟩)))) W K := by
  obtain ⟨es, clock, since, c0, seen, e1, e2, e3, e4, e5, e6, e7, e8, e9, e10⟩ := hi.obj
  obtain ⟨rfl, e, hem, hback, hk, hv⟩ := e10 x rfl
  obtain ⟨s, rfl⟩ := Array.back?_eq_some_iff.1 hback
  unfold OpW
  rw [run_valueS (run_entry_at (P := P) W q r since s es c0 e e5 e1 hem e3), hk, hv]
  exact h
end
end Go.Vc

/- The sorter's memory; set. -/
set_option maxRecDepth 20000
set_option linter.unusedVariables false
set_option maxHeartbeats 1000000
namespace Go.Vc.SZ
open Go Go.Vc Go.RowKit Go.Proofs Go.Vc.T Vcz

variable {w W W' W1 : World} {M N : Nat → Prop} {gs ds : List Nat} {g r gt : Nat} {T : Ar4} {m : List (Int × Cl)} {t : Tr Pl} {bs bs0 : List Nat} {id : Int} {c : Cl}

abbrev soC (T : Ar4) (r gt : Nat) : List Value := [.int .i64 T.1, .int .i64 T.2.1, .int .i64 T.2.2.1, .int .i64 T.2.2.2, .map (some r), .pointer (pt gt)]
abbrev idV (i : Int) : Value := .int .i64 i
structure SoS (W : World) (g r gt : Nat) (T : Ar4) (m : List (Int × Cl)) (t : Tr Pl) (bs : List Nat) : Prop where
  tb : W.heap[g]? = some (.cells (soC T r gt).toArray 85 (0, 0))
  mp : OwnM W (fun b => b = r) [] W r idV (clV T) m
  tr : TT W gt t bs
/-- Its blocks. -/
def Sk (g r gt : Nat) (bs : List Nat) : Nat → Prop := fun b => b = g ∨ b = r ∨ b = gt ∨ b ∈ bs
theorem SoS.glt (h : SoS W g r gt T m t bs) : g < W.heap.size := (Array.getElem?_eq_some_iff.1 h.tb).1
theorem SoS.lt (h : SoS W g r gt T m t bs) : ∀ b, Sk g r gt bs b → b < W.heap.size := by
  rintro b (rfl | rfl | rfl | hb)
  · exact h.glt
  · exact h.mp.lt
  · exact h.tr.glt
  · exact h.tr.lt b hb
theorem SoS.chg (h : SoS W g r gt T m t bs) (hc : Chg N W W') (hn : ∀ b, Sk g r gt bs b → ¬ N b) : SoS W' g r gt T m t bs :=
  ⟨(hc.block g h.glt (hn g (.inl rfl))).trans h.tb, (h.mp.chg hc (hn r (.inr (.inl rfl)))).base1 (.inr rfl) (by simp), h.tr.chg hc (hn gt (.inr (.inr (.inl rfl)))) fun q hq => hn q (.inr (.inr (.inr hq)))⟩
theorem SoS.call (h : SoS W g r gt T m t bs) (hb : Bel W W') : SoS W' g r gt T m t bs := h.chg (N := noB) (Chg.of_below hb) fun _ _ => id
theorem SoS.ne (h : SoS W g r gt T m t bs) : g ≠ r ∧ g ≠ gt ∧ r ≠ gt ∧ g ∉ bs ∧ r ∉ bs := by
  obtain ⟨es, cl, h1, _⟩ := h.mp.obj
  obtain ⟨root, h2, _⟩ := h.tr.ex
  refine ⟨cells_map h.tb h1, cells_ne h.tb h2 (by decide), fun e => cells_map h2 h1 e.symm, fun e => ?_, fun e => ?_⟩
  · obtain ⟨cur, hc⟩ := h.tr.ty g e
    exact cells_ne h.tb hc (by decide) rfl
  · obtain ⟨cur, hc⟩ := h.tr.ty r e
    exact cells_map hc h1 rfl
theorem SoS.rdR (h : SoS W g r gt T m t bs) (hd : ∀ d ∈ ds, d ≠ g) : Reads Tryz.prog ds (Instr.loadAt 77 (.pointer (some (Addr.mk g (0 + 4) none)))) W (.map (some r)) := rd_f 3 h.tb rfl (by kernel_rfl) hd
theorem SoS.rdG (h : SoS W g r gt T m t bs) (hd : ∀ d ∈ ds, d ≠ g) : Reads Tryz.prog ds (Instr.loadAt 78 (.pointer (some (Addr.mk g (0 + 5) none)))) W (.pointer (pt gt)) := rd_f 4 h.tb rfl (by kernel_rfl) hd
theorem SoS.rdT (h : SoS W g r gt T m t bs) (hd : ∀ d ∈ ds, d ≠ g) : Reads Tryz.prog ds (Instr.loadAt 43 (.pointer (pt g))) W (arT T) := (elt_cells h.tb).agg 4 (by kernel_rfl) (by kernel_rfl) (by simp) hd
theorem keyOk_id : KeyOk Tryz.prog 2 idV := keyOk_int (P := Tryz.prog) (kt := 2) (q := .i64) (by kernel_rfl)
abbrev z8 : Value := .agg #[.int .i64 0, .int .i64 0, .int .i64 0, .int .i64 0, .int .i64 0, .int .i64 0, .int .i64 0, .bool false]
theorem SoS.look (h : SoS W g r gt T m t bs) (id : Int) (hd : ∀ d ∈ ds, d ≠ r) : Reads Tryz.prog ds (Instr.lookup 77 (.map (some r)) (.int .i64 id) true) W (lookV2 (clV T) z8 (mget id m)) :=
  reads_lookup2 (P := Tryz.prog) (t := 77) (et := 115) (z := z8) keyOk_id (by kernel_rfl) (by kernel_rfl) h.mp id hd
theorem TrX.len {k : Int} (h : TrX T m k t) (hg : Good T m) : t.size ≤ m.length + 1 := by
  have := (h.set (c := ⟨1, (0, 0, 0, 0), false⟩) hg rfl).len (hg.mset ⟨by decide, by decide, by decide⟩)
  rw [mset_length] at this
  split at this <;> omega
/-- What a set leaves. -/
def SetQ (w : World) (g r gt : Nat) (T : Ar4) (m' : List (Int × Cl)) (bs0 : List Nat) (v : Value) (W' : World) : Prop := v = .tuple #[] ∧ ∃ t' bs', SoS W' g r gt T m' t' bs' ∧ TrG T m' t' ∧ ∀ q ∈ bs', q ∈ bs0 ∨ w.heap.size ≤ q

theorem set_tail {n1 n13 : Nat} {R : Ending → World → Prop} (hA : AtF w (Sk g r gt bs0) [n1, n13] W) (S : SoS W g r gt T m t bs) (hsub : ∀ q ∈ bs, q ∈ bs0 ∨ w.heap.size ≤ q) (hn1 : w.heap.size ≤ n1) (hf : ∀ b, Sk g r gt bs b → b ≠ n1 ∧ b ≠ n13) (hX : TrX T m id t) (hg : Good T m) (hc : okC c) (hl : m.length < 100000)
    (hR : ∀ v w', Chg (Sk g r gt bs0) w w' → SetQ w g r gt T (mset id c m) bs0 v w' → R (.returned v) w') :
    Calls Proofs.Tryz.prog 71
 #[Value.agg #[Value.int IntKind.i64 c.s.1, Value.int IntKind.i64 c.s.2.1, Value.int IntKind.i64 c.s.2.2.1, Value.int IntKind.i64 c.s.2.2.2],
 Value.agg #[Value.int IntKind.i64 T.1, Value.int IntKind.i64 T.2.1, Value.int IntKind.i64 T.2.2.1, Value.int IntKind.i64 T.2.2.2], Value.int IntKind.i64 c.w]
 W fun (e26 : Ending) (w27 : World) =>
 ∃ (x28 : Int),
 ∃ (x29 : Int),
 ∃ (x30 : Int),
 e26 = Ending.returned (Value.agg #[Value.int IntKind.i64 x28, Value.int IntKind.i64 x29, Value.int IntKind.i64 x30]) ∧
 Keeps [n1, n13] W w27 ∧
 ∃ (ad31 : Addr),
 pt g = some ad31 ∧
 ∃ (r32 : Option Nat),
 Reads Proofs.Tryz.prog [n1] (Instr.loadAt 77 (Value.pointer (some (Addr.mk ad31.block (ad31.off + 4) none)))) w27 (Value.map r32) ∧
 ∀ (w33 : World),
 Evo [n1] w27 w33 →
 Under [n1, n13] w33 →
 OpW Proofs.Tryz.prog
 (skipS
 (Instr.mapUpdate 77 (Value.map r32) (Value.int IntKind.i64 id)
 (Value.agg
 #[Value.int IntKind.i64 x28, Value.int IntKind.i64 x29, Value.int IntKind.i64 x30, Value.int IntKind.i64 c.s.1,
 Value.int IntKind.i64 c.s.2.1, Value.int IntKind.i64 c.s.2.2.1, Value.int IntKind.i64 c.s.2.2.2, Value.bool c.aw])))
 w33 fun (_ : Value) (w35 : World) =>
 Keeps [n1, n13] w33 w35 ∧
 (c.aw = true →
 ∃ (ad36 : Addr),
 pt g = some ad36 ∧
 ∃ (a37 : Option Addr),
 Reads Proofs.Tryz.prog [] (Instr.loadAt 78 (Value.pointer (some (Addr.mk ad36.block (ad36.off + 5) none)))) w35
 (Value.pointer a37) ∧
 ∀ (w38 : World),
 Bel w35 w38 →
 Under [n1, n13] w38 →
 Calls Proofs.Tryz.prog 72
 #[Value.pointer a37,
 Value.agg
 #[Value.int IntKind.i64 x28, Value.int IntKind.i64 x29, Value.int IntKind.i64 x30,
 Value.int IntKind.i64 id]]
 w38 fun (e39 : Ending) (w40 : World) =>
 ∃ (b41 : Bool),
 e39 = Ending.returned (Value.bool b41) ∧
 Keeps [n1, n13] w38 w40 ∧ R (Ending.returned (Value.tuple #[])) w40) ∧
 (c.aw = false → R (Ending.returned (Value.tuple #[])) w35) := by
  have hne := S.ne
  have hgn : n1 ≠ g ∧ n13 ≠ g := ⟨fun e => (hf g (.inl rfl)).1 e.symm, fun e => (hf g (.inl rfl)).2 e.symm⟩
  refine at_callb hA (c71 _ _ _ _ _ _ _ _ _ _) fun w27 hA hk hb => ⟨_, _, _, rfl, hk, _, rfl, ?_⟩
  have S := S.call hb
  refine ⟨_, S.rdR (by simpa using hgn.1), go_evo_too hA (by simpa using hn1) fun w33 hA he => ?_⟩
  have S := S.chg (Chg.of_evo he) fun b hb hm => (hf b hb).1 (List.mem_singleton.1 hm)
  have hrn : r ∉ [n1, n13] := fun hm => by
    have := hf r (.inr (.inl rfl))
    simp at hm
    omega
  refine opw_mapUpdate (kf := idV) (vf := clV T) (k := id) (v := c) keyOk_id (t := 77) (et := 115) (by kernel_rfl) hA (S.mp.base1 (w' := w) (M' := Sk g r gt bs0) (.inr (.inr (.inl rfl))) hrn) fun w35 hA hk hch hM => ⟨hk, ?_⟩
  have S2 : SoS w35 g r gt T (mset id c m) t bs := ⟨(hch.block g S.glt hne.1).trans S.tb, hM.base1 (.inr rfl) (by simp), S.tr.chg hch (fun e => hne.2.2.1 e.symm) fun q hq e => hne.2.2.2.2 (e ▸ hq)⟩
  refine ⟨fun ha => ⟨_, rfl, _, S2.rdG nod, go_below_too hA fun w38 hA hb => ?_⟩, fun ha => leafF hR hA ⟨rfl, t, bs, S2, hX.set hg ha, hsub⟩⟩
  have S2 := S2.call hb
  have hlen := hX.len hg
  refine at_callF hA (c72 c30 (plc T (id, c)) S2.tr (by omega)) (fun q _ hq => hq.elim (fun e => .inr (.inr (.inr (.inl e)))) fun hq => (hsub q hq).elim (fun h => .inr (.inr (.inr (.inr h)))) .inl) (fun x hx hm => by
    have : Sk g r gt bs x := hm.elim (fun e => .inr (.inr (.inl e))) fun hq => .inr (.inr (.inr hq))
    have := hf x this
    simp at hx
    omega) fun v w40 hA2 hk hch ⟨hv, bs', hT, hs⟩ => ?_
  subst hv
  have hnN : ∀ b, b = g ∨ b = r → ¬ (b = gt ∨ b ∈ bs) := by
    rintro b (rfl | rfl) (e | e)
    · exact hne.2.1 e
    · exact hne.2.2.2.1 e
    · exact hne.2.2.1 e
    · exact hne.2.2.2.2 e
  exact ⟨_, rfl, hk, leafF hR hA2 ⟨rfl, _, bs', ⟨(hch.block g S2.glt (hnN g (.inl rfl))).trans S2.tb, (S2.mp.chg hch (hnN r (.inr rfl))).base1 (.inr rfl) (by simp), hT⟩, hX.put hg hc ha, fun q hq => (hs q hq).elim (hsub q) fun e => .inr (Nat.le_trans hA.size e)⟩⟩

theorem c54 (n d : Int) (S : SoS W g r gt T m t bs) (hG : TrG T m t) (hg : Good T m) (hc : okC c) (hl : m.length < 100000) :
    RetF Tryz.prog 54 #[.pointer (pt g), .int .i64 id, cl8 n d c.w c.s c.aw] W (Sk g r gt bs) (SetQ W g r gt T (mset id c m) bs) := by
  intro R hR
  refine f54_calls _ _ _ _ _ _ _ _ _ _ W R ?_
  unfold f54_vc
  have hA : AtF W (Sk g r gt bs) [] W := AtF.refl W _
  have hlt := S.lt
  refine go_n hA fun n1 h1 => ⟨_, rfl, _, S.rdR nod, ?_⟩
  have hlk := S.look id (ds := []) nod
  have hgl := S.glt
  cases hx : mget id m with
  | none =>
    rw [hx] at hlk
    refine ⟨_, _, _, _, _, _, _, _, _, hlk, go_n hA fun n13 h13 => brB (fun e => by cases e) fun _ => ?_⟩
    refine ⟨_, rfl, _, _, _, _, S.rdT (by simp; omega), fun w16 he hu => ?_⟩
    have hb := he.bel (by simpa using h13)
    exact set_tail ⟨(hA.call hb).chg, hu⟩ (S.call hb) (fun q hq => .inl hq) h1 (fun b hb => by have := hlt b hb; omega) (hG.x fun cc0 hm => by rw [mget_of_mem hg.nd hm] at hx; cases hx) hg hc hl hR
  | some cc0 =>
    rw [hx] at hlk
    have hm := mem_of_mget hx
    refine ⟨_, _, _, _, _, _, _, _, _, hlk, go_n hA fun n13 h13 => brB (fun _ => ?_) fun e => by cases e⟩
    refine brB (fun ha => ?_) fun ha => ?_
    · refine ⟨_, rfl, _, S.rdG (by simp; omega), fun w16 he hu => ?_⟩
      have hb := he.bel (by simpa using h13)
      have hA : AtF W (Sk g r gt bs) [n1, n13] w16 := ⟨(hA.call hb).chg, hu⟩
      have S := S.call hb
      have hne := S.ne
      have hlen := hG.len hg
      have u1 := hu n1 (by simp)
      have u13 := hu n13 (by simp)
      refine at_callF hA (c70 c30 (plc T (id, cc0)) S.tr (by omega)) (fun q _ hq => hq.elim (fun e => .inr (.inr (.inr (.inl e)))) fun hq => .inr (.inr (.inr (.inr hq)))) (fun x hx hm => by
        have : Sk g r gt bs x := hm.elim (fun e => .inr (.inr (.inl e))) fun hq => .inr (.inr (.inr hq))
        have := hlt x this
        simp at hx
        omega) fun v w18 hA2 hk hch ⟨hv, bs', hT, hs⟩ => ?_
      subst hv
      have hnN : ∀ b, b = g ∨ b = r → ¬ (b = gt ∨ b ∈ bs) := by
        rintro b (rfl | rfl) (e | e)
        · exact hne.2.1 e
        · exact hne.2.2.2.1 e
        · exact hne.2.2.1 e
        · exact hne.2.2.2.2 e
      have S2 : SoS w18 g r gt T m _ bs' := ⟨(hch.block g S.glt (hnN g (.inl rfl))).trans S.tb, (S.mp.chg hch (hnN r (.inr rfl))).base1 (.inr rfl) (by simp), hT⟩
      have hX := hG.drop hg hm
      refine ⟨_, rfl, hk, _, rfl, _, _, _, _, S2.rdT nod, go_below_too hA2 fun w25 hA3 hb3 => ?_⟩
      refine set_tail hA3 (S2.call hb3) (fun q hq => (hs q hq).imp (fun e => e) fun e => Nat.le_trans hA.size e) h1 (fun b hb => ?_) hX hg hc hl hR
      rcases hb with e | e | e | e
      · have := hlt b (.inl e); omega
      · have := hlt b (.inr (.inl e)); omega
      · have := hlt b (.inr (.inr (.inl e))); omega
      · rcases hs b e with e | e
        · have := hlt b (.inr (.inr (.inr e))); omega
        · omega
    · refine ⟨_, rfl, _, _, _, _, S.rdT (by simp; omega), fun w16 he hu => ?_⟩
      have hb := he.bel (by simpa using h13)
      refine set_tail ⟨(hA.call hb).chg, hu⟩ (S.call hb) (fun q hq => .inl hq) h1 (fun b hb => by have := hlt b hb; omega) (hG.x fun cc1 hm1 => ?_) hg hc hl hR
      rw [mget_of_mem hg.nd hm1] at hx
      cases hx
      exact ha
end Go.Vc.SZ

/- The formulas of functions, printed by a program (VcTool.lean): each is what the generator's formula comes to, by the kernel's reckoning; whoever proves one has the function's contract. -/
set_option maxRecDepth 100000
set_option maxHeartbeats 1000000
set_option linter.unusedVariables false
namespace Vczu
open Go Go.Vc Go.RowKit
/-! manciple/sorter.small -/
def h52 : Hints := ⟨[1], [8], [14, 11], [], [(2, 5)], [], [], [], []⟩
def f52_vc (n_0 : Int) (n_1 : Int) (n_2 : Int) (n_3 : Int) (w : World) (R : Ending → World → Prop) : Prop :=
 ∀ (n1 : Nat),
 w.heap.size ≤ n1 →
 ∃ (x2 : Int),
 Gives Proofs.Tryz.prog (Instr.index 43 (Value.agg #[Value.int IntKind.i64 n_0, Value.int IntKind.i64 n_1, Value.int IntKind.i64 n_2, Value.int IntKind.i64 n_3]) (Value.int IntKind.i64 0)) (Value.int IntKind.i64 x2) ∧
 (decide (x2 < 0) = true → ∀ (w3 : World), Bel w w3 → Under [n1] w3 → R (Ending.returned (Value.bool false)) w3) ∧
 (decide (x2 < 0) = false →
 (decide (x2 > 9007199254740992) = true → ∀ (w4 : World), Bel w w4 → Under [n1] w4 → R (Ending.returned (Value.bool false)) w4) ∧
 (decide (x2 > 9007199254740992) = false →
 ∃ (x5 : Int),
 Gives Proofs.Tryz.prog (Instr.index 43 (Value.agg #[Value.int IntKind.i64 n_0, Value.int IntKind.i64 n_1, Value.int IntKind.i64 n_2, Value.int IntKind.i64 n_3]) (Value.int IntKind.i64 1)) (Value.int IntKind.i64 x5) ∧
 (decide (x5 < 0) = true → ∀ (w6 : World), Bel w w6 → Under [n1] w6 → R (Ending.returned (Value.bool false)) w6) ∧
 (decide (x5 < 0) = false →
 (decide (x5 > 9007199254740992) = true → ∀ (w7 : World), Bel w w7 → Under [n1] w7 → R (Ending.returned (Value.bool false)) w7) ∧
 (decide (x5 > 9007199254740992) = false →
 ∃ (x8 : Int),
 Gives Proofs.Tryz.prog (Instr.index 43 (Value.agg #[Value.int IntKind.i64 n_0, Value.int IntKind.i64 n_1, Value.int IntKind.i64 n_2, Value.int IntKind.i64 n_3]) (Value.int IntKind.i64 2))
 (Value.int IntKind.i64 x8) ∧
 (decide (x8 < 0) = true → ∀ (w9 : World), Bel w w9 → Under [n1] w9 → R (Ending.returned (Value.bool false)) w9) ∧
 (decide (x8 < 0) = false →
 (decide (x8 > 9007199254740992) = true → ∀ (w10 : World), Bel w w10 → Under [n1] w10 → R (Ending.returned (Value.bool false)) w10) ∧
 (decide (x8 > 9007199254740992) = false →
 ∃ (x11 : Int),
 Gives Proofs.Tryz.prog (Instr.index 43 (Value.agg #[Value.int IntKind.i64 n_0, Value.int IntKind.i64 n_1, Value.int IntKind.i64 n_2, Value.int IntKind.i64 n_3]) (Value.int IntKind.i64 3))
 (Value.int IntKind.i64 x11) ∧
 (decide (x11 < 0) = true → ∀ (w12 : World), Bel w w12 → Under [n1] w12 → R (Ending.returned (Value.bool false)) w12) ∧
 (decide (x11 < 0) = false →
 (decide (x11 > 9007199254740992) = true → ∀ (w13 : World), Bel w w13 → Under [n1] w13 → R (Ending.returned (Value.bool false)) w13) ∧
 (decide (x11 > 9007199254740992) = false → ∀ (w14 : World), Bel w w14 → Under [n1] w14 → R (Ending.returned (Value.bool true)) w14))))))))
theorem f52_eq (n_0 : Int) (n_1 : Int) (n_2 : Int) (n_3 : Int) (w : World) (R : Ending → World → Prop) : (fnF Go.Proofs.Tryz.prog h52 Go.Proofs.Tryz.f52 [Value.agg #[Value.int IntKind.i64 n_0, Value.int IntKind.i64 n_1, Value.int IntKind.i64 n_2, Value.int IntKind.i64 n_3]] w R).den = f52_vc n_0 n_1 n_2 n_3 w R := by kernel_rfl
theorem f52_calls (n_0 : Int) (n_1 : Int) (n_2 : Int) (n_3 : Int) (w : World) (R : Ending → World → Prop) (h : f52_vc n_0 n_1 n_2 n_3 w R) : Calls Go.Proofs.Tryz.prog 52 (List.toArray [Value.agg #[Value.int IntKind.i64 n_0, Value.int IntKind.i64 n_1, Value.int IntKind.i64 n_2, Value.int IntKind.i64 n_3]]) w R :=
 fn_sound (H := h52) (fn := Go.Proofs.Tryz.f52) (by kernel_rfl) (by kernel_rfl) (by kernel_rfl) ((f52_eq n_0 n_1 n_2 n_3 w R).mpr h)

end Vczu

/- The sorter as its state tells; look, turn. -/
set_option maxRecDepth 20000
set_option linter.unusedVariables false
set_option maxHeartbeats 1000000
namespace Go.Vc.SZ
open Go Go.Vc Go.RowKit Go.Proofs Go.Vc.T Vcz

variable {w W W' W1 : World} {M N : Nat → Prop} {gs ds : List Nat} {g r gt : Nat} {T : Ar4} {m m0 m1 : List (Int × Cl)} {t : Tr Pl} {bs bs0 : List Nat} {id : Int} {c : Cl} {B B' : Nat → Prop}

/-- A sorter in memory: its blocks are of B; it holds these clients, in some order. -/
structure SoX (W : World) (B : Nat → Prop) (g : Nat) (T : Ar4) (m : List (Int × Cl)) : Prop where
  good : Good T m
  ex : ∃ m0 r gt t bs, (∀ x, x ∈ m0 ↔ x ∈ m) ∧ (m0.map (·.1)).Nodup ∧ SoS W g r gt T m0 t bs ∧ TrG T m0 t ∧ ∀ b, Sk g r gt bs b → B b
theorem same_good (hg : Good T m) (h : ∀ x, x ∈ m0 ↔ x ∈ m) (hn : (m0.map (·.1)).Nodup) : Good T m0 := ⟨hn, fun x hx => hg.ok x ((h x).1 hx), hg.sm⟩
theorem same_get {α : Type} {m0 m : List (Int × α)} (h : ∀ x, x ∈ m0 ↔ x ∈ m) (hn : (m0.map (·.1)).Nodup) (hn2 : (m.map (·.1)).Nodup) (k : Int) : mget k m0 = mget k m := by
  cases h1 : mget k m0 with
  | some c => exact (mget_of_mem hn2 ((h _).1 (mem_of_mget h1))).symm
  | none =>
    cases h2 : mget k m with
    | none => rfl
    | some c =>
      have := mget_of_mem hn ((h _).2 (mem_of_mget h2))
      rw [h1] at this
      cases this
theorem same_len {α : Type} {m0 m : List (Int × α)} (h : ∀ x, x ∈ m0 ↔ x ∈ m) (hn : (m0.map (·.1)).Nodup) (hn2 : (m.map (·.1)).Nodup) : m0.length = m.length := by
  have h1 := nodup_len (l' := m.map (·.1)) hn fun k hk => by
    obtain ⟨x, hx, rfl⟩ := List.mem_map.1 hk
    exact List.mem_map.2 ⟨x, (h x).1 hx, rfl⟩
  have h2 := nodup_len (l' := m0.map (·.1)) hn2 fun k hk => by
    obtain ⟨x, hx, rfl⟩ := List.mem_map.1 hk
    exact List.mem_map.2 ⟨x, (h x).2 hx, rfl⟩
  simp only [List.length_map] at h1 h2
  omega
theorem same_mset {α : Type} {m0 m : List (Int × α)} {k : Int} {v : α} (h : ∀ x, x ∈ m0 ↔ x ∈ m) (hn : (m0.map (·.1)).Nodup) (hn2 : (m.map (·.1)).Nodup) : ∀ x, x ∈ mset k v m0 ↔ x ∈ mset k v m := fun x => by rw [mem_mset hn, mem_mset hn2, h]
theorem same_mdel {α : Type} {m0 m : List (Int × α)} {k : Int} (h : ∀ x, x ∈ m0 ↔ x ∈ m) (hn : (m0.map (·.1)).Nodup) (hn2 : (m.map (·.1)).Nodup) : ∀ x, x ∈ mdel k m0 ↔ x ∈ mdel k m := fun x => by rw [mem_mdel hn, mem_mdel hn2, h]
theorem SoX.chg (h : SoX W B g T m) (hc : Chg N W W') (hn : ∀ b, B b → b < W.heap.size → ¬ N b) : SoX W' B g T m := by
  obtain ⟨m0, r, gt, t, bs, h1, h2, h3, h4, h5⟩ := h.ex
  exact ⟨h.good, m0, r, gt, t, bs, h1, h2, h3.chg hc fun b hb => hn b (h5 b hb) (h3.lt b hb), h4, h5⟩
theorem SoX.call (h : SoX W B g T m) (hb : Bel W W') : SoX W' B g T m := h.chg (N := noB) (Chg.of_below hb) fun _ _ _ => fun e => e
theorem SoX.mono (h : SoX W B g T m) (hB : ∀ b, b < W.heap.size → B b → B' b) : SoX W B' g T m := by
  obtain ⟨m0, r, gt, t, bs, h1, h2, h3, h4, h5⟩ := h.ex
  exact ⟨h.good, m0, r, gt, t, bs, h1, h2, h3, h4, fun b hb => hB b (h3.lt b hb) (h5 b hb)⟩
/-- Hidden boxes are none of the sorter's. -/
theorem SoX.evo (h : SoX W B g T m) (he : Evo ds W W') (hd : ∀ d ∈ ds, B d → W.heap.size ≤ d) : SoX W' B g T m := h.chg (Chg.of_evo he) fun b hb hl hm => by have := hd b hm hb; omega

theorem c51 (h : SoX W B g T m) : Ret Tryz.prog 51 #[.pointer (pt g)] W (.bool true) := by
  intro R hR
  refine f51_calls _ W R ?_
  unfold f51_vc
  obtain ⟨m0, r, gt, t, bs, h1, h2, h3, h4, h5⟩ := h.ex
  exact ⟨true, (fun W => rfl), brB (fun _ => ⟨_, rfl, _, h3.rdR nod, true, (fun W => rfl), leaf hR (At.refl W) rfl⟩) (fun e => by cases e)⟩
theorem c51n (W : World) : Ret Tryz.prog 51 #[.pointer none] W (.bool false) := by
  intro R hR
  refine f51_calls _ W R ?_
  unfold f51_vc
  exact ⟨false, (fun W => rfl), brB (fun e => by cases e) (fun _ => leaf hR (At.refl W) rfl)⟩
theorem c55 (h : SoX W B g T m) (id : Int) : Ret Tryz.prog 55 #[.pointer (pt g), .int .i64 id] W (lookV2 (clV T) z8 (mget id m)) := by
  intro R hR
  refine f55_calls _ _ W R ?_
  unfold f55_vc
  have hA := At.refl W
  refine go_n hA fun n1 h1 => go_below_too hA fun w2 hA hb => at_callb hA (c51 (h.call hb)) fun w4 hA hk hb4 => ⟨_, rfl, hk, brB (fun e => by cases e) (fun _ => ?_)⟩
  have h := (h.call hb).call hb4
  obtain ⟨m0, r, gt, t, bs, k1, k2, k3, k4, k5⟩ := h.ex
  have hlk := k3.look id (ds := []) nod
  rw [same_get k1 k2 h.good.nd] at hlk
  refine ⟨_, rfl, _, k3.rdR nod, ?_⟩
  cases hx : mget id m with
  | none =>
    rw [hx] at hlk hR
    exact ⟨_, _, _, _, _, _, _, _, _, hlk, go_n hA fun n18 h18 => go_evo hA (by simp; omega) fun w19 hA => leaf hR hA rfl⟩
  | some c =>
    rw [hx] at hlk hR
    exact ⟨_, _, _, _, _, _, _, _, _, hlk, go_n hA fun n18 h18 => go_evo hA (by simp; omega) fun w19 hA => leaf hR hA rfl⟩
def heavy (x : Int) : Bool := decide (x < 1 ∨ x > 1000)
theorem c56 (x : Int) (w : World) : Ret Tryz.prog 56 #[.int .i64 x] w (.bool (heavy x)) := by
  intro R h
  refine f56_calls x w R ?_
  unfold f56_vc
  unfold heavy at h
  refine brD (fun h1 => leaf h (At.refl w) ?_) (fun h1 => leaf h (At.refl w) ?_)
  · simp [h1]
  · simp [h1]
theorem c52 (a : Ar4) (w : World) : Ret Tryz.prog 52 #[arT a] w (.bool (decide (sm4 a))) := by
  intro R h
  refine Vczu.f52_calls _ _ _ _ w R ?_
  unfold Vczu.f52_vc
  have hA := At.refl w
  have no : ¬ sm4 a → ∀ W, At w [] W → R (.returned (.bool false)) W := fun hn W hA => leaf h hA (by rw [decide_eq_false hn])
  unfold sm4 at no
  refine go_n hA fun n1 _ => ⟨_, (fun W => rfl), ?_⟩
  refine brD (fun h1 => go_below (gs' := [n1]) hA fun _ hA => no (by omega) _ hA.off) (fun h1 => brD (fun h2 => go_below (gs' := [n1]) hA fun _ hA => no (by omega) _ hA.off) (fun h2 => ⟨_, (fun W => rfl), ?_⟩))
  refine brD (fun h3 => go_below (gs' := [n1]) hA fun _ hA => no (by omega) _ hA.off) (fun h3 => brD (fun h4 => go_below (gs' := [n1]) hA fun _ hA => no (by omega) _ hA.off) (fun h4 => ⟨_, (fun W => rfl), ?_⟩))
  refine brD (fun h5 => go_below (gs' := [n1]) hA fun _ hA => no (by omega) _ hA.off) (fun h5 => brD (fun h6 => go_below (gs' := [n1]) hA fun _ hA => no (by omega) _ hA.off) (fun h6 => ⟨_, (fun W => rfl), ?_⟩))
  refine brD (fun h7 => go_below (gs' := [n1]) hA fun _ hA => no (by omega) _ hA.off) (fun h7 => brD (fun h8 => go_below (gs' := [n1]) hA fun _ hA => no (by omega) _ hA.off) (fun h8 => ?_))
  refine go_below (gs' := [n1]) hA fun _ hA => ?_
  exact leaf h hA (by rw [decide_eq_true (show sm4 a by unfold sm4; omega)])
/-- What a set leaves of a sorter. -/
theorem c54x (n d : Int) (h : SoX W B g T m) (hc : okC c) (hl : m.length < 100000) :
    RetF Tryz.prog 54 #[.pointer (pt g), .int .i64 id, cl8 n d c.w c.s c.aw] W B (fun v W' => v = .tuple #[] ∧ SoX W' (fun b => B b ∨ W.heap.size ≤ b) g T (mset id c m)) := by
  obtain ⟨m0, r, gt, t, bs, k1, k2, k3, k4, k5⟩ := h.ex
  have hg0 := same_good h.good k1 k2
  intro R hR
  refine c54 n d k3 k4 hg0 hc (by rw [same_len k1 k2 h.good.nd]; exact hl) R fun v w' hch ⟨hv, t', bs', h1, h2, h3⟩ => ?_
  refine hR v w' (hch.mono fun b _ hb => k5 b hb) ⟨hv, h.good.mset hc, mset id c m0, r, gt, t', bs', same_mset k1 k2 h.good.nd, mset_nodup k2, h1, h2, ?_⟩
  rintro b (e | e | e | e)
  · exact .inl (k5 b (.inl e))
  · exact .inl (k5 b (.inr (.inl e)))
  · exact .inl (k5 b (.inr (.inr (.inl e))))
  · exact (h3 b e).imp (fun e => k5 b (.inr (.inr (.inr e)))) fun e => e

/-- A turn of one client. -/
def turnD (m : List (Int × Cl)) (id : Int) (f : Cl → Cl × Int) : List (Int × Cl) × Int := match mget id m with
  | none => (m, 43)
  | some c => if (f c).2 = 0 then (mset id (f c).1 m, 0) else (m, (f c).2)
theorem c57 {how : Value} (f : Cl → Cl × Int) (h : SoX W B g T m) (hl : m.length < 100000) (hf : ∀ c, okC c → (f c).2 = 0 → okC (f c).1)
    (hh : ∀ W', Bel W W' → ∀ c, (id, c) ∈ m → ∃ n d, RetI how #[clV T c] W' (.tuple #[cl8 n d (f c).1.w (f c).1.s (f c).1.aw, .int .i64 (f c).2])) :
    RetF Tryz.prog 57 #[.pointer (pt g), .int .i64 id, how] W B (fun v W' => v = .int .i64 (turnD m id f).2 ∧ SoX W' (fun b => B b ∨ W.heap.size ≤ b) g T (turnD m id f).1) := by
  intro R hR
  refine f57_calls _ _ _ W R ?_
  unfold f57_vc
  have hA : AtF W B [] W := AtF.refl W _
  have h : SoX W (fun b => B b ∧ b < W.heap.size) g T m := h.mono fun _ hl hb => ⟨hb, hl⟩
  have up : ∀ {W2 : World} {m' : List (Int × Cl)}, SoX W2 (fun b => B b ∧ b < W.heap.size) g T m' → SoX W2 (fun b => B b ∨ W.heap.size ≤ b) g T m' := fun h => h.mono fun _ _ hb => .inl hb.1
  refine at_callb hA (c51 h) fun w2 hA _ hb => ⟨_, rfl, brB (fun e => by cases e) (fun _ => ?_)⟩
  have h := h.call hb
  refine at_callb hA (c55 h id) fun w5 hA _ hb5 => ?_
  have h := h.call hb5
  have hbel := hb.trans hb5
  have hs5 := hbel.size
  unfold turnD at hR
  cases hx : mget id m with
  | none =>
    rw [hx] at hR
    refine ⟨_, _, _, _, _, _, _, _, _, rfl, fun n15 h15 => brB (fun _ w16 he hu => ?_) fun e => by cases e⟩
    have hb := he.bel (by simpa using h15)
    exact leafF hR (hA.call hb) ⟨rfl, up (h.call hb)⟩
  | some c =>
    rw [hx] at hR
    have hm := mem_of_mget hx
    have hoc := h.good.ok _ hm
    refine ⟨_, _, _, _, _, _, _, _, _, rfl, fun n15 h15 => brB (fun e => by cases e) fun _ w17 he hu => ?_⟩
    have hb := he.bel (by simpa using h15)
    have hbel := hbel.trans hb
    have hA : AtF W B [n15] w17 := ⟨(hA.call hb).chg, hu⟩
    have h := h.call hb
    obtain ⟨n, d, hr⟩ := hh w17 hbel c hm
    refine at_inv hA hr fun w19 hA hk hb => ?_
    have h := h.call hb
    have hbel := hbel.trans hb
    refine ⟨_, _, _, _, _, _, _, _, _, rfl, hk, fun n29 h29 => brE (fun hz w30 he hu => ?_) fun hz w33 he hu => ?_⟩
    · have hb := he.bel (by simpa using h29)
      have hA : AtF W B [n15, n29] w30 := ⟨(hA.call hb).chg, hu⟩
      have h := h.call hb
      simp only [if_pos hz] at hR
      have hs := hbel.size
      refine at_callF hA (c54x n d h (hf c hoc hz) hl) (fun q _ hq => .inr hq.1) (fun x hx hq => by
        have := hq.2
        have := (he.size)
        simp at hx
        omega) fun v w32 hA2 hk hch ⟨hv, hX⟩ => ?_
      subst hv
      rw [hz]
      exact ⟨rfl, hk, leafF hR hA2 ⟨rfl, hX.mono fun b _ hb => hb.elim (fun hb => .inl hb.1) fun hb => .inr (Nat.le_trans hA.size hb)⟩⟩
    · have hb := he.bel (by simpa using h29)
      simp only [if_neg hz] at hR
      exact leafF hR (hA.call hb) ⟨rfl, up (h.call hb)⟩
end Go.Vc.SZ

/- A variable in a block of its own: made, then stored into. -/
namespace Go.Vc
open Go Go.RowKit
section
variable {P : Program} {w W : World} {M : Nat → Prop} {gs : List Nat}
theorem opw_allocS {t : TypeId} (zc : List Value) {zv : Value} {K : Value → World → Prop} (hz : pureRun P (zeroValue t) = some zv) (hc : zv.cells = zc.toArray) (hA : AtF w M gs W)
    (h : ∀ g w', W.heap.size = g → AtF w M gs w' → Keeps gs W w' → Bel W w' → w'.heap[g]? = some (.cells zc.toArray t (0, 0)) → K (.pointer (some ⟨g, 0, none⟩)) w') : OpW P (valueS (Instr.alloc t true (.tuple #[]))) W K := by
  unfold OpW
  rw [run_valueS (run_alloc hz)]
  refine h _ _ rfl (hA.call (below_alloc _)) (hA.keeps (below_alloc _)) (below_alloc _) ?_
  rw [heap_alloc_new, hc]
/-- Made, and stored into at once: a new block. -/
theorem opw_boxed {t te : TypeId} (zc cs : List Value) {zv v : Value} {K : Nat → World → Prop} (hz : pureRun P (zeroValue t) = some zv) (hc : zv.cells = zc.toArray) (hs : cellStore P te zc 0 v = some cs) (hA : AtF w M gs W)
    (h : ∀ g w', W.heap.size = g → AtF w M gs w' → Keeps gs W w' → Bel W w' → w'.heap[g]? = some (.cells cs.toArray t (0, 0)) → K g w') :
    OpW P (valueS (Instr.alloc t true (.tuple #[]))) W fun p w' => ∃ ad, p = .pointer (some ad) ∧ OpW P (skipS (Instr.storeAt te (.pointer (some ad)) v)) w' fun _ w'' => K ad.block w'' ∧ ad = ⟨ad.block, 0, none⟩ := by
  refine opw_allocS zc hz hc hA fun g w' hg hA' hk hb hblk => ⟨_, rfl, ?_⟩
  refine opw_storeF (w := W) (M := noB) (gs := gs) (cells := zc) ⟨Chg.of_below hb, hA'.under⟩ hblk (.inl (by omega)) (fun hx => ?_) hs fun w2 hA2 hk2 hch hb2 => ⟨?_, rfl⟩
  · have := hA.under g hx
    omega
  · have hbel : Bel W w2 := hA2.below
    exact h g w2 hg (hA.call hbel) (hA.keeps hbel) hbel hb2
end
end Go.Vc

