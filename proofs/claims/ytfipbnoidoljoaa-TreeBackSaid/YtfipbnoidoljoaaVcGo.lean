/- Steps of a walk through a formula: the world at hand differs from the first one in own blocks alone; branches become propositions; a call is taken by its contract. -/
import Derived.Test.YtfipbnoidoljoaaVcRep
namespace Go.Vc
open Go Go.RowKit

/-- From one world to a later one: but for the blocks of N, what was there is as it was. -/
structure Chg (N : Nat → Prop) (w W : World) : Prop where
  os : W.os = w.os
  tape : W.tape = w.tape
  output : W.output = w.output
  size : w.heap.size ≤ W.heap.size
  block : ∀ b, b < w.heap.size → ¬ N b → W.heap[b]? = w.heap[b]?
  drawn : w.drawn ≤ W.drawn
/-- No block. -/
@[reducible] def noB : Nat → Prop := fun _ => False

theorem Chg.refl (N : Nat → Prop) (w : World) : Chg N w w := ⟨rfl, rfl, rfl, Nat.le_refl _, fun _ _ _ => rfl, Nat.le_refl _⟩
theorem Bel.trans {w W W' : World} (h : Bel w W) (k : Bel W W') : Bel w W' := ⟨h.below.trans (k.below.mono h.below.size), Nat.le_trans h.drawn k.drawn⟩
theorem Bel.size {w W : World} (h : Bel w W) : w.heap.size ≤ W.heap.size := h.below.size
theorem Bel.block {w W : World} (h : Bel w W) {b : Nat} (hb : b < w.heap.size) : W.heap[b]? = w.heap[b]? := h.below.block b hb
theorem Chg.of_below {N : Nat → Prop} {w W : World} (h : Bel w W) : Chg N w W := ⟨h.below.os, h.below.tape, h.below.output, h.below.size, fun b hb _ => h.below.block b hb, h.drawn⟩
theorem Chg.below {w W : World} (h : Chg noB w W) : Bel w W := ⟨⟨h.os, h.tape, h.output, h.size, fun b hb => h.block b hb id⟩, h.drawn⟩
theorem Chg.of_grown {w W : World} {row : Option Nat} (h : w.grownBy W row) (hd : w.drawn ≤ W.drawn) : Chg (fun b => row = some b) w W := ⟨h.os, h.tape, h.output, h.size, fun b hb hn => h.block b hb fun e => hn e.symm, hd⟩
theorem Chg.of_evo {w W : World} {ds : List Nat} (h : Evo ds w W) : Chg (fun b => b ∈ ds) w W := ⟨h.os, h.tape, h.output, h.size, h.block, h.drawn⟩
theorem Chg.mono {N N' : Nat → Prop} {w W : World} (h : Chg N w W) (hn : ∀ b, b < w.heap.size → N b → N' b) : Chg N' w W := ⟨h.os, h.tape, h.output, h.size, fun b hb hx => h.block b hb fun hy => hx (hn b hb hy), h.drawn⟩
theorem Chg.trans {N N' : Nat → Prop} {w W W' : World} (h : Chg N w W) (k : Chg N' W W') (hn : ∀ b, b < w.heap.size → N' b → N b) : Chg N w W' :=
  ⟨k.os.trans h.os, k.tape.trans h.tape, k.output.trans h.output, Nat.le_trans h.size k.size, fun b hb hx => (k.block b (Nat.lt_of_lt_of_le hb h.size) fun hy => hx (hn b hb hy)).trans (h.block b hb hx), Nat.le_trans h.drawn k.drawn⟩

/-- The world at hand: what was there at the start, but for the blocks of M, is as it was; the own boxes are there. -/
structure AtF (w : World) (M : Nat → Prop) (gs : List Nat) (W : World) : Prop where
  chg : Chg M w W
  under : Under gs W
abbrev At (w : World) (gs : List Nat) (W : World) : Prop := AtF w noB gs W

theorem AtF.refl (w : World) (M : Nat → Prop) : AtF w M [] w := ⟨Chg.refl _ _, fun _ h => (by cases h)⟩
theorem At.refl (w : World) : At w [] w := AtF.refl w noB
theorem AtF.size {w W : World} {M : Nat → Prop} {gs : List Nat} (h : AtF w M gs W) : w.heap.size ≤ W.heap.size := h.chg.size
theorem AtF.below {w W : World} {gs : List Nat} (h : AtF w noB gs W) : Bel w W := h.chg.below
theorem Below_tr {w W W' : World} (h : Bel w W) (k : Bel W W') : Bel w W' := h.trans k
theorem AtF.step {w W W' : World} {M N : Nat → Prop} {gs : List Nat} (h : AtF w M gs W) (k : Chg N W W') (hN : ∀ b, b < W.heap.size → N b → w.heap.size ≤ b ∨ M b) : AtF w M gs W' :=
  ⟨h.chg.trans k fun b hb hx => (hN b (Nat.lt_of_lt_of_le hb h.size) hx).resolve_left (by omega), fun g hg => Nat.lt_of_lt_of_le (h.under g hg) k.size⟩
theorem AtF.call {w W W' : World} {M : Nat → Prop} {gs : List Nat} (h : AtF w M gs W) (k : Bel W W') : AtF w M gs W' :=
  h.step (N := noB) (Chg.of_below k) fun _ _ hx => hx.elim
theorem AtF.keeps {w W W' : World} {M : Nat → Prop} {gs : List Nat} (h : AtF w M gs W) (k : Bel W W') : Keeps gs W W' := fun g hg => k.block (h.under g hg)
theorem AtF.keepsC {w W W' : World} {M N : Nat → Prop} {gs : List Nat} (h : AtF w M gs W) (k : Chg N W W') (hN : ∀ g ∈ gs, ¬ N g) : Keeps gs W W' := fun g hg => k.block g (h.under g hg) (hN g hg)
theorem AtF.evo {w W W' : World} {M : Nat → Prop} {gs gs' ds : List Nat} (h : AtF w M gs W) (hd : ∀ d ∈ ds, w.heap.size ≤ d) (k : Evo ds W W') (hu : Under gs' W') : AtF w M gs' W' :=
  ⟨(h.step (Chg.of_evo k) fun b _ hx => .inl (hd b hx)).chg, hu⟩
/-- Other own boxes are looked at. -/
theorem AtF.gs {w W : World} {M : Nat → Prop} {gs gs' : List Nat} (h : AtF w M gs W) (hu : Under gs' W) : AtF w M gs' W := ⟨h.chg, hu⟩

/-- A contract: what a call returns, where it leaves every old block as it was. -/
def RetQ (P : Program) (f : FuncId) (args : Array Value) (W : World) (Q : Value → World → Prop) : Prop :=
  ∀ R : Ending → World → Prop, (∀ v w', Bel W w' → Q v w' → R (.returned v) w') → Calls P f args W R
/-- The same, where the value hangs on the arguments alone. -/
def Ret (P : Program) (f : FuncId) (args : Array Value) (W : World) (v : Value) : Prop :=
  ∀ R : Ending → World → Prop, (∀ w', Bel W w' → R (.returned v) w') → Calls P f args W R

section
variable {P : Program} {w W : World} {gs : List Nat} {M : Nat → Prop}

theorem at_call {f : FuncId} {args : Array Value} {v : Value} {K : Ending → World → Prop} (hA : AtF w M gs W) (hc : Ret P f args W v) (hK : ∀ w', AtF w M gs w' → Keeps gs W w' → K (.returned v) w') : Calls P f args W K :=
  hc K fun w' hb => hK w' (hA.call hb) (hA.keeps hb)
theorem at_callq {f : FuncId} {args : Array Value} {Q : Value → World → Prop} {K : Ending → World → Prop} (hA : AtF w M gs W) (hc : RetQ P f args W Q) (hK : ∀ v w', AtF w M gs w' → Keeps gs W w' → Bel W w' → Q v w' → K (.returned v) w') : Calls P f args W K :=
  hc K fun v w' hb hq => hK v w' (hA.call hb) (hA.keeps hb) hb hq

theorem go_n {F : Nat → Prop} (hA : AtF w M gs W) (h : ∀ n, w.heap.size ≤ n → F n) : ∀ n, W.heap.size ≤ n → F n := fun n hn => h n (Nat.le_trans hA.size hn)
theorem go_below {F : World → Prop} {gs' : List Nat} (hA : AtF w M gs W) (h : ∀ W', AtF w M gs' W' → F W') : ∀ W', Bel W W' → Under gs' W' → F W' :=
  fun W' hb hu => h W' ⟨(hA.call hb).chg, hu⟩
theorem go_below0 {F : World → Prop} (hA : AtF w M gs W) (h : ∀ W', AtF w M gs W' → F W') : ∀ W', Bel W W' → F W' := fun W' hb => h W' (hA.call hb)
theorem go_evo {F : World → Prop} {gs' ds : List Nat} (hA : AtF w M gs W) (hd : ∀ d ∈ ds, w.heap.size ≤ d) (h : ∀ W', AtF w M gs' W' → F W') : ∀ W', Evo ds W W' → Under gs' W' → F W' :=
  fun W' hb hu => h W' (hA.evo hd hb hu)
/-- The same, with what turned told besides. -/
theorem go_evo_too {F : World → Prop} {gs' ds : List Nat} (hA : AtF w M gs W) (hd : ∀ d ∈ ds, w.heap.size ≤ d) (h : ∀ W', AtF w M gs' W' → Evo ds W W' → F W') : ∀ W', Evo ds W W' → Under gs' W' → F W' :=
  fun W' hb hu => h W' (hA.evo hd hb hu) hb
theorem go_below_too {F : World → Prop} {gs' : List Nat} (hA : AtF w M gs W) (h : ∀ W', AtF w M gs' W' → Bel W W' → F W') : ∀ W', Bel W W' → Under gs' W' → F W' :=
  fun W' hb hu => h W' ⟨(hA.call hb).chg, hu⟩ hb

theorem leaf {R : Ending → World → Prop} {e e' : Ending} (h : ∀ w', Bel w w' → R e w') (hA : At w gs W) (he : e' = e) : R e' W := he ▸ h W hA.below
/-- A contract of what writes: what it returns, where it leaves old blocks as they were but for those of N. -/
def RetF (P : Program) (f : FuncId) (args : Array Value) (W : World) (N : Nat → Prop) (Q : Value → World → Prop) : Prop :=
  ∀ R : Ending → World → Prop, (∀ v w', Chg N W w' → Q v w' → R (.returned v) w') → Calls P f args W R
theorem at_callF {f : FuncId} {args : Array Value} {N : Nat → Prop} {Q : Value → World → Prop} {K : Ending → World → Prop} (hA : AtF w M gs W) (hc : RetF P f args W N Q) (hN : ∀ b, b < W.heap.size → N b → w.heap.size ≤ b ∨ M b) (hg : ∀ g ∈ gs, ¬ N g)
    (hK : ∀ v w', AtF w M gs w' → Keeps gs W w' → Chg N W w' → Q v w' → K (.returned v) w') : Calls P f args W K :=
  hc K fun v w' hb hq => hK v w' (hA.step hb hN) (hA.keepsC hb hg) hb hq
theorem RetQ.retF {f : FuncId} {args : Array Value} {N : Nat → Prop} {Q : Value → World → Prop} (h : RetQ P f args W Q) : RetF P f args W N Q := fun R k => h R fun v w' hb hq => k v w' (Chg.of_below hb) hq
theorem RetF.retQ {f : FuncId} {args : Array Value} {Q : Value → World → Prop} (h : RetF P f args W noB Q) : RetQ P f args W Q := fun R k => h R fun v w' hb hq => k v w' hb.below hq
theorem leafF {R : Ending → World → Prop} {Q : Value → World → Prop} {v : Value} (h : ∀ v w', Chg M w w' → Q v w' → R (.returned v) w') (hA : AtF w M gs W) (hq : Q v W) : R (.returned v) W := h v W hA.chg hq
theorem leafq {R : Ending → World → Prop} {Q : Value → World → Prop} {v : Value} (h : ∀ v w', Bel w w' → Q v w' → R (.returned v) w') (hA : At w gs W) (hq : Q v W) : R (.returned v) W := h v W hA.below hq
end

/-! ### Branches -/
theorem brD {p A B : Prop} [Decidable p] (h : p → A) (k : ¬p → B) : (decide p = true → A) ∧ (decide p = false → B) := ⟨fun e => h (of_decide_eq_true e), fun e => k (of_decide_eq_false e)⟩
theorem brND {p A B : Prop} [Decidable p] (h : ¬p → A) (k : p → B) : ((!decide p) = true → A) ∧ ((!decide p) = false → B) := ⟨fun e => h (by simpa using e), fun e => k (by simpa using e)⟩
theorem brE {α : Type} [DecidableEq α] {x y : α} {A B : Prop} (h : x = y → A) (k : x ≠ y → B) : ((x == y) = true → A) ∧ ((x == y) = false → B) := ⟨fun e => h (by simpa using e), fun e => k (by simpa using e)⟩
theorem brN {α : Type} [DecidableEq α] {x y : α} {A B : Prop} (h : x ≠ y → A) (k : x = y → B) : ((x != y) = true → A) ∧ ((x != y) = false → B) := ⟨fun e => h (by simpa using e), fun e => k (by simpa using e)⟩
theorem brB {b : Bool} {A B : Prop} (h : b = true → A) (k : b = false → B) : (b = true → A) ∧ (b = false → B) := ⟨h, k⟩

/-! ### Rules -/
section
variable {P : Program}

theorem eqlR_beq {op : BinOp} {t : TypeId} {x y : Operand} {a b v : Value} (h : ∀ W, (binOpS op t x y a b).run P W = .ok v W) : Gives P (binOpS op t x y a b) v := h

theorem gives_of_pure {s : Sem Value} {v : Value} (h : pureRun P s = some v) : Gives P s v := fun W => pureRun_run h W

end
end Go.Vc
