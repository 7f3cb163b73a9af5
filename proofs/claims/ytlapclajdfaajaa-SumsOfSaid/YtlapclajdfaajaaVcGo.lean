/- Steps of a walk through a formula: the world at hand differs from the first one in own blocks alone; branches become propositions; a call is taken by its contract. -/
import Derived.Test.YtlapclajdfaajaaVcRep
namespace Go.Vc
open Go Go.RowKit

/-- The world at hand: what was there at the start is as it was; the own boxes are there. -/
structure At (w : World) (gs : List Nat) (W : World) : Prop where
  below : Below w.heap.size w W
  under : Under gs W

theorem At.refl (w : World) : At w [] w := ⟨Below.refl _ _, fun _ h => (by cases h)⟩
theorem At.size {w W : World} {gs : List Nat} (h : At w gs W) : w.heap.size ≤ W.heap.size := h.below.size
theorem Below_tr {w W W' : World} (h : Below w.heap.size w W) (k : Below W.heap.size W W') : Below w.heap.size w W' := h.trans (k.mono h.size)
theorem At.call {w W W' : World} {gs : List Nat} (h : At w gs W) (k : Below W.heap.size W W') : At w gs W' :=
  ⟨Below_tr h.below k, fun g hg => Nat.lt_of_lt_of_le (h.under g hg) k.size⟩
theorem At.keeps {w W W' : World} {gs : List Nat} (h : At w gs W) (k : Below W.heap.size W W') : Keeps gs W W' := fun g hg => k.block g (h.under g hg)
theorem At.evo {w W W' : World} {gs gs' ds : List Nat} (h : At w gs W) (hd : ∀ d ∈ ds, w.heap.size ≤ d) (k : Evo ds W W') (hu : Under gs' W') : At w gs' W' :=
  ⟨h.below.trans ⟨k.os, k.tape, k.output, k.size, fun b hb => k.block b (Nat.lt_of_lt_of_le hb h.size) (fun hm => by have := hd b hm; omega)⟩, hu⟩

/-- A contract: what a call returns, where it leaves every old block as it was. -/
def RetQ (P : Program) (f : FuncId) (args : Array Value) (W : World) (Q : Value → World → Prop) : Prop :=
  ∀ R : Ending → World → Prop, (∀ v w', Below W.heap.size W w' → Q v w' → R (.returned v) w') → Calls P f args W R
/-- The same, where the value hangs on the arguments alone. -/
def Ret (P : Program) (f : FuncId) (args : Array Value) (W : World) (v : Value) : Prop :=
  ∀ R : Ending → World → Prop, (∀ w', Below W.heap.size W w' → R (.returned v) w') → Calls P f args W R

section
variable {P : Program} {w W : World} {gs : List Nat}

theorem at_call {f : FuncId} {args : Array Value} {v : Value} {K : Ending → World → Prop} (hA : At w gs W) (hc : Ret P f args W v) (hK : ∀ w', At w gs w' → Keeps gs W w' → K (.returned v) w') : Calls P f args W K :=
  hc K fun w' hb => hK w' (hA.call hb) (hA.keeps hb)
theorem at_callq {f : FuncId} {args : Array Value} {Q : Value → World → Prop} {K : Ending → World → Prop} (hA : At w gs W) (hc : RetQ P f args W Q) (hK : ∀ v w', At w gs w' → Keeps gs W w' → Below W.heap.size W w' → Q v w' → K (.returned v) w') : Calls P f args W K :=
  hc K fun v w' hb hq => hK v w' (hA.call hb) (hA.keeps hb) hb hq

theorem go_n {F : Nat → Prop} (hA : At w gs W) (h : ∀ n, w.heap.size ≤ n → F n) : ∀ n, W.heap.size ≤ n → F n := fun n hn => h n (Nat.le_trans hA.size hn)
theorem go_below {F : World → Prop} {gs' : List Nat} (hA : At w gs W) (h : ∀ W', At w gs' W' → F W') : ∀ W', Below W.heap.size W W' → Under gs' W' → F W' :=
  fun W' hb hu => h W' ⟨Below_tr hA.below hb, hu⟩
theorem go_below0 {F : World → Prop} (hA : At w gs W) (h : ∀ W', At w gs W' → F W') : ∀ W', Below W.heap.size W W' → F W' := fun W' hb => h W' (hA.call hb)
theorem go_evo {F : World → Prop} {gs' ds : List Nat} (hA : At w gs W) (hd : ∀ d ∈ ds, w.heap.size ≤ d) (h : ∀ W', At w gs' W' → F W') : ∀ W', Evo ds W W' → Under gs' W' → F W' :=
  fun W' hb hu => h W' (hA.evo hd hb hu)
/-- The same, with what turned told besides. -/
theorem go_evo_too {F : World → Prop} {gs' ds : List Nat} (hA : At w gs W) (hd : ∀ d ∈ ds, w.heap.size ≤ d) (h : ∀ W', At w gs' W' → Evo ds W W' → F W') : ∀ W', Evo ds W W' → Under gs' W' → F W' :=
  fun W' hb hu => h W' (hA.evo hd hb hu) hb
theorem go_below_too {F : World → Prop} {gs' : List Nat} (hA : At w gs W) (h : ∀ W', At w gs' W' → Below W.heap.size W W' → F W') : ∀ W', Below W.heap.size W W' → Under gs' W' → F W' :=
  fun W' hb hu => h W' ⟨Below_tr hA.below hb, hu⟩ hb

theorem leaf {R : Ending → World → Prop} {e e' : Ending} (h : ∀ w', Below w.heap.size w w' → R e w') (hA : At w gs W) (he : e' = e) : R e' W := he ▸ h W hA.below
theorem leafq {R : Ending → World → Prop} {Q : Value → World → Prop} {v : Value} (h : ∀ v w', Below w.heap.size w w' → Q v w' → R (.returned v) w') (hA : At w gs W) (hq : Q v W) : R (.returned v) W := h v W hA.below hq
end

/-! ### Branches -/
theorem brD {p A B : Prop} [Decidable p] (h : p → A) (k : ¬p → B) : (decide p = true → A) ∧ (decide p = false → B) := ⟨fun e => h (of_decide_eq_true e), fun e => k (of_decide_eq_false e)⟩
theorem brND {p A B : Prop} [Decidable p] (h : ¬p → A) (k : p → B) : ((!decide p) = true → A) ∧ ((!decide p) = false → B) := ⟨fun e => h (by simpa using e), fun e => k (by simpa using e)⟩
theorem brE {α : Type} [DecidableEq α] {x y : α} {A B : Prop} (h : x = y → A) (k : x ≠ y → B) : ((x == y) = true → A) ∧ ((x == y) = false → B) := ⟨fun e => h (by simpa using e), fun e => k (by simpa using e)⟩
theorem brN {α : Type} [DecidableEq α] {x y : α} {A B : Prop} (h : x ≠ y → A) (k : x = y → B) : ((x != y) = true → A) ∧ ((x != y) = false → B) := ⟨fun e => h (by simpa using e), fun e => k (by simpa using e)⟩
theorem brB {b : Bool} {A B : Prop} (h : b = true → A) (k : b = false → B) : (b = true → A) ∧ (b = false → B) := ⟨h, k⟩

/-! ### Rules -/
section
variable {P : Program}

theorem eqlR_beq {op : BinOp} {t : TypeId} {x y : Operand} {a b v : Value} (h : ∀ W, (binOpS op t x y a b).run P W = .ok v W) : Gives P (binOpS op t x y a b) v := h

theorem gives_of_pure {s : Sem Value} {v : Value} (h : pureRun P s = some v) : Gives P s v := fun W => pureRun_run h W

end
end Go.Vc
