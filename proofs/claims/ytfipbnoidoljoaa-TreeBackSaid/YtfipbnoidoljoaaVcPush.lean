/- 'append(l, x)': a row of one element made, and added to an own slice. -/
import Derived.Test.YtfipbnoidoljoaaVcElt
import Derived.Test.YtfipbnoidoljoaaVcArr
namespace Go.Vc
open Go Go.RowKit

theorem grown_trans_below {W W' W'' : World} {row : Option Nat} (h : Bel W W') (k : W'.grownBy W'' row) : W.grownBy W'' row :=
  ⟨k.os.trans h.below.os, k.tape.trans h.below.tape, k.output.trans h.below.output, Nat.le_trans h.size k.size, fun b hb hne => (k.block b (Nat.lt_of_lt_of_le hb h.size) hne).trans (h.block hb)⟩

section
variable {α : Type} {P : Program} {M : Nat → Prop} {w W : World} {gs : List Nat} {e e' : TypeId} {size : Nat} {f : α → List Value} {a : Option Addr} {n c : Nat} {l : List α} {t ty : TypeId} {fl : Array Bool} {bytes : Nat} {parts : Array (Nat × Value)} {x : α}

theorem opw_push (hA : AtF w M gs W) (ho : OwnF w M gs W e size f (.slice a n c) l) (x : α) (he : elemB P t e size bytes = true) (hc : sliceCells P t 1 parts = some (e', f x)) (hl : (f x).length = size) (hf : ∀ y ∈ l ++ [x], (f y).length = size)
    (h1 : ∀ u ∈ f x, u.oneCell' = true) (h63 : l.length + 1 ≤ 1099511627776) (hby : bytes ≤ 128) {K : Option Addr → Nat → Nat → World → Prop}
    (h : ∀ a' c' w2, AtF w M gs w2 → OwnF w M gs w2 e size f (.slice a' (l ++ [x]).length c') (l ++ [x]) → W.grownBy w2 (Value.slice a n c).ownBlock → ((Value.slice a' (l ++ [x]).length c').ownBlock = (Value.slice a n c).ownBlock ∨ ∀ k, (Value.slice a' (l ++ [x]).length c').ownBlock = some k → W.heap.size ≤ k) → K a' (l ++ [x]).length c' w2) :
    OpW P (valueS (Instr.buildSlice t 1 parts)) W fun v w1 => ∃ a1 n1 c1, v = .slice a1 n1 c1 ∧ Keeps gs W w1 ∧ OpW P (builtin .append #[t, t] ty fl #[.slice a n c, .slice a1 n1 c1]) w1 fun v w2 => ∃ a2 n2 c2, v = .slice a2 n2 c2 ∧ Keeps gs w1 w2 ∧ K a2 n2 c2 w2 := by
  refine opw_lit hA hc fun w' hA hk hb hcell _ => ⟨_, _, _, rfl, hk, ?_⟩
  refine opw_append1 (bytes := bytes) he hA (ho.call hb) (x := x) hl hcell h1 (by omega) (.inr (by
    have := Nat.mul_le_mul (show l.length + 1 ≤ 1099511627776 by omega) hby
    omega)) fun v' w2 hA hk2 hg ho' hnew => ?_
  obtain ⟨a2, c2, rfl, _⟩ := ho'.slice hf
  refine ⟨_, _, _, rfl, hk2, h _ _ _ hA ho' (grown_trans_below hb hg) (hnew.imp id fun hh k hk => Nat.le_trans hb.size (hh k hk))⟩

theorem opw_push0 (hA : AtF w M gs W) (ho : OwnF w M gs W e size f (.slice a n c) l) (x : α) (he : elemB P t e size bytes = true) (hc : sliceCells P t 1 parts = some (e', f x)) (hl : (f x).length = size) (hf : ∀ y ∈ l ++ [x], (f y).length = size)
    (h1 : ∀ u ∈ f x, u.oneCell' = true) (h63 : l.length + 1 ≤ 1099511627776) (hby : bytes ≤ 128) {K : Option Addr → Nat → Nat → World → Prop}
    (h : ∀ a' c' w2, AtF w M gs w2 → OwnF w M gs w2 e size f (.slice a' (l ++ [x]).length c') (l ++ [x]) → W.grownBy w2 (Value.slice a n c).ownBlock → ((Value.slice a' (l ++ [x]).length c').ownBlock = (Value.slice a n c).ownBlock ∨ ∀ k, (Value.slice a' (l ++ [x]).length c').ownBlock = some k → W.heap.size ≤ k) → K a' (l ++ [x]).length c' w2) :
    OpW P (valueS (Instr.buildSlice t 1 parts)) W fun v w1 => ∃ a1 n1 c1, v = .slice a1 n1 c1 ∧ OpW P (builtin .append #[t, t] ty fl #[.slice a n c, .slice a1 n1 c1]) w1 fun v w2 => ∃ a2 n2 c2, v = .slice a2 n2 c2 ∧ K a2 n2 c2 w2 := by
  refine opw_lit hA hc fun w' hA hk hb hcell _ => ⟨_, _, _, rfl, ?_⟩
  refine opw_append1 (bytes := bytes) he hA (ho.call hb) (x := x) hl hcell h1 (by omega) (.inr (by
    have := Nat.mul_le_mul (show l.length + 1 ≤ 1099511627776 by omega) hby
    omega)) fun v' w2 hA hk2 hg ho' hnew => ?_
  obtain ⟨a2, c2, rfl, _⟩ := ho'.slice hf
  exact ⟨_, _, _, rfl, h _ _ _ hA ho' (grown_trans_below hb hg) (hnew.imp id fun hh k hk => Nat.le_trans hb.size (hh k hk))⟩
end

/-- A contract that returns a new slice and a bool. -/
def RetLB {α : Type} (P : Program) (fn : FuncId) (args : Array Value) (W : World) (e : TypeId) (size : Nat) (f : α → List Value) (l : List α) (ok : Bool) : Prop :=
  RetQ P fn args W fun v w' => ∃ s, v = .tuple #[s, .bool ok] ∧ w'.ownsRow W.heap.size e size s l.length (l.flatMap f)
theorem at_calllb {α : Type} {P : Program} {M : Nat → Prop} {w W : World} {gs : List Nat} {fn : FuncId} {args : Array Value} {e : TypeId} {size : Nat} {f : α → List Value} {l : List α} {ok : Bool} {K : Ending → World → Prop} (hA : AtF w M gs W) (hc : RetLB P fn args W e size f l ok) (hf : ∀ x ∈ l, (f x).length = size)
    (hK : ∀ a c w', AtF w M gs w' → Keeps gs W w' → Bel W w' → OwnF w M gs w' e size f (.slice a l.length c) l → SlE w' size f l a l.length c → K (.returned (.tuple #[.slice a l.length c, .bool ok])) w') : Calls P fn args W K :=
  at_callq hA hc fun v w' hA' hk hb ⟨s, hv, hq⟩ => by
    have ho : OwnF w M gs w' e size f s l := OwnF.ret hA hq rfl rfl
    obtain ⟨a, c, rfl, hs⟩ := ho.slice hf
    subst hv
    exact hK a c w' hA' hk hb ho hs
theorem leaflb {α : Type} {w W : World} {gs : List Nat} {e : TypeId} {size : Nat} {f : α → List Value} {l l' : List α} {v : Value} {ok ok' : Bool} {R : Ending → World → Prop} (h : ∀ v w', Bel w w' → (∃ s, v = .tuple #[s, .bool ok] ∧ w'.ownsRow w.heap.size e size s l.length (l.flatMap f)) → R (.returned v) w') (hA : At w gs W) (ho : OwnL w gs W e size f v l') (hl : l' = l) (hk : ok' = ok) : R (.returned (.tuple #[v, .bool ok'])) W :=
  h _ _ hA.below ⟨v, by rw [hk], hl ▸ ho.row⟩

/-- What is made leaves every old block as it was. -/
theorem opw_alloc_below {P : Program} {t : TypeId} {zv : Value} {W : World} {K : Value → World → Prop} (hz : pureRun P (zeroValue t) = some zv) (h : OpW P (valueS (Instr.alloc t true (.tuple #[]))) W fun v w' => Bel W w' → K v w') :
    OpW P (valueS (Instr.alloc t true (.tuple #[]))) W K := by
  unfold OpW at h ⊢
  rw [run_valueS (run_alloc hz)] at h ⊢
  exact h (below_alloc _)

/-- A slice written out, as an own slice. -/
theorem opw_litL {α : Type} {P : Program} {M : Nat → Prop} {w W : World} {gs : List Nat} {t e' : TypeId} {len size : Nat} {parts : Array (Nat × Value)} {f : α → List Value} {l : List α} {K : Value → World → Prop} (hA : AtF w M gs W) (hl : len = l.length) (hsz : ∀ x ∈ l, (f x).length = size) (hm : len ≤ maxLen) (hc : sliceCells P t len parts = some (e', l.flatMap f))
    (h : ∀ g w', W.heap.size ≤ g → AtF w M gs w' → Keeps gs W w' → Bel W w' → OwnF w M gs w' e' size f (.slice (some ⟨g, 0, none⟩) len len) l → K (.slice (some ⟨g, 0, none⟩) len len) w') : OpW P (valueS (Instr.buildSlice t len parts)) W K := by
  refine opw_lit hA hc fun w' hA' hk hb _ hh => h _ w' (Nat.le_refl _) hA' hk hb (OwnF.ret (n := len) (xs := l.flatMap f) hA ?_ hl rfl)
  have hlf := flatMap_len hsz
  exact ⟨by rw [hlf, hl], .inr ⟨W.heap.size, len, _, rfl, Nat.le_refl _, hh, Nat.le_refl _, hm, by simp [hl, hlf], by rw [List.toList_toArray]; exact List.take_of_length_le (by rw [hlf, hl]; exact Nat.le_refl _)⟩⟩
end Go.Vc
