/- Own text of this claim: Hp1. -/
import Derived.Test.YtkbjdkkpjjlbeaaFc1
import Derived.Test.YtkbjdkkpjjlbeaaVcStore
import Derived.Test.YtkbjdkkpjjlbeaaHpM
set_option maxRecDepth 20000
namespace Go.Vc.H
open Go Go.Vc Go.RowKit Go.Proofs Vcc

abbrev itE (x : It) : List Value := [.int .i64 x.1, .int .i64 x.2]
abbrev hpV (g : Nat) : Value := .pointer (some ⟨g, 0, none⟩)
abbrev hpC (a : Option Addr) (n c r : Nat) (st : Int) : List Value := [.slice a n c, .map (some r), .int .i64 st]

/-- A heap: its struct, its row of items, its map of places. -/
structure HpR (w : World) (M : Nat → Prop) (gs : List Nat) (W : World) (g : Nat) (a : Option Addr) (c r : Nat) (l pl : List It) (st : Int) : Prop where
  blk : W.heap[g]? = some (.cells (hpC a l.length c r st).toArray 39 (0, 0))
  mine : w.heap.size ≤ g ∨ M g
  apart : g ∉ gs
  items : OwnF w M gs W 80 2 itE (.slice a l.length c) l
  map : OwnM w M gs W r (Value.int .i64) (Value.int .i64) pl

/-- The blocks of a heap. -/
def fpH (g : Nat) (a : Option Addr) (r : Nat) : Nat → Prop := fun b => b = g ∨ b = r ∨ (Value.slice a 0 0).ownBlock = some b

theorem ownB {a : Option Addr} {n c n' c' : Nat} : (Value.slice a n c).ownBlock = (Value.slice a n' c').ownBlock := by cases a <;> rfl

section
variable {w W W' : World} {M : Nat → Prop} {gs : List Nat} {g c r : Nat} {a : Option Addr} {l pl : List It} {st : Int}

theorem HpR.fp (h : HpR w M gs W g a c r l pl st) : ∀ b, b < W.heap.size → fpH g a r b → w.heap.size ≤ b ∨ M b := by
  rintro b _ (rfl | rfl | hb)
  · exact h.mine
  · exact h.map.mine
  · exact h.items.mine b (by rw [ownB]; exact hb)
theorem HpR.fpgs (h : HpR w M gs W g a c r l pl st) : ∀ x ∈ gs, ¬ fpH g a r x := by
  rintro x hx (rfl | rfl | hb)
  · exact h.apart hx
  · exact h.map.apart hx
  · exact h.items.apart x hx (by rw [ownB]; exact hb)
theorem HpR.lt (h : HpR w M gs W g a c r l pl st) : ∀ b, fpH g a r b → b < W.heap.size := by
  rintro b (rfl | rfl | hb)
  · exact (Array.getElem?_eq_some_iff.1 h.blk).1
  · exact h.map.lt
  · exact h.items.lt b (by rw [ownB]; exact hb)
/-- Seen from the method's own first world. -/
theorem HpR.entry (h : HpR w M gs W g a c r l pl st) : HpR W (fpH g a r) [] W g a c r l pl st :=
  ⟨h.blk, .inr (.inl rfl), by simp, h.items.base (fun k hk => .inr (.inr (.inr (by rw [← hk]; exact ownB)))) (by simp), ⟨.inr (.inr (.inl rfl)), by simp, h.map.obj⟩⟩
theorem HpR.keep (h : HpR w M gs W g a c r l pl st) (hc : ∀ b, fpH g a r b → W'.heap[b]? = W.heap[b]?) : HpR w M gs W' g a c r l pl st :=
  ⟨by rw [hc g (.inl rfl)]; exact h.blk, h.mine, h.apart, h.items.keep fun k hk => hc k (.inr (.inr (by rw [← hk]; exact ownB))), by
    obtain ⟨es, cl, hr, rest⟩ := h.map.obj
    exact ⟨h.map.mine, h.map.apart, es, cl, by rw [hc r (.inr (.inl rfl))]; exact hr, rest⟩⟩
theorem HpR.call (h : HpR w M gs W g a c r l pl st) (hb : Bel W W') : HpR w M gs W' g a c r l pl st := h.keep fun b hf => hb.block (h.lt b hf)
theorem HpR.chg {N : Nat → Prop} (h : HpR w M gs W g a c r l pl st) (hb : Chg N W W') (hn : ∀ b, fpH g a r b → ¬ N b) : HpR w M gs W' g a c r l pl st := h.keep fun b hf => hb.block b (h.lt b hf) (hn b hf)
theorem HpR.evo {ds : List Nat} (h : HpR w M gs W g a c r l pl st) (hd : ∀ d ∈ ds, d ∉ gs → W.heap.size ≤ d) (hb : Evo ds W W') : HpR w M gs W' g a c r l pl st :=
  h.keep fun b hf => hb.block b (h.lt b hf) fun hm => by
    by_cases hk : b ∈ gs
    · exact h.fpgs b hk hf
    · have := hd b hm hk
      have := h.lt b hf
      omega
theorem HpR.more {gs' : List Nat} (h : HpR w M gs W g a c r l pl st) (hg : ∀ x ∈ gs', x ∉ gs → W.heap.size ≤ x) : HpR w M gs' W g a c r l pl st :=
  ⟨h.blk, h.mine, fun hx => by
    by_cases hk : g ∈ gs
    · exact h.apart hk
    · have := hg g hx hk
      have := h.lt g (.inl rfl)
      omega, h.items.more hg, h.map.more hg⟩
/-- Back at the caller. -/
theorem HpR.back {a' : Option Addr} {c' : Nat} {l' pl' : List It} {st' : Int} (hA : AtF w M gs W) (h : HpR w M gs W g a c r l pl st) (h' : HpR W (fpH g a r) [] W' g a' c' r l' pl' st') : HpR w M gs W' g a' c' r l' pl' st' := by
  have m : ∀ k, (W.heap.size ≤ k ∨ fpH g a r k) → w.heap.size ≤ k ∨ M k := fun k hk => by
    rcases hk with hk | hk
    · exact .inl (Nat.le_trans hA.size hk)
    · exact h.fp k (h.lt k hk) hk
  have ap : ∀ k, (W.heap.size ≤ k ∨ fpH g a r k) → k ∉ gs := fun k hk hg => by
    rcases hk with hk | hk
    · have := hA.under k hg; omega
    · exact h.fpgs k hg hk
  exact ⟨h'.blk, h.mine, h.apart, h'.items.base (fun k hk => m k (h'.items.mine k hk)) (fun x hx hk => ap x (h'.items.mine x hk) hx), ⟨m r h'.map.mine, ap r h'.map.mine, h'.map.obj⟩⟩

/-- What a method leaves. -/
def HpPost (W : World) (g : Nat) (a : Option Addr) (r : Nat) (W' : World) (l' pl' : List It) (st' : Int) : Prop := ∃ a' c', HpR W (fpH g a r) [] W' g a' c' r l' pl' st'

theorem at_hp {P : Program} {f : FuncId} {args : Array Value} {V : Value} {Φ : List It → List It → Int → Prop} {K : Ending → World → Prop} (hA : AtF w M gs W) (h : HpR w M gs W g a c r l pl st)
    (hc : RetF P f args W (fpH g a r) (fun v W' => v = V ∧ ∃ l' pl' st', Φ l' pl' st' ∧ HpPost W g a r W' l' pl' st'))
    (hK : ∀ a' c' l' pl' st' W', AtF w M gs W' → Keeps gs W W' → Chg (fpH g a r) W W' → Φ l' pl' st' → HpR w M gs W' g a' c' r l' pl' st' → (∀ b, fpH g a' r b → W.heap.size ≤ b ∨ fpH g a r b) → K (.returned V) W') : Calls P f args W K := by
  refine at_callF hA hc h.fp h.fpgs fun v W' hA' hk hch ⟨hv, l', pl', st', hΦ, a', c', h'⟩ => ?_
  subst hv
  exact hK a' c' l' pl' st' W' hA' hk hch hΦ (h.back hA h') (fun b hb => h'.fp b (h'.lt b hb) hb)

/-! ### Fields -/
theorem nog {g : Nat} : ∀ d ∈ ([] : List Nat), d ≠ g := fun _ h => by cases h
theorem HpR.gr (h : HpR w M gs W g a c r l pl st) : g ≠ r := by
  obtain ⟨es, cl, hr, _⟩ := h.map.obj
  exact cells_map h.blk hr
theorem HpR.gi (h : HpR w M gs W g a c r l pl st) : (Value.slice a l.length c).ownBlock ≠ some g := fun hk => by
  obtain ⟨cur, hc⟩ := h.items.blk hk
  exact cells_ne hc h.blk (by decide) rfl
theorem HpR.ri (h : HpR w M gs W g a c r l pl st) : (Value.slice a l.length c).ownBlock ≠ some r := fun hk => by
  obtain ⟨cur, hc⟩ := h.items.blk hk
  obtain ⟨es, cl, hr, _⟩ := h.map.obj
  exact cells_map hc hr rfl
theorem HpR.place {i : Nat} (h : HpR w M gs W g a c r l pl st) (hi : i < l.length) : ∃ ad, Gives Try.prog (Instr.indexAt 36 (.slice a l.length c) (.int .i64 (i : Int))) (.pointer (some ad)) ∧ ∀ g', a = some ⟨g', 0, none⟩ → ad = ⟨g', i * 2, none⟩ := by
  obtain ⟨g', cur, rfl, _⟩ := h.items.ptr (by omega)
  refine ⟨_, gives_index (e := 80) (n := 2) (by kernel_rfl) (by kernel_rfl) hi, fun g2 h2 => ?_⟩
  cases h2
  rw [addr_add, Nat.zero_add]
theorem HpR.rdI {ds : List Nat} (h : HpR w M gs W g a c r l pl st) (hd : ∀ d ∈ ds, d ≠ g) : Reads Try.prog ds (Instr.loadAt 36 (hpV g)) W (.slice a l.length c) := rd_f0 h.blk (by kernel_rfl) hd
theorem HpR.rdM {ds : List Nat} (h : HpR w M gs W g a c r l pl st) (hd : ∀ d ∈ ds, d ≠ g) : Reads Try.prog ds (Instr.loadAt 37 (.pointer (some (Addr.mk g (0 + 1) none)))) W (.map (some r)) := rd_f 0 h.blk rfl (by kernel_rfl) hd
theorem HpR.rdS {ds : List Nat} (h : HpR w M gs W g a c r l pl st) (hd : ∀ d ∈ ds, d ≠ g) : Reads Try.prog ds (Instr.loadAt 3 (.pointer (some (Addr.mk g (0 + 2) none)))) W (.int .i64 st) := rd_f 1 h.blk rfl (by kernel_rfl) hd
theorem HpR.item {ds : List Nat} {i : Nat} {x : It} (h : HpR w M gs W g a c r l pl st) (hx : l[i]? = some x) (hd : ∀ d ∈ ds, W.heap.size ≤ d) : ∃ ad, Gives Try.prog (Instr.indexAt 36 (.slice a l.length c) (.int .i64 (i : Int))) (.pointer (some ad)) ∧ Reads Try.prog ds (Instr.loadAt 80 (.pointer (some ad))) W (.agg #[.int .i64 x.1, .int .i64 x.2]) ∧ Elt W ad (itE x) := by
  obtain ⟨ad, g1, e, _⟩ := elt_at (P := Try.prog) (k := .i64) (t := 36) (h.items.sl (fun _ _ => rfl)) hx (e := 80) (by kernel_rfl) (by kernel_rfl)
  exact ⟨ad, g1, Elt.agg 2 e (by kernel_rfl) (by kernel_rfl) (by simp) (e.far hd), e⟩
end

theorem K2 : KeyOk Try.prog 2 (Value.int .i64) := keyOk_int (by kernel_rfl)
theorem t37 : Try.prog.underlying 37 = some (.map 2 3) := by kernel_rfl

theorem c48 (x y : It) (w : World) : Ret Try.prog 48 #[.agg #[.int .i64 x.1, .int .i64 x.2], .agg #[.int .i64 y.1, .int .i64 y.2]] w (.bool (decide (ahead x y))) := by
  intro R h
  refine f48_calls x.1 x.2 y.1 y.2 w R ?_
  unfold f48_vc
  have hA := At.refl w
  refine go_n hA fun n1 h_n1 => ?_
  refine go_n hA fun n2 h_n2 => ?_
  refine brD (fun h1 => go_below hA fun _ hA => leaf h hA (by rw [decide_eq_true (show ahead x y from .inl h1)])) (fun h1 => brE (fun h2 => go_below hA fun _ hA => leaf h hA ?_) (fun h2 => go_below hA fun _ hA => leaf h hA ?_))
  · rw [show decide (ahead x y) = decide (x.1 < y.1) from decide_eq_decide.2 ⟨fun hh => hh.elim (fun e => absurd e h1) (·.2), fun hh => .inr ⟨h2, hh⟩⟩]
  · rw [decide_eq_false (show ¬ ahead x y from fun hh => hh.elim h1 (fun e => h2 e.1))]

theorem c9 (w : World) : RetF Try.prog 9 #[] w noB (fun v W' => ∃ g r, v = hpV g ∧ HpR w noB [] W' g none 0 r [] [] 0) := by
  intro R h
  refine f9_calls w R ?_
  unfold f9_vc
  have hA := At.refl w
  refine opw_makeMap (kf := Value.int .i64) (vf := Value.int .i64) hA fun r w2 hr hA hk hb ho => ⟨_, rfl, ?_⟩
  refine opw_boxS hA fun g w5 hg hA hk hb hblk => ⟨_, rfl, ?_⟩
  exact leafF h hA ⟨g, r, rfl, hblk, .inl (by have := hA.size; have := (ho.lt); omega), by simp, OwnF.nil, ho.call hb⟩

theorem c33 {W : World} {g c r : Nat} {a : Option Addr} {l pl : List It} {st : Int} (x : It) (i : Nat) (hi : i < l.length) (H : HpR W (fpH g a r) [] W g a c r l pl st) :
    RetF Try.prog 33 #[hpV g, .int .i64 (i : Int), .agg #[.int .i64 x.1, .int .i64 x.2]] W (fpH g a r) (fun v W' => v = .tuple #[] ∧ ∃ l' pl' st', (l' = l.set i x ∧ pl' = mset x.1 (i : Int) pl ∧ st' = st) ∧ HpPost W g a r W' l' pl' st') := by
  intro R h
  refine f33_calls _ _ x.1 x.2 W R ?_
  unfold f33_vc
  have hA : AtF W (fpH g a r) [] W := AtF.refl W _
  refine go_n hA fun n1 h_n1 => ?_
  obtain ⟨ad, g1, hp⟩ := H.place hi
  refine ⟨_, rfl, _, _, _, H.rdI nog, _, g1, ?_⟩
  refine go_below_too hA fun w7 hA7 hb7 => ?_
  have H7 := (H.more (gs' := [n1]) (by intro q hq _; simp at hq; omega)).call hb7
  refine opw_store (y := x) hA7 H7.items (fun _ _ => rfl) hi rfl rfl rfl (by kernel_rfl) (fun w9 hA9 hk9 hg9 ho9 => ?_) hp
  have hb9 : w9.heap[g]? = some (.cells (hpC a l.length c r st).toArray 39 (0, 0)) := by
    rw [hg9.block g (H7.lt g (.inl rfl)) (fun e => H7.gi e.symm)]
    exact H7.blk
  have hm9 : OwnM W (fpH g a r) [n1] w9 r (Value.int .i64) (Value.int .i64) pl := by
    obtain ⟨es, cl, hr, rest⟩ := H7.map.obj
    exact ⟨H7.map.mine, H7.map.apart, es, cl, by rw [hg9.block r H7.map.lt (fun e => H7.ri e.symm)]; exact hr, rest⟩
  have H9 : HpR W (fpH g a r) [n1] w9 g a c r (l.set i x) pl st := ⟨by rw [List.length_set]; exact hb9, H7.mine, H7.apart, by rw [List.length_set]; exact ho9, hm9⟩
  have rdM9 := H9.rdM (ds := []) nog
  refine ⟨hk9, _, rfl, _, rdM9, ?_⟩
  refine go_below_too hA9 fun w12 hA12 hb12 => ?_
  have H12 := H9.call hb12
  refine opw_mapUpdate (v := (i : Int)) K2 t37 hA12 H12.map fun w14 hA14 hk14 hc14 ho14 => ⟨hk14, ?_⟩
  have H14 : HpR W (fpH g a r) [n1] w14 g a c r (l.set i x) (mset x.1 (i : Int) pl) st :=
    ⟨by rw [hc14.block g (H12.lt g (.inl rfl)) H12.gr]; exact H12.blk, H12.mine, H12.apart, H12.items.chg hc14 (fun k hk e => H12.ri (by rw [← e]; exact hk)), ho14⟩
  exact leafF h hA14 ⟨rfl, _, _, _, ⟨rfl, rfl, rfl⟩, _, _, H14.more (by simp)⟩
end Go.Vc.H
