/- An element of a slice, and its parts: the places, and what is read there. -/
import Derived.Test.YtfipbnoidoljoaaVcStr
namespace Go.Vc
open Go Go.RowKit

/-- The cells that lie at a place. -/
def Elt (W : World) (ad : Addr) (cs : List Value) : Prop := ∀ (j : Nat) (v : Value), cs[j]? = some v → W.cell? (ad.add j) = some v

section
variable {P : Program} {W W' : World} {ad : Addr} {cs : List Value} {ds : List Nat}

theorem Elt.below (h : Elt W ad cs) (hb : Bel W W') : Elt W' ad cs := fun j v hv => cell_below hb.below _ _ (h j v hv)
theorem Elt.evo (h : Elt W ad cs) (hb : evoP ds W W') (hd : ∀ d ∈ ds, d ≠ ad.block) : Elt W' ad cs := fun j v hv => evo_cell hb (by
    intro d hdm
    have hbk : (ad.add j).block = ad.block := by unfold Addr.add; split <;> rfl
    rw [hbk]; exact hd d hdm) (h j v hv)

theorem add_block (ad : Addr) (j : Nat) : (ad.add j).block = ad.block := by unfold Addr.add; split <;> rfl
theorem add_pos (ad : Addr) {o : Nat} (h : 0 < o) : ad.add o = ⟨ad.block, ad.off + o, none⟩ := by
  unfold Addr.add
  rw [if_neg (by omega)]

theorem Elt.sub (h : Elt W ad cs) {o : Nat} (ho : 0 < o) : Elt W ⟨ad.block, ad.off + o, none⟩ (cs.drop o) := by
  intro j v hv
  rw [List.getElem?_drop] at hv
  have := h (o + j) v hv
  rw [add_pos ad (by omega)] at this
  rw [addr_add]
  rw [show ad.off + o + j = ad.off + (o + j) by omega]
  exact this

theorem Elt.one {te : TypeId} {v : Value} {r : List Value} (h : Elt W ad (v :: r)) (hagg : pureRun P (isAgg te) = some false) (hd : ∀ d ∈ ds, d ≠ ad.block) : Reads P ds (Instr.loadAt te (.pointer (some ad))) W v :=
  reads_one hagg hd (by have := h 0 v rfl; unfold Addr.add at this; simpa using this)

theorem Elt.agg {te : TypeId} (m : Nat) (h : Elt W ad cs) (hagg : pureRun P (isAgg te) = some true) (hsz : pureRun P (sizeOf te) = some m) (hm : m ≤ cs.length) (hd : ∀ d ∈ ds, d ≠ ad.block) :
    Reads P ds (Instr.loadAt te (.pointer (some ad))) W (.agg (cs.take m).toArray) :=
  reads_agg hagg (by rw [hsz, List.length_take, Nat.min_eq_left hm]) hd (fun j v hv => h j v (by
    rw [List.getElem?_take] at hv
    split at hv
    · exact hv
    · cases hv))

theorem elt_at {α : Type} {t e : TypeId} {size : Nat} {f : α → List Value} {l : List α} {a : Option Addr} {n c : Nat} {x : α} {i : Nat} {k : IntKind} (hs : SlE W size f l a n c) (hx : l[i]? = some x) (ht : P.underlying t = some (.slice e)) (hz : pureRun P (sizeOf e) = some size) :
    ∃ ad, Gives P (Instr.indexAt t (.slice a n c) (.int k (i : Int))) (.pointer (some ad)) ∧ Elt W ad (f x) ∧ ∀ b, a = some b → ad.block = b.block := by
  obtain ⟨b, cs, rfl, hl, hcs, rfl⟩ := hs.at_ hx
  have hi := (List.getElem?_eq_some_iff.1 hx).1
  have hn := hs.1
  exact ⟨b.add (i * size), gives_index ht hz (by omega), hcs, fun b' hb' => by cases hb'; exact add_block _ _⟩

/-- A call by its contract, with the world's growth told besides. -/
theorem at_callb {M : Nat → Prop} {w W : World} {gs : List Nat} {f : FuncId} {args : Array Value} {v : Value} {K : Ending → World → Prop} (hA : AtF w M gs W) (hc : Ret P f args W v) (hK : ∀ w', AtF w M gs w' → Keeps gs W w' → Bel W w' → K (.returned v) w') : Calls P f args W K :=
  hc K fun w' hb => hK w' (hA.call hb) (hA.keeps hb) hb
/-- The own boxes out of sight. -/
theorem AtF.off {M : Nat → Prop} {w W : World} {gs : List Nat} (h : AtF w M gs W) : AtF w M [] W := ⟨h.chg, fun _ h => by cases h⟩

theorem brNB {b : Bool} {A B : Prop} (h : b = false → A) (k : b = true → B) : ((!b) = true → A) ∧ ((!b) = false → B) := ⟨fun e => h (by simpa using e), fun e => k (by simpa using e)⟩

theorem addr_add0 (ad : Addr) : ad.add 0 = ad := by unfold Addr.add; simp
/-- Adding to an address, twice. -/
theorem add_add (a : Addr) (l j : Nat) : (a.add l).add j = a.add (l + j) := by
  by_cases hl : l = 0
  · subst hl
    rw [addr_add0, Nat.zero_add]
  · rw [add_pos a (Nat.pos_of_ne_zero hl), addr_add, add_pos a (by omega)]
    rw [Nat.add_assoc]

/-- The rest of a slice, from a place on. -/
theorem gives_fromX {α : Type} {t e : TypeId} {size : Nat} {Rl : α → List Value → Prop} {l : List α} {a : Option Addr} {n c i : Nat} {k : IntKind} (hs : SlR W size Rl l a n c) (hi : i ≤ n) (ht : P.underlying t = some (.slice e)) (hz : pureRun P (sizeOf e) = some size) :
    Gives P (Instr.sliceAt t (.slice a n c) (some (.int k (i : Int))) none none) (.slice (if c = i then a else a.map (·.add (i * size))) (n - i) (c - i)) ∧ ∀ W' : World, SlR W' size Rl l a n c → SlR W' size Rl (l.drop i) (if c = i then a else a.map (·.add (i * size))) (n - i) (c - i) := by
  have hnc := hs.2.1
  refine ⟨?_, ?_⟩
  · intro W
    have h1 : (Instr.sliceAt t (.slice a n c) (some (.int k (i : Int))) none none).run P W = (Instr.slice t (.slice a n c) (some (.int k (i : Int))) none none).run P W := run_sliceAt_slice W t _ _ _ _ (by simp [Program.elem, ht])
    rw [h1]
    unfold Instr.slice
    rw [run_bind_ok (run_underlying ht W)]
    simp only
    have hb : (Instr.sliceBounds true n c (some (.int k (i : Int))) none none).run P W = .ok (i, n, c) W := by
      unfold Instr.sliceBounds
      simp only [pure_bind]
      have := run_sliceBound (P := P) W k (i : Int) n .sliceB (by omega) (by omega)
      simp only [Option.isSome_none, Bool.false_eq_true, if_false]
      rw [run_bind_ok this]
      rfl
    rw [run_bind_ok hb]
    simp only
    rw [run_bind_ok (pureRun_run hz W)]
    rfl
  · intro W' hs
    obtain ⟨h1, h2, h3, h4, h5⟩ := hs
    refine ⟨by rw [List.length_drop, h1], by omega, by omega, fun h => ?_, fun j x hx => ?_⟩
    · split at h
      · omega
      · cases a with
        | none => have := h4 rfl; omega
        | some ad => cases h
    · rw [List.getElem?_drop] at hx
      obtain ⟨ad', cs, ha, hl, hcs, hr⟩ := h5 _ x hx
      have hlt := (List.getElem?_eq_some_iff.1 hx).1
      subst ha
      refine ⟨ad'.add (i * size), cs, by rw [if_neg (by omega)]; rfl, hl, fun q v hv => ?_, hr⟩
      have := hcs q v hv
      rw [add_add] at this ⊢
      rw [add_add, ← Nat.add_assoc, ← Nat.add_mul]
      exact this
theorem gives_from {α : Type} {t e : TypeId} {size : Nat} {Rl : α → List Value → Prop} {l : List α} {a : Option Addr} {n c i : Nat} {k : IntKind} (hs : SlR W size Rl l a n c) (hi : i ≤ n) (ht : P.underlying t = some (.slice e)) (hz : pureRun P (sizeOf e) = some size) :
    ∃ a', Gives P (Instr.sliceAt t (.slice a n c) (some (.int k (i : Int))) none none) (.slice a' (n - i) (c - i)) ∧ ∀ W' : World, SlR W' size Rl l a n c → SlR W' size Rl (l.drop i) a' (n - i) (c - i) := ⟨_, gives_fromX hs hi ht hz⟩

theorem go_below0_too {M : Nat → Prop} {w W : World} {gs : List Nat} {F : World → Prop} (hA : AtF w M gs W) (h : ∀ W', AtF w M gs W' → Bel W W' → F W') : ∀ W', Bel W W' → F W' := fun W' hb => h W' (hA.call hb) hb

theorem Elt.lt {v : Value} {r : List Value} (h : Elt W ad (v :: r)) : ad.block < W.heap.size := by
  have := World.block_lt_of_cell? W _ (h 0 v rfl)
  rwa [add_block] at this
theorem Elt.far {v : Value} {r : List Value} (h : Elt W ad (v :: r)) (hd : ∀ d ∈ ds, W.heap.size ≤ d) : ∀ d ∈ ds, d ≠ ad.block := fun d hdm he => by
  have := h.lt
  have := hd d hdm
  omega

theorem AtF.sub {M : Nat → Prop} {w W : World} {gs gs' : List Nat} (h : AtF w M gs W) (hs : ∀ g ∈ gs', g ∈ gs) : AtF w M gs' W := ⟨h.chg, fun g hg => h.under g (hs g hg)⟩

theorem SlR.chg {α : Type} {n : Nat} {Rl : α → List Value → Prop} {l : List α} {a : Option Addr} {len cap : Nat} {N : Nat → Prop} (h : SlR W n Rl l a len cap) (hc : Chg N W W') (hn : ∀ b, a = some b → ¬ N b.block) : SlR W' n Rl l a len cap := by
  obtain ⟨h1, h2, h3, h4, h5⟩ := h
  refine ⟨h1, h2, h3, h4, fun i x hx => ?_⟩
  obtain ⟨ad, cs, ha, hl, hcs, hr⟩ := h5 i x hx
  refine ⟨ad, cs, ha, hl, fun j v hv => ?_, hr⟩
  have hc0 := hcs j v hv
  have hlt := World.block_lt_of_cell? W _ hc0
  have hbk : ((ad.add (i * n)).add j).block = ad.block := by rw [add_block, add_block]
  rw [World.cell?_of_block (hc.block _ hlt (by rw [hbk]; exact hn ad ha)), hc0]

theorem no_ds {ad : Addr} : ∀ d ∈ ([] : List Nat), d ≠ ad.block := fun _ h => by cases h
end
end Go.Vc
