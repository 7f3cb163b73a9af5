/- Go data as Lean data: integers, bools, strings, structs, arrays, slices; how a reading of the claim's form becomes one, and that what lies in memory goes on reading so while no old block turns. -/
import Derived.Test.YtfipbnoidoljoaaVcFn
import Derived.ProofKit
namespace Go.Vc
open Go Go.RowKit

inductive GT where
  | int (k : IntKind)
  | bool
  | str
  | sl (e : GT)
  | st (s : GT)
  | unit
  | pair (a b : GT)

@[reducible] def GT.T : GT → Type
  | .int _ => Int
  | .bool => Bool
  | .str => ByteArray
  | .sl e => List e.T
  | .st s => s.T
  | .unit => Unit
  | .pair a b => a.T × b.T

/-- How many cells. -/
def GT.n : GT → Nat
  | .st s => s.n
  | .unit => 0
  | .pair a b => a.n + b.n
  | _ => 1

/-- A slice that reads as a list: R tells how an element lies in its cells. -/
def SlR {α : Type} (w : World) (n : Nat) (R : α → List Value → Prop) (l : List α) (a : Option Addr) (len cap : Nat) : Prop :=
  len = l.length ∧ len ≤ cap ∧ cap ≤ maxLen ∧ (a = none → cap = 0) ∧
    ∀ (i : Nat) (x : α), l[i]? = some x → ∃ ad cs, a = some ad ∧ cs.length = n ∧ (∀ (j : Nat) (v : Value), cs[j]? = some v → w.cell? ((ad.add (i * n)).add j) = some v) ∧ R x cs

def GT.R (w : World) : (g : GT) → g.T → List Value → Prop
  | .int k, x, cs => cs = [.int k x] ∧ k.min ≤ x ∧ x ≤ k.max
  | .bool, b, cs => cs = [.bool b]
  | .str, s, cs => cs = [.string s] ∧ s.size ≤ maxLen
  | .sl e, l, cs => ∃ a len cap, cs = [.slice a len cap] ∧ SlR w e.n (e.R w) l a len cap
  | .st s, x, cs => s.R w x cs
  | .unit, _, cs => cs = []
  | .pair a b, x, cs => ∃ c1 c2, cs = c1 ++ c2 ∧ a.R w x.1 c1 ∧ b.R w x.2 c2

theorem GT.R_len {w : World} : ∀ (g : GT) (x : g.T) (cs : List Value), g.R w x cs → cs.length = g.n
  | .int _, _, _, h => by obtain ⟨rfl, _⟩ := h; rfl
  | .bool, _, _, h => by cases h; rfl
  | .str, _, _, h => by obtain ⟨rfl, _⟩ := h; rfl
  | .sl _, _, _, h => by obtain ⟨_, _, _, rfl, _⟩ := h; rfl
  | .st s, x, cs, h => GT.R_len s x cs h
  | .unit, _, _, h => by cases h; rfl
  | .pair a b, x, cs, h => by
    obtain ⟨c1, c2, rfl, h1, h2⟩ := h
    simp [GT.n, GT.R_len a _ _ h1, GT.R_len b _ _ h2]

/-- While every cell that there was reads on as it did, the data do. -/
theorem SlR.mono {α : Type} {w w' : World} {n : Nat} {R R' : α → List Value → Prop} {l : List α} {a : Option Addr} {len cap : Nat} (h : SlR w n R l a len cap) (hc : ∀ ad v, w.cell? ad = some v → w'.cell? ad = some v) (hR : ∀ x cs, R x cs → R' x cs) :
    SlR w' n R' l a len cap := by
  obtain ⟨h1, h2, h3, h4, h6⟩ := h
  refine ⟨h1, h2, h3, h4, fun i x hx => ?_⟩
  obtain ⟨ad, cs, ha, hl, hcs, hr⟩ := h6 i x hx
  exact ⟨ad, cs, ha, hl, fun j v hv => hc _ _ (hcs j v hv), hR _ _ hr⟩

theorem GT.R_mono {w w' : World} (hc : ∀ ad v, w.cell? ad = some v → w'.cell? ad = some v) : ∀ (g : GT) (x : g.T) (cs : List Value), g.R w x cs → g.R w' x cs
  | .int _, _, _, h => h
  | .bool, _, _, h => h
  | .str, _, _, h => h
  | .sl e, _, _, h => by
    obtain ⟨a, len, cap, rfl, hs⟩ := h
    exact ⟨a, len, cap, rfl, hs.mono hc fun x cs hr => GT.R_mono hc e x cs hr⟩
  | .st s, x, cs, h => GT.R_mono hc s x cs h
  | .unit, _, _, h => h
  | .pair a b, x, cs, h => by
    obtain ⟨c1, c2, rfl, h1, h2⟩ := h
    exact ⟨c1, c2, rfl, GT.R_mono hc a _ _ h1, GT.R_mono hc b _ _ h2⟩

theorem cell_below {w w' : World} (h : Below w.heap.size w w') (ad : Addr) (v : Value) (hc : w.cell? ad = some v) : w'.cell? ad = some v :=
  (h.cell (World.block_lt_of_cell? w ad hc)).trans hc

theorem GT.R_below {w w' : World} (h : Below w.heap.size w w') (g : GT) (x : g.T) (cs : List Value) (hr : g.R w x cs) : g.R w' x cs :=
  GT.R_mono (cell_below h) g x cs hr

/-! ### Out of the form's own reading -/
def comps (P : Program) (t : TypeId) : Option (List (TypeId × Nat)) :=
  match P.underlying t with
  | some (.struct fs) => some (fs.toList.map fun f => (f.type, f.offset))
  | some (.array n e) => some ((List.range n).map fun i => (e, i * P.cellsOf e))
  | _ => none

mutual
def GT.fits (P : Program) : GT → TypeId → Bool
  | .int k, t => match P.underlying t with
    | some (.int k') => decide (k' = k)
    | _ => false
  | .bool, t => match P.underlying t with
    | some .bool => true
    | _ => false
  | .str, t => match P.underlying t with
    | some .string => true
    | _ => false
  | .sl e, t => match P.underlying t with
    | some (.slice te) => GT.fits P e te && Nat.beq e.n (P.cellsOf te)
    | _ => false
  | .st s, t => match comps P t with
    | some l => GT.fitsL P s l 0 && Nat.beq s.n (P.cellsOf t)
    | none => false
  | .unit, _ => false
  | .pair _ _, _ => false
def GT.fitsL (P : Program) : GT → List (TypeId × Nat) → Nat → Bool
  | .unit, l, _ => l.isEmpty
  | .pair a b, l, off => match l with
    | (t, o) :: r => Nat.beq o off && GT.fits P a t && Nat.beq a.n (P.cellsOf t) && GT.fitsL P b r (off + a.n)
    | [] => false
  | _, _, _ => false
end

section
variable {H : Type} {enc : TypeId × Value → H} {P : Program} {w : World} {spare : Nat → Bool} {held : Bool}

theorem mapM_some {α β : Type} {f : α → Option β} : ∀ {l : List α} {r : List β}, l.mapM f = some r → ∀ x ∈ l, ∃ y, f x = some y
  | [], _, _, _, hx => by cases hx
  | a :: l, r, h, x, hx => by
    rw [List.mapM_cons] at h
    cases ha : f a with
    | none => rw [ha] at h; cases h
    | some b =>
      rw [ha] at h
      cases hl : l.mapM f with
      | none => rw [hl] at h; cases h
      | some r' =>
        rcases List.mem_cons.1 hx with rfl | hx
        · exact ⟨b, ha⟩
        · exact mapM_some hl x hx

theorem mapM_length {α β : Type} {f : α → Option β} : ∀ {l : List α} {r : List β}, l.mapM f = some r → r.length = l.length
  | [], r, h => by cases h; rfl
  | a :: l, r, h => by
    rw [List.mapM_cons] at h
    cases ha : f a with
    | none => rw [ha] at h; cases h
    | some b =>
      rw [ha] at h
      cases hl : l.mapM f with
      | none => rw [hl] at h; cases h
      | some r' =>
        rw [hl] at h
        cases h
        simp [mapM_length hl]

theorem cells_spec {a : Addr} {m : Nat} {cs : List Value} (h : w.cells? 0 a m = some cs) : cs.length = m ∧ ∀ j v, cs[j]? = some v → w.cell? (a.add j) = some v := by
  unfold World.cells? at h
  simp only [Nat.zero_le, if_true] at h
  have hlen := mapM_length h
  rw [List.length_range] at hlen
  refine ⟨hlen, ?_⟩
  intro j v hj
  have key : ∀ (l : List Nat) (r : List Value), l.mapM (fun i => w.cell? (a.add i)) = some r → ∀ (j : Nat) (v : Value), r[j]? = some v → ∃ i, l[j]? = some i ∧ w.cell? (a.add i) = some v := by
    intro l
    induction l with
    | nil => intro r hr j v hv; cases hr; simp at hv
    | cons i l ih =>
      intro r hr j v hv
      rw [List.mapM_cons] at hr
      cases hi : w.cell? (a.add i) with
      | none => rw [hi] at hr; cases hr
      | some u =>
        rw [hi] at hr
        cases hl : l.mapM (fun i => w.cell? (a.add i)) with
        | none => rw [hl] at hr; cases hr
        | some r' =>
          rw [hl] at hr
          cases hr
          cases j with
          | zero => simp at hv; subst hv; exact ⟨i, rfl, hi⟩
          | succ j => exact ih r' hl j v (by simpa using hv)
  obtain ⟨i, hi, hc⟩ := key _ _ h j v hj
  have hjl : j < m := by
    have := (List.getElem?_eq_some_iff.1 hj).1
    omega
  rw [List.getElem?_range hjl] at hi
  cases hi
  exact hc

theorem addr_add_add (a : Addr) (i j : Nat) (h : a.spot = none) : (a.add i).add j = a.add (i + j) := by
  obtain ⟨b, o, s⟩ := a
  simp only at h
  subst h
  unfold Addr.add
  by_cases hi : i = 0 <;> by_cases hj : j = 0 <;> simp [hi, hj, Nat.add_assoc]

/-- A choice for each element of a list. -/
theorem list_choice {α : Type} (n : Nat) (p : Nat → α → Prop) (h : ∀ i, i < n → ∃ x, p i x) : ∃ l : List α, l.length = n ∧ ∀ i x, l[i]? = some x → p i x := by
  induction n with
  | zero => exact ⟨[], rfl, by simp⟩
  | succ n ih =>
    obtain ⟨l, hl, hp⟩ := ih fun i hi => h i (by omega)
    obtain ⟨x, hx⟩ := h n (by omega)
    refine ⟨l ++ [x], by simp [hl], fun i y hy => ?_⟩
    by_cases hi : i < n
    · rw [List.getElem?_append_left (by omega)] at hy
      exact hp i y hy
    · have hlt := (List.getElem?_eq_some_iff.1 hy).1
      simp at hlt
      have : i = n := by omega
      subst this
      rw [List.getElem?_append_right (by omega)] at hy
      simp [hl] at hy
      subst hy
      exact hx

mutual
theorem read_fits : ∀ (g : GT) (t : TypeId) (fuel : Nat) (cs : List Value) (z : DataW H × List MemPlace), g.fits P t = true → DataW.trod enc P w 0 spare held fuel t cs = some z → ∃ x, g.R w x cs
  | g, t, 0, cs, z, _, h => by cases h
  | .int k, t, fuel + 1, cs, z, hf, h => by
    unfold GT.fits at hf
    split at hf
    · rename_i k' hu
      have hk := of_decide_eq_true hf
      subst hk
      unfold DataW.trod at h
      rw [hu] at h
      split at h <;> try (first | (cases h; done) | (rename_i hx; cases hx; done))
      rename_i k2 k3 m hx
      cases hx
      split at h
      · rename_i hw
        obtain ⟨rfl, hwf⟩ := hw
        simp only [Lit.wf, Bool.and_eq_true, decide_eq_true_eq] at hwf
        exact ⟨m, rfl, hwf.1, hwf.2⟩
      · cases h
    · cases hf
  | .bool, t, fuel + 1, cs, z, hf, h => by
    unfold GT.fits at hf
    split at hf
    · rename_i hu
      unfold DataW.trod at h
      rw [hu] at h
      split at h <;> try (first | (cases h; done) | (rename_i hx; cases hx; done))
      rename_i b hx
      exact ⟨b, rfl⟩
    · cases hf
  | .str, t, fuel + 1, cs, z, hf, h => by
    unfold GT.fits at hf
    split at hf
    · rename_i hu
      unfold DataW.trod at h
      rw [hu] at h
      split at h <;> try (first | (cases h; done) | (rename_i hx; cases hx; done))
      rename_i s hx
      split at h
      · rename_i hs
        exact ⟨s, rfl, hs⟩
      · cases h
    · cases hf
  | .sl e, t, fuel + 1, cs, z, hf, h => by
    unfold GT.fits at hf
    split at hf
    · rename_i te hu
      simp only [Bool.and_eq_true] at hf
      have hn := Nat.eq_of_beq_eq_true hf.2
      unfold DataW.trod at h
      rw [hu] at h
      split at h <;> try (first | (cases h; done) | (rename_i hx; cases hx; done))
      · exact ⟨[], none, 0, 0, rfl, rfl, Nat.le_refl _, Nat.zero_le _, fun _ => rfl, fun i x hx => (by simp at hx)⟩
      · rename_i te2 a len cap hx
        cases hx
        simp only at h
        split at h
        · rename_i hb
          obtain ⟨_, hlc, hcm⟩ := hb
          cases hm : (List.range len).mapM (fun i => (w.cells? 0 (a.add (i * P.cellsOf te)) (P.cellsOf te)).bind (DataW.trod enc P w 0 spare held fuel te)) with
          | none => rw [hm] at h; cases h
          | some elems =>
            have hall : ∀ i, i < len → ∃ x, ∃ cs, cs.length = e.n ∧ (∀ j v, cs[j]? = some v → w.cell? ((a.add (i * e.n)).add j) = some v) ∧ e.R w x cs := by
              intro i hi
              obtain ⟨y, hy⟩ := mapM_some hm i (List.mem_range.2 hi)
              cases hc : w.cells? 0 (a.add (i * P.cellsOf te)) (P.cellsOf te) with
              | none => rw [hc] at hy; cases hy
              | some cs =>
                rw [hc] at hy
                obtain ⟨x, hx⟩ := read_fits e te fuel cs y hf.1 hy
                obtain ⟨hl, hcs⟩ := cells_spec hc
                rw [← hn] at hl hcs
                exact ⟨x, cs, hl, hcs, hx⟩
            obtain ⟨l, hl, hp⟩ := list_choice len _ hall
            exact ⟨l, some a, len, cap, rfl, hl.symm, hlc, hcm, fun h => (by cases h), fun i x hx => (by
              obtain ⟨cs, hcl, hcs, hr⟩ := hp i x hx
              exact ⟨a, cs, rfl, hcl, hcs, hr⟩)⟩
        · cases h
    · cases hf
  | .st s, t, fuel + 1, cs, z, hf, h => by
    unfold GT.fits at hf
    split at hf
    · rename_i l hc
      simp only [Bool.and_eq_true] at hf
      have hn := Nat.eq_of_beq_eq_true hf.2
      have hparts : cs.length = P.cellsOf t ∧ ∀ x ∈ l, ∃ y, DataW.trod enc P w 0 spare held fuel x.1 ((cs.drop x.2).take (P.cellsOf x.1)) = some y := by
        unfold comps at hc
        split at hc
        · rename_i fs hu
          cases hc
          simp only [DataW.trod, hu] at h
          split at h
          · rename_i hl
            refine ⟨hl, fun x hx => ?_⟩
            obtain ⟨f, hf, rfl⟩ := List.mem_map.1 hx
            cases hm : fs.toList.mapM (fun f => DataW.trod enc P w 0 spare held fuel f.type ((cs.drop f.offset).take (P.cellsOf f.type))) with
            | none => rw [hm] at h; cases h
            | some r => exact mapM_some hm f hf
          · cases h
        · rename_i m e hu
          cases hc
          simp only [DataW.trod, hu] at h
          split at h
          · rename_i hl
            refine ⟨hl, fun x hx => ?_⟩
            obtain ⟨i, hi, rfl⟩ := List.mem_map.1 hx
            cases hm : (List.range m).mapM (fun i => DataW.trod enc P w 0 spare held fuel e ((cs.drop (i * P.cellsOf e)).take (P.cellsOf e))) with
            | none => rw [hm] at h; cases h
            | some r => exact mapM_some hm i hi
          · cases h
        · cases hc
      obtain ⟨x, hx⟩ := read_fitsL s l 0 fuel cs hf.1 hparts.2 (by omega)
      refine ⟨x, ?_⟩
      simp only [List.drop_zero] at hx
      rw [hn, ← hparts.1, List.take_length] at hx
      exact hx
    · cases hf
  | .unit, t, fuel + 1, cs, z, hf, h => by cases hf
  | .pair a b, t, fuel + 1, cs, z, hf, h => by cases hf
theorem read_fitsL : ∀ (g : GT) (l : List (TypeId × Nat)) (off fuel : Nat) (cs : List Value), g.fitsL P l off = true → (∀ x ∈ l, ∃ y, DataW.trod enc P w 0 spare held fuel x.1 ((cs.drop x.2).take (P.cellsOf x.1)) = some y) → off + g.n ≤ cs.length →
    ∃ x, g.R w x ((cs.drop off).take g.n)
  | .unit, _, _, _, _, _, _, _ => ⟨(), by simp [GT.R, GT.n]⟩
  | .pair a b, l, off, fuel, cs, hf, h, hl => by
    unfold GT.fitsL at hf
    split at hf
    · rename_i t o r
      simp only [Bool.and_eq_true] at hf
      obtain ⟨⟨⟨ho, hft⟩, hna⟩, hfr⟩ := hf
      have ho := Nat.eq_of_beq_eq_true ho
      have hna := Nat.eq_of_beq_eq_true hna
      subst ho
      simp only [GT.n] at hl
      obtain ⟨y, hy⟩ := h (t, o) (List.mem_cons_self ..)
      obtain ⟨x1, h1⟩ := read_fits a t fuel _ y hft hy
      obtain ⟨x2, h2⟩ := read_fitsL b r (o + a.n) fuel cs hfr (fun x hx => h x (List.mem_cons_of_mem _ hx)) (by omega)
      refine ⟨(x1, x2), (cs.drop o).take a.n, (cs.drop (o + a.n)).take b.n, ?_, by rw [hna]; exact h1, h2⟩
      simp only [GT.n]
      rw [List.take_add, List.drop_drop]
    · cases hf
  | .int _, _, _, _, _, hf, _, _ => by cases hf
  | .bool, _, _, _, _, hf, _, _ => by cases hf
  | .str, _, _, _, _, hf, _, _ => by cases hf
  | .sl _, _, _, _, _, hf, _, _ => by cases hf
  | .st _, _, _, _, _, hf, _, _ => by cases hf
end
end
end Go.Vc
