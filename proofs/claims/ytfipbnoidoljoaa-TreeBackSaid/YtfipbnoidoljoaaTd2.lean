/- Own text of this claim: Td2. -/
import Derived.Test.YtfipbnoidoljoaaTd1
set_option maxRecDepth 20000
namespace Go.Vc.T
open Go Go.Vc Go.RowKit Go.Proofs Vcd1

variable {w W W' : World} {M : Nat → Prop} {gs : List Nat}

theorem ne_of {b : Nat} {l : List Nat} (h : b ∉ l) : ∀ q ∈ l, ¬ q = b := fun _ hq e => h (e ▸ hq)
/-- What a function that turns trees leaves: a tree in some of the blocks, or in new ones. -/
def Out (W : World) (bs : List Nat) (t' : Tr Int) (v : Value) (W' : World) : Prop := ∃ p' bs', v = .pointer p' ∧ Rep W' t' p' bs' ∧ ∀ q ∈ bs', q ∈ bs ∨ W.heap.size ≤ q

theorem c130 {W : World} {b : Nat} {k : Int} {pl pr : Option Addr} {a m r : Tr Int} {k2 : Int} {bl br : List Nat} (H : Nd W b k pl pr (.node a k2 m) r bl br) (hs : a.size + m.size + r.size < 1152921504606846970) :
    RetF Try.prog 130 #[.pointer (pt b)] W (fun q => q ∈ b :: (bl ++ br)) (Out W (b :: (bl ++ br)) (Tr.riseL (.node a k2 m) k r)) := by
  intro R h
  refine f130_calls _ W R ?_
  unfold f130_vc
  have hA : AtF W (fun q => q ∈ b :: (bl ++ br)) [] W := AtF.refl W _
  obtain ⟨c, cl, cr, ba, bm, rfl, rfl, Hc⟩ := H.rl.node
  have hnd := H.nd
  obtain ⟨x, y, hraw⟩ := H.raw
  obtain ⟨x2, y2, hraw2⟩ := Hc.raw
  have hbc : b ≠ c := fun e => by subst e; simp at hnd
  have hb1 : b ∉ ba ∧ b ∉ bm ∧ b ∉ br := by simp at hnd; grind
  have hc1 : c ∉ ba ∧ c ∉ bm ∧ c ∉ br := by simp at hnd; grind
  refine ⟨_, rfl, _, rdL H nod, _, rfl, _, rdR Hc nod, _, rfl, ?_⟩
  refine opw_storeF hA hraw (.inr (by simp)) (by simp) (cells' := ndC k cr pr x y) (by kernel_rfl) fun w7 hA _ hc hb7 => ⟨_, rfl, ?_⟩
  have hraw2 : RawN w7 c k2 cl cr x2 y2 := by rw [RawN, hc.block c Hc.blt (fun e => hbc e.symm)]; exact hraw2
  have ra := Hc.rl.chg hc (ne_of hb1.1)
  have rm := Hc.rr.chg hc (ne_of hb1.2.1)
  have rr := H.rr.chg hc (ne_of hb1.2.2)
  refine opw_storeF hA hraw2 (.inr (by simp)) (by simp) (cells' := ndC k2 cl (pt b) x2 y2) (by kernel_rfl) fun w10 hA _ hc hc10 => ?_
  have hb10 : RawN w10 b k cr pr x y := by rw [RawN, hc.block b (Array.getElem?_eq_some_iff.1 hb7).1 hbc]; exact hb7
  have ra := ra.chg hc (ne_of hc1.1)
  have rm := rm.chg hc (ne_of hc1.2.1)
  have rr := rr.chg hc (ne_of hc1.2.2)
  have hnd2 : (b :: (bm ++ br)).Nodup := by simp at hnd ⊢; grind
  have hnd3 : (c :: (ba ++ b :: (bm ++ br))).Nodup := by simp at hnd ⊢; grind
  refine at_callF hA (c131 (W := w10) (b := b) (k := k) (l := m) (r := r) (pl := cr) (pr := pr) (bl := bm) (br := br) ⟨⟨x, y, hb10⟩, rm, rr, hnd2⟩ (by omega)) (fun q _ e => .inr (by rw [e]; simp)) (by simp) fun v w12 hA _ hc ⟨hv, hrep⟩ => ?_
  subst hv
  refine ⟨_, rfl, ?_⟩
  have hc12 : RawN w12 c k2 cl (pt b) x2 y2 := by rw [RawN, hc.block c (Array.getElem?_eq_some_iff.1 hc10).1 (fun e => hbc e.symm)]; exact hc10
  have ra := ra.chg hc (ne_of hb1.1)
  refine at_callF hA (c131 (W := w12) (b := c) (k := k2) (l := a) (r := .node m k r) (pl := cl) (pr := pt b) (bl := ba) (br := b :: (bm ++ br)) ⟨⟨x2, y2, hc12⟩, ra, hrep, hnd3⟩ (by simp only [Tr.size]; omega)) (fun q _ e => .inr (by rw [e]; simp)) (by simp) fun v w15 hA _ hc ⟨hv, hrep⟩ => ?_
  subst hv
  exact ⟨_, rfl, leafF h hA ⟨_, _, rfl, hrep, fun q hq => .inl (by simp at hq ⊢; grind)⟩⟩

theorem c129 {W : World} {b : Nat} {k : Int} {pl pr : Option Addr} {a m r : Tr Int} {k2 : Int} {bl br : List Nat} (H : Nd W b k pl pr r (.node m k2 a) bl br) (hs : a.size + m.size + r.size < 1152921504606846970) :
    RetF Try.prog 129 #[.pointer (pt b)] W (fun q => q ∈ b :: (bl ++ br)) (Out W (b :: (bl ++ br)) (Tr.riseR r k (.node m k2 a))) := by
  intro R h
  refine f129_calls _ W R ?_
  unfold f129_vc
  have hA : AtF W (fun q => q ∈ b :: (bl ++ br)) [] W := AtF.refl W _
  obtain ⟨c, cl, cr, bm, ba, rfl, rfl, Hc⟩ := H.rr.node
  have hnd := H.nd
  obtain ⟨x, y, hraw⟩ := H.raw
  obtain ⟨x2, y2, hraw2⟩ := Hc.raw
  have hbc : b ≠ c := fun e => by subst e; simp at hnd
  have hb1 : b ∉ ba ∧ b ∉ bm ∧ b ∉ bl := by simp at hnd; grind
  have hc1 : c ∉ ba ∧ c ∉ bm ∧ c ∉ bl := by simp at hnd; grind
  refine ⟨_, rfl, _, rdR H nod, _, rfl, _, rdL Hc nod, _, rfl, ?_⟩
  refine opw_storeF hA hraw (.inr (by simp)) (by simp) (cells' := ndC k pl cl x y) (by kernel_rfl) fun w7 hA _ hc hb7 => ⟨_, rfl, ?_⟩
  have hraw2 : RawN w7 c k2 cl cr x2 y2 := by rw [RawN, hc.block c Hc.blt (fun e => hbc e.symm)]; exact hraw2
  have ra := Hc.rr.chg hc (ne_of hb1.1)
  have rm := Hc.rl.chg hc (ne_of hb1.2.1)
  have rr := H.rl.chg hc (ne_of hb1.2.2)
  refine opw_storeF hA hraw2 (.inr (by simp)) (by simp) (cells' := ndC k2 (pt b) cr x2 y2) (by kernel_rfl) fun w10 hA _ hc hc10 => ?_
  have hb10 : RawN w10 b k pl cl x y := by rw [RawN, hc.block b (Array.getElem?_eq_some_iff.1 hb7).1 hbc]; exact hb7
  have ra := ra.chg hc (ne_of hc1.1)
  have rm := rm.chg hc (ne_of hc1.2.1)
  have rr := rr.chg hc (ne_of hc1.2.2)
  have hnd2 : (b :: (bl ++ bm)).Nodup := by simp at hnd ⊢; grind
  have hnd3 : (c :: ((b :: (bl ++ bm)) ++ ba)).Nodup := by simp at hnd ⊢; grind
  refine at_callF hA (c131 (W := w10) (b := b) (k := k) (l := r) (r := m) (pl := pl) (pr := cl) (bl := bl) (br := bm) ⟨⟨x, y, hb10⟩, rr, rm, hnd2⟩ (by omega)) (fun q _ e => .inr (by rw [e]; simp)) (by simp) fun v w12 hA _ hc ⟨hv, hrep⟩ => ?_
  subst hv
  refine ⟨_, rfl, ?_⟩
  have hc12 : RawN w12 c k2 (pt b) cr x2 y2 := by rw [RawN, hc.block c (Array.getElem?_eq_some_iff.1 hc10).1 (fun e => hbc e.symm)]; exact hc10
  have ra := ra.chg hc (ne_of hb1.1)
  refine at_callF hA (c131 (W := w12) (b := c) (k := k2) (l := .node r k m) (r := a) (pl := pt b) (pr := cr) (bl := b :: (bl ++ bm)) (br := ba) ⟨⟨x2, y2, hc12⟩, hrep, ra, hnd3⟩ (by simp only [Tr.size]; omega)) (fun q _ e => .inr (by rw [e]; simp)) (by simp) fun v w15 hA _ hc ⟨hv, hrep⟩ => ?_
  subst hv
  exact ⟨_, rfl, leafF h hA ⟨_, _, rfl, hrep, fun q hq => .inl (by simp at hq ⊢; grind)⟩⟩
end Go.Vc.T
