/- Own text of this claim: Td3. -/
import Derived.Test.YtfipbnoidoljoaaTd2
set_option maxRecDepth 20000
namespace Go.Vc.T
open Go Go.Vc Go.RowKit Go.Proofs Vcd1

variable {w W W' W1 : World} {M : Nat → Prop} {gs : List Nat} {b : Nat} {k : Int} {p' pl pr : Option Addr} {t l l' r r' : Tr Int} {bs bs' bl br : List Nat}

theorem nodup_cons_app {b : Nat} {x y : List Nat} : (b :: (x ++ y)).Nodup ↔ b ∉ x ∧ b ∉ y ∧ x.Nodup ∧ y.Nodup ∧ ∀ q ∈ x, q ∉ y := by
  rw [List.nodup_cons, List.nodup_append, List.mem_append]
  constructor
  · rintro ⟨h1, h2, h3, h4⟩
    exact ⟨fun e => h1 (.inl e), fun e => h1 (.inr e), h2, h3, fun q hq hq2 => h4 q hq q hq2 rfl⟩
  · rintro ⟨h1, h2, h3, h4, h5⟩
    exact ⟨fun e => e.elim h1 h2, h3, h4, fun q hq q2 hq2 e => h5 q hq (e ▸ hq2)⟩

theorem Nd.afterL (H : Nd W b k pl pr l r bl br) (hc : Chg (fun q => q ∈ bl) W W1) (hrep : Rep W1 l' p' bs') (hsub : ∀ q ∈ bs', q ∈ bl ∨ W.heap.size ≤ q) : (∃ x y : Int, RawN W1 b k pl pr x y) ∧ Rep W1 r pr br ∧ (b :: (bs' ++ br)).Nodup := by
  obtain ⟨h1, h2, h3, h4, h5⟩ := nodup_cons_app.1 H.nd
  obtain ⟨x, y, hr⟩ := H.raw
  refine ⟨⟨x, y, by rw [RawN, hc.block b H.blt h1]; exact hr⟩, H.rr.chg hc (fun q hq e => h5 q e hq), nodup_cons_app.2 ⟨fun e => ?_, h2, hrep.nodup, h4, fun q hq hq2 => ?_⟩⟩
  · rcases hsub b e with e | e
    · exact h1 e
    · have := H.blt; omega
  · rcases hsub q hq with e | e
    · exact h5 q e hq2
    · have := H.rr.lt q hq2; omega
theorem Nd.afterR (H : Nd W b k pl pr l r bl br) (hc : Chg (fun q => q ∈ br) W W1) (hrep : Rep W1 r' p' bs') (hsub : ∀ q ∈ bs', q ∈ br ∨ W.heap.size ≤ q) : (∃ x y : Int, RawN W1 b k pl pr x y) ∧ Rep W1 l pl bl ∧ (b :: (bl ++ bs')).Nodup := by
  obtain ⟨h1, h2, h3, h4, h5⟩ := nodup_cons_app.1 H.nd
  obtain ⟨x, y, hr⟩ := H.raw
  refine ⟨⟨x, y, by rw [RawN, hc.block b H.blt h2]; exact hr⟩, H.rl.chg hc (fun q hq e => h5 q hq e), nodup_cons_app.2 ⟨h1, fun e => ?_, h3, hrep.nodup, fun q hq hq2 => ?_⟩⟩
  · rcases hsub b e with e | e
    · exact h2 e
    · have := H.blt; omega
  · rcases hsub q hq2 with e | e
    · exact h5 q hq e
    · have := H.rl.lt q hq; omega
theorem opw_setL {K : Value → World → Prop} (hA : AtF w M gs W) (hr : ∃ x y : Int, RawN W b k pl pr x y) (rl : Rep W l p' bl) (rr : Rep W r pr br) (nd : (b :: (bl ++ br)).Nodup) (hm : w.heap.size ≤ b ∨ M b) (hap : b ∉ gs)
    (h : ∀ w', AtF w M gs w' → Keeps gs W w' → Nd w' b k p' pr l r bl br → K undef w') : OpW Try.prog (skipS (Instr.storeAt 43 (.pointer (some (Addr.mk b (0 + 1) none))) (.pointer p'))) W K := by
  obtain ⟨x, y, hr⟩ := hr
  obtain ⟨h1, h2, _⟩ := nodup_cons_app.1 nd
  exact opw_storeF hA hr hm hap (cells' := ndC k p' pr x y) (by kernel_rfl) fun w' hA' hk hc hb => h w' hA' hk ⟨⟨x, y, hb⟩, rl.chg hc (ne_of h1), rr.chg hc (ne_of h2), nd⟩
theorem opw_setR {K : Value → World → Prop} (hA : AtF w M gs W) (hr : ∃ x y : Int, RawN W b k pl pr x y) (rl : Rep W l pl bl) (rr : Rep W r p' br) (nd : (b :: (bl ++ br)).Nodup) (hm : w.heap.size ≤ b ∨ M b) (hap : b ∉ gs)
    (h : ∀ w', AtF w M gs w' → Keeps gs W w' → Nd w' b k pl p' l r bl br → K undef w') : OpW Try.prog (skipS (Instr.storeAt 43 (.pointer (some (Addr.mk b (0 + 2) none))) (.pointer p'))) W K := by
  obtain ⟨x, y, hr⟩ := hr
  obtain ⟨h1, h2, _⟩ := nodup_cons_app.1 nd
  exact opw_storeF hA hr hm hap (cells' := ndC k pl p' x y) (by kernel_rfl) fun w' hA' hk hc hb => h w' hA' hk ⟨⟨x, y, hb⟩, rl.chg hc (ne_of h1), rr.chg hc (ne_of h2), nd⟩
/-- Last: a call that yields the tree. -/
theorem at_out {P : Program} {f : FuncId} {args : Array Value} {bs0 : List Nat} {K : Ending → World → Prop} (hA : AtF w (fun q => q ∈ bs0) [] W) (hc : RetF P f args W (fun q => q ∈ bs) (Out W bs t)) (hsub : ∀ q ∈ bs, q ∈ bs0 ∨ w.heap.size ≤ q)
    (hK : ∀ p' bs' W', AtF w (fun q => q ∈ bs0) [] W' → Chg (fun q => q ∈ bs) W W' → Rep W' t p' bs' → (∀ q ∈ bs', q ∈ bs ∨ W.heap.size ≤ q) → (∀ q ∈ bs', q ∈ bs0 ∨ w.heap.size ≤ q) → K (.returned (.pointer p')) W') : Calls P f args W K := by
  refine at_callF hA hc (fun q _ hq => (hsub q hq).symm) (by simp) fun v W' hA' _ hch ⟨p', bs', hv, hr, hs⟩ => ?_
  subst hv
  exact hK p' bs' W' hA' hch hr hs fun q hq => (hs q hq).elim (hsub q) fun e => .inr (Nat.le_trans hA.size e)

theorem c107 (H : Nd W b k pl pr l r bl br) (hs : l.size + r.size < 576460752303423488) :
    RetF Try.prog 107 #[.pointer (pt b)] W (fun q => q ∈ b :: (bl ++ br)) (Out W (b :: (bl ++ br)) (Tr.even l k r)) := by
  intro R h
  refine f107_calls _ W R ?_
  unfold f107_vc
  have hA : AtF W (fun q => q ∈ b :: (bl ++ br)) [] W := AtF.refl W _
  refine ⟨_, rfl, _, rdL H nod, _, rfl, _, rdR H nod, go_below0_too hA fun w5 hA hb => ?_⟩
  have H := H.call hb
  refine at_callb hA (c128 H.rl) fun w7 hA _ hb => ⟨_, rfl, ?_⟩
  have H := H.call hb
  refine ⟨rdR H nod, at_callb hA (c128 H.rr) fun w10 hA _ hb => ⟨_, rfl, ?_⟩⟩
  have H := H.call hb
  have h1 := l.height_le
  have h2 := r.height_le
  rw [wrap_i64 (x := (l.height : Int) - (r.height : Int)) (by omega) (by omega)]
  refine brD (fun hgt => ?_) (fun hngt => brD (fun hlt => ?_) (fun hnlt => ?_))
  · have hgt' : l.height > r.height + 1 := by omega
    cases l with
    | nil => simp [Tr.height] at hgt'
    | node a k2 c =>
    obtain ⟨b2, al, cl, ba, bc, rfl, rfl, H2⟩ := H.rl.node
    simp only [Tr.size] at hs
    refine ⟨_, rfl, _, rdL H nod, _, rfl, _, rdL H2 nod, _, rfl, _, rdL H nod, _, rfl, _, rdR H2 nod, go_below0_too hA fun w20 hA hb => ?_⟩
    have H := H.call hb
    have H2 := H2.call hb
    refine at_callb hA (c128 H2.rl) fun w22 hA _ hb => ⟨_, rfl, ?_⟩
    have H := H.call hb
    have H2 := H2.call hb
    refine ⟨rdR H2 nod, rdL H nod, rdL H nod, at_callb hA (c128 H2.rr) fun w25 hA _ hb => ⟨_, rfl, rdL (H.call hb) nod, rdL (H.call hb) nod, ?_⟩⟩
    have H := H.call hb
    have H2 := H2.call hb
    have ev : ∀ l', Tr.readyL (.node a k2 c) = l' → Tr.even (.node a k2 c) k r = Tr.riseL l' k r := fun l' e => by rw [Tr.even, if_pos hgt', e]
    refine brD (fun hac => ?_) (fun hnac => ?_)
    · have hac' : a.height < c.height := by omega
      cases c with
      | nil => simp [Tr.height] at hac'
      | node m k3 d =>
      simp only [Tr.size] at hs
      refine ⟨_, rfl, _, rdL H nod, ?_⟩
      refine at_out hA (c129 H2 (by omega)) (fun q hq => .inl (by simp at hq ⊢; grind)) fun p' bs' w30 hA hch hrep hsub hsub0 => ⟨_, rfl, _, rfl, ?_⟩
      obtain ⟨e1, e2, e3⟩ := H.afterL hch hrep hsub
      refine opw_setL hA e1 hrep e2 e3 (.inr (by simp)) (by simp) fun w34 hA _ H3 => ?_
      refine at_out hA (c130 H3 (by simp only [Tr.size]; omega)) (fun q hq => ?_) fun p3 bs3 w36 hA _ hrep3 _ hsub3 => ⟨_, rfl, leafF h hA ⟨_, _, rfl, ?_, hsub3⟩⟩
      · rcases List.mem_cons.1 hq with e | hq
        · exact .inl (by rw [e]; simp)
        · rcases List.mem_append.1 hq with hq | hq
          · exact hsub0 q hq
          · exact .inl (by simp [hq])
      · rw [ev (.node (.node a k2 m) k3 d) (by simp only [Tr.readyL]; rw [if_pos hac']; rfl)]
        exact hrep3
    · refine at_out hA (c130 H (by omega)) (fun q hq => .inl hq) fun p3 bs3 w36 hA _ hrep3 _ hsub3 => ⟨_, rfl, leafF h hA ⟨_, _, rfl, ?_, hsub3⟩⟩
      rw [ev (.node a k2 c) (by simp only [Tr.readyL]; rw [if_neg (by omega)])]
      exact hrep3
  · have hlt' : r.height > l.height + 1 := by omega
    have hng : ¬ l.height > r.height + 1 := by omega
    cases r with
    | nil => simp [Tr.height] at hlt'
    | node c k2 a =>
    obtain ⟨b2, cl, al, bc, ba, rfl, rfl, H2⟩ := H.rr.node
    simp only [Tr.size] at hs
    refine ⟨_, rfl, _, rdR H nod, _, rfl, _, rdR H2 nod, _, rfl, _, rdR H nod, _, rfl, _, rdL H2 nod, go_below0_too hA fun w20 hA hb => ?_⟩
    have H := H.call hb
    have H2 := H2.call hb
    refine at_callb hA (c128 H2.rr) fun w22 hA _ hb => ⟨_, rfl, ?_⟩
    have H := H.call hb
    have H2 := H2.call hb
    refine ⟨rdL H2 nod, rdR H nod, rdR H nod, at_callb hA (c128 H2.rl) fun w25 hA _ hb => ⟨_, rfl, rdR (H.call hb) nod, rdR (H.call hb) nod, ?_⟩⟩
    have H := H.call hb
    have H2 := H2.call hb
    have ev : ∀ r', Tr.readyR (.node c k2 a) = r' → Tr.even l k (.node c k2 a) = Tr.riseR l k r' := fun r' e => by rw [Tr.even, if_neg hng, if_pos hlt', e]
    refine brD (fun hac => ?_) (fun hnac => ?_)
    · have hac' : a.height < c.height := by omega
      cases c with
      | nil => simp [Tr.height] at hac'
      | node d k3 m =>
      simp only [Tr.size] at hs
      refine ⟨_, rfl, _, rdR H nod, ?_⟩
      refine at_out hA (c130 H2 (by omega)) (fun q hq => .inl (by simp at hq ⊢; grind)) fun p' bs' w30 hA hch hrep hsub hsub0 => ⟨_, rfl, _, rfl, ?_⟩
      obtain ⟨e1, e2, e3⟩ := H.afterR hch hrep hsub
      refine opw_setR hA e1 e2 hrep e3 (.inr (by simp)) (by simp) fun w34 hA _ H3 => ?_
      refine at_out hA (c129 H3 (by simp only [Tr.size]; omega)) (fun q hq => ?_) fun p3 bs3 w36 hA _ hrep3 _ hsub3 => ⟨_, rfl, leafF h hA ⟨_, _, rfl, ?_, hsub3⟩⟩
      · rcases List.mem_cons.1 hq with e | hq
        · exact .inl (by rw [e]; simp)
        · rcases List.mem_append.1 hq with hq | hq
          · exact .inl (by simp [hq])
          · exact hsub0 q hq
      · rw [ev (.node d k3 (.node m k2 a)) (by simp only [Tr.readyR]; rw [if_pos hac']; rfl)]
        exact hrep3
    · refine at_out hA (c129 H (by omega)) (fun q hq => .inl hq) fun p3 bs3 w36 hA _ hrep3 _ hsub3 => ⟨_, rfl, leafF h hA ⟨_, _, rfl, ?_, hsub3⟩⟩
      rw [ev (.node c k2 a) (by simp only [Tr.readyR]; rw [if_neg (by omega)])]
      exact hrep3
  · refine at_callF hA (c131 H (by omega)) (fun q _ e => .inr (by rw [e]; simp)) (by simp) fun v w15 hA _ hc ⟨hv, hrep⟩ => ?_
    subst hv
    refine ⟨_, rfl, leafF h hA ⟨_, _, rfl, ?_, fun q hq => .inl hq⟩⟩
    rw [Tr.even, if_neg (by omega), if_neg (by omega)]
    exact hrep
end Go.Vc.T
