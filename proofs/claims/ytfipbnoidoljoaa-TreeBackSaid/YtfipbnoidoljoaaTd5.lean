/- Own text of this claim: Td5. -/
import Derived.Test.YtfipbnoidoljoaaTd4
set_option maxRecDepth 20000
namespace Go.Vc.T
open Go Go.Vc Go.RowKit Go.Proofs Vcd1

variable {w W W' W1 : World} {M : Nat → Prop} {gs : List Nat} {b g : Nat} {k : Int} {p p' pl pr : Option Addr} {t l l' r r' : Tr Int} {bs bs' bl br cb : List Nat} {fv : Value} {cf : Int → Int → Int} {In : Int → Prop}

theorem size_least : ∀ (l : Tr Int) (k : Int) (r : Tr Int), (Tr.least l k r).1.size = l.size + r.size := fun l k r => by
  have := congrArg List.length (Tr.toL_least l k r)
  simp only [List.length_cons, List.length_append] at this
  rw [Tr.size_len, Tr.size_len l, Tr.size_len r]
  omega

theorem c106 : ∀ (l : Tr Int) (W : World) (b : Nat) (k : Int) (pl pr : Option Addr) (r : Tr Int) (bl br : List Nat), l.size + r.size < 288230376151711744 → Nd W b k pl pr l r bl br →
    RetF Try.prog 106 #[.pointer (pt b)] W (fun q => q ∈ b :: (bl ++ br)) (fun v W' => ∃ p' bs', v = .tuple #[.pointer p', .int .i64 (Tr.least l k r).2] ∧ Rep W' (Tr.least l k r).1 p' bs' ∧ ∀ q ∈ bs', q ∈ b :: (bl ++ br) ∨ W.heap.size ≤ q)
  | .nil, W, b, k, pl, pr, r, bl, br, hs, H => by
    intro R h
    refine f106_calls _ W R ?_
    unfold f106_vc
    have hA : AtF W (fun q => q ∈ b :: (bl ++ br)) [] W := AtF.refl W _
    obtain ⟨e1, e2⟩ := H.rl
    subst e1 e2
    refine ⟨_, rfl, _, rdL H nod, true, (fun W => rfl), brB (fun _ => ?_) (fun e => by cases e)⟩
    refine ⟨_, rfl, _, rdR H nod, _, rfl, _, rdK H nod, go_below0_too hA fun w8 hA hb => ?_⟩
    have H := H.call hb
    exact leafF h hA ⟨_, _, rfl, H.rr, fun q hq => .inl (by simp [hq])⟩
  | .node a k2 m, W, b, k, pl, pr, r, bl, br, hs, H => by
    intro R h
    have ih := c106 a
    refine f106_calls _ W R ?_
    unfold f106_vc
    have hA : AtF W (fun q => q ∈ b :: (bl ++ br)) [] W := AtF.refl W _
    obtain ⟨b2, al, ml, ba, bm, e1, e2, H2⟩ := H.rl.node
    subst e1 e2
    simp only [Tr.size] at hs
    have hsz := size_least a k2 m
    refine ⟨_, rfl, _, rdL H nod, false, (fun W => rfl), brB (fun e => by cases e) (fun _ => ?_)⟩
    refine ⟨_, rfl, _, rdL H nod, ?_⟩
    refine at_callF hA (ih W b2 k2 al ml m ba bm (by omega) H2) (fun q _ hq => .inr (by simp at hq ⊢; grind)) (by simp) fun v w12 hA _ hch ⟨p', bs', hv, hrep, hsub⟩ => ?_
    subst hv
    refine ⟨_, _, rfl, _, rfl, ?_⟩
    obtain ⟨e1, e2, e3⟩ := H.afterL hch hrep hsub
    refine opw_setL hA e1 hrep e2 e3 (.inr (by simp)) (by simp) fun w21 hA _ H3 => ?_
    have hsub0 : ∀ q ∈ bs', q ∈ b :: ((b2 :: (ba ++ bm)) ++ br) ∨ W.heap.size ≤ q := fun q hq => (hsub q hq).imp (fun e => by simp at e ⊢; grind) id
    refine at_out hA (c107 H3 (by omega)) (fun q hq => ?_) fun p3 bs3 w36 hA _ hrep3 _ hsub3 => ⟨_, rfl, leafF h hA ⟨_, _, rfl, hrep3, hsub3⟩⟩
    rcases List.mem_cons.1 hq with e | hq
    · exact .inl (by rw [e]; simp)
    · rcases List.mem_append.1 hq with hq | hq
      · exact hsub0 q hq
      · exact .inl (by simp [hq])

theorem opw_setK {k' : Int} {K : Value → World → Prop} (hA : AtF w M gs W) (H : Nd W b k pl pr l r bl br) (hm : w.heap.size ≤ b ∨ M b) (hap : b ∉ gs)
    (h : ∀ w', AtF w M gs w' → Keeps gs W w' → Nd w' b k' pl pr l r bl br → K undef w') : OpW Try.prog (skipS (Instr.storeAt 3 (.pointer (pt b)) (.int .i64 k'))) W K := by
  obtain ⟨x, y, hr⟩ := H.raw
  obtain ⟨h1, h2, _⟩ := nodup_cons_app.1 H.nd
  exact opw_storeF hA hr hm hap (cells' := ndC k' pl pr x y) (by kernel_rfl) fun w' hA' hk hc hb => h w' hA' hk ⟨⟨x, y, hb⟩, H.rl.chg hc (ne_of h1), H.rr.chg hc (ne_of h2), H.nd⟩

theorem size_dropTop (l r : Tr Int) : (Tr.dropTop l r).1.size ≤ l.size + r.size := by
  cases l with
  | nil => simp [Tr.dropTop, Tr.size]
  | node u v w => cases r with
    | nil => simp [Tr.dropTop, Tr.size]
    | node a b c =>
      simp only [Tr.dropTop, size_even, size_least, Tr.size]
      omega
theorem size_drop (x : Int) : ∀ t : Tr Int, (Tr.drop cf x t).1.size ≤ t.size
  | .nil => by simp [Tr.drop, Tr.size]
  | .node l k r => by
    rw [Tr.drop]
    have h1 := size_drop x l
    have h2 := size_drop x r
    have h3 := size_dropTop l r
    split
    · simp only [size_even, Tr.size]; omega
    · split
      · simp only [size_even, Tr.size]; omega
      · simp only [Tr.size]; omega

theorem c61 (x : Int) (hx : In x) : ∀ (t : Tr Int) (W : World) (p : Option Addr) (bs : List Nat), t.size < 288230376151711744 → (∀ y ∈ t.toL, In y) → Ctx W g fv cf In cb bs → Rep W t p bs →
    RetF Try.prog 61 #[.pointer (pt g), .pointer p, .int .i64 x] W (fun q => q ∈ bs) (Out2 W bs (Tr.drop cf x t))
  | .nil, W, p, bs, _, _, C, H => by
    intro R h
    obtain ⟨rfl, rfl⟩ := H
    refine f61_calls _ _ _ W R ?_
    unfold f61_vc
    have hA : AtF W (fun q => q ∈ ([] : List Nat)) [] W := AtF.refl W _
    exact ⟨true, (fun W => rfl), brB (fun _ => leafF h hA ⟨none, [], rfl, ⟨rfl, rfl⟩, by simp⟩) (fun e => by cases e)⟩
  | .node l k r, W, p, bs, hs, hin, C, H => by
    intro R h
    have ihl := c61 x hx l
    have ihr := c61 x hx r
    obtain ⟨b, pl, pr, bl, br, rfl, rfl, HN⟩ := H.node
    clear H
    have H := HN
    refine f61_calls _ _ _ W R ?_
    unfold f61_vc
    have hA : AtF W (fun q => q ∈ b :: (bl ++ br)) [] W := AtF.refl W _
    simp only [Tr.size] at hs
    have hil : ∀ y ∈ l.toL, In y := fun y hy => hin y (by simp [Tr.toL, hy])
    have hir : ∀ y ∈ r.toL, In y := fun y hy => hin y (by simp [Tr.toL, hy])
    have hik : In k := hin k (by simp [Tr.toL])
    have hsl := size_drop (cf := cf) x l
    have hsr := size_drop (cf := cf) x r
    refine ⟨false, (fun W => rfl), brB (fun e => by cases e) (fun _ => ?_)⟩
    obtain ⟨root, htb⟩ := C.tb
    refine ⟨_, rfl, _, rd_f0 htb (by kernel_rfl) nod, _, rfl, _, rdK H nod, go_below0_too hA fun w9 hA hb => ?_⟩
    have H := H.call hb
    have C := C.call hb
    refine at_inv hA (C.oc.ask w9 (fun _ _ => rfl) x k hx hik) fun w11 hA _ hb => ⟨_, rfl, ?_⟩
    have H := H.call hb
    have C := C.call hb
    have hsz11 := hA.size
    rw [Tr.drop] at h
    refine brD (fun hlt => ?_) (fun hnlt => brD (fun hgt => ?_) (fun hngt => ?_))
    · rw [if_pos hlt] at h
      refine ⟨_, rfl, _, rdL H nod, ?_⟩
      refine at_out2 hA (ihl w11 pl bl (by omega) hil (C.sub (by simp; grind)) H.rl) (fun q hq => .inl (by simp [hq])) fun p' bs' w16 hA hch hrep hsub hsub0 => ⟨_, _, rfl, _, rfl, ?_⟩
      obtain ⟨e1, e2, e3⟩ := H.afterL hch hrep hsub
      refine opw_setL hA e1 hrep e2 e3 (.inr (by simp)) (by simp) fun w21 hA _ H3 => ?_
      refine at_out hA (c107 H3 (by omega)) (fun q hq => ?_) fun p3 bs3 w36 hA _ hrep3 _ hsub3 => ⟨_, rfl, leafF h hA ⟨_, _, rfl, hrep3, hsub3⟩⟩
      rcases List.mem_cons.1 hq with e | hq
      · exact .inl (by rw [e]; simp)
      · rcases List.mem_append.1 hq with hq | hq
        · exact hsub0 q hq
        · exact .inl (by simp [hq])
    · rw [if_neg hnlt, if_pos hgt] at h
      refine ⟨_, rfl, _, rdR H nod, ?_⟩
      refine at_out2 hA (ihr w11 pr br (by omega) hir (C.sub (by simp; grind)) H.rr) (fun q hq => .inl (by simp [hq])) fun p' bs' w16 hA hch hrep hsub hsub0 => ⟨_, _, rfl, _, rfl, ?_⟩
      obtain ⟨e1, e2, e3⟩ := H.afterR hch hrep hsub
      refine opw_setR hA e1 e2 hrep e3 (.inr (by simp)) (by simp) fun w21 hA _ H3 => ?_
      refine at_out hA (c107 H3 (by omega)) (fun q hq => ?_) fun p3 bs3 w36 hA _ hrep3 _ hsub3 => ⟨_, rfl, leafF h hA ⟨_, _, rfl, hrep3, hsub3⟩⟩
      rcases List.mem_cons.1 hq with e | hq
      · exact .inl (by rw [e]; simp)
      · rcases List.mem_append.1 hq with hq | hq
        · exact .inl (by simp [hq])
        · exact hsub0 q hq
    · rw [if_neg hnlt, if_neg hngt] at h
      refine ⟨_, rfl, _, rdL H nod, ?_⟩
      cases l with
      | nil =>
        obtain ⟨e1, e2⟩ := H.rl
        subst e1 e2
        exact ⟨true, (fun W => rfl), brB (fun _ => ⟨_, rfl, _, rdR H nod, leafF h hA ⟨_, _, rfl, H.rr, fun q hq => .inl (by simp [hq])⟩⟩) (fun e => by cases e)⟩
      | node u v2 z =>
      obtain ⟨b2, ul, zl, bu, bz, e1, e2, H2⟩ := H.rl.node
      subst e1 e2
      refine ⟨false, (fun W => rfl), brB (fun e => by cases e) (fun _ => ⟨_, rfl, _, rdR H nod, ?_⟩)⟩
      cases r with
      | nil =>
        obtain ⟨e1, e2⟩ := H.rr
        subst e1 e2
        exact ⟨true, (fun W => rfl), brB (fun _ => ⟨_, rfl, _, rdL H nod, leafF h hA ⟨_, _, rfl, H.rl, fun q hq => .inl (by simp at hq ⊢; grind)⟩⟩) (fun e => by cases e)⟩
      | node a2 k2 m2 =>
      obtain ⟨b3, al, ml, ba, bm, e1, e2, H3⟩ := H.rr.node
      subst e1 e2
      simp only [Tr.size] at hs
      have hsz := size_least a2 k2 m2
      refine ⟨false, (fun W => rfl), brB (fun e => by cases e) (fun _ => ⟨_, rfl, _, rdR H nod, ?_⟩)⟩
      refine at_callF hA (c106 a2 w11 b3 k2 al ml m2 ba bm (by omega) H3) (fun q _ hq => .inr (by simp at hq ⊢; grind)) (by simp) fun v w12 hA _ hch ⟨p', bs', hv, hrep, hsub⟩ => ?_
      subst hv
      refine ⟨_, _, rfl, _, rfl, ?_⟩
      obtain ⟨e1, e2, e3⟩ := H.afterR hch hrep hsub
      refine opw_setR hA e1 e2 hrep e3 (.inr (by simp)) (by simp) fun w21 hA _ H4 => ⟨_, rfl, ?_⟩
      refine opw_setK hA H4 (.inr (by simp)) (by simp) fun w22 hA _ H5 => ?_
      have hsub0 : ∀ q ∈ bs', q ∈ b :: ((b2 :: (bu ++ bz)) ++ (b3 :: (ba ++ bm))) ∨ W.heap.size ≤ q := fun q hq => (hsub q hq).imp (fun e => by simp at e ⊢; grind) (fun e => by omega)
      refine at_out hA (c107 H5 (by simp only [Tr.size]; omega)) (fun q hq => ?_) fun p3 bs3 w36 hA _ hrep3 _ hsub3 => ⟨_, rfl, leafF h hA ⟨_, _, rfl, hrep3, hsub3⟩⟩
      rcases List.mem_cons.1 hq with e | hq
      · exact .inl (by rw [e]; simp)
      · rcases List.mem_append.1 hq with hq | hq
        · exact .inl (by simp at hq ⊢; grind)
        · exact hsub0 q hq
end Go.Vc.T
