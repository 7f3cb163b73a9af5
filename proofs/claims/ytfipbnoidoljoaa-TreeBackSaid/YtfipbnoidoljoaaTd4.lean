/- Own text of this claim: Td4. -/
import Derived.Test.YtfipbnoidoljoaaTd3
set_option maxRecDepth 20000
namespace Go.Vc.T
open Go Go.Vc Go.RowKit Go.Proofs Vcd1

variable {w W W' W1 : World} {M : Nat → Prop} {gs : List Nat} {b g : Nat} {k : Int} {p p' pl pr : Option Addr} {t l l' r r' : Tr Int} {bs bs' bl br cb : List Nat} {fv : Value} {cf : Int → Int → Int} {In : Int → Prop}

/-- A call of a function's value that returns a value, and changes nothing. -/
def RetI (fv : Value) (args : Array Value) (W : World) (v : Value) : Prop := ∀ K : Value → World → Prop, (∀ w', Bel W w' → K v w') → OpW Try.prog (invokeS fv args) W K
theorem opw_invoke {f : FuncId} {first cap args : Array Value} {K : Value → World → Prop} (he : pureRun Try.prog (invokeS (.func (.func f) first cap) args) = some (.enter f ((first ++ args) ++ cap))) (h : Calls Try.prog f ((first ++ args) ++ cap) W fun e w' => ∃ v, e = .returned v ∧ K v w') : OpW Try.prog (invokeS (.func (.func f) first cap) args) W K := by
  unfold OpW
  rw [pureRun_run he W]
  exact h
theorem RetI.of {f : FuncId} {first cap args : Array Value} {v : Value} (he : pureRun Try.prog (invokeS (.func (.func f) first cap) args) = some (.enter f ((first ++ args) ++ cap))) (h : Ret Try.prog f ((first ++ args) ++ cap) W v) : RetI (.func (.func f) first cap) args W v   := fun _ hK => opw_invoke he (h _ fun w' hb => ⟨v, rfl, hK w' hb⟩)
theorem at_inv {args : Array Value} {v : Value} {K : Value → World → Prop} (hA : AtF w M gs W) (hc : RetI fv args W v) (hK : ∀ w', AtF w M gs w' → Keeps gs W w' → Bel W w' → K v w') : OpW Try.prog (invokeS fv args) W K := hc K fun w' hb => hK w' (hA.call hb) (hA.keeps hb) hb

/-- A function's value that tells an order, of some numbers. -/
structure OrdC (W : World) (fv : Value) (cf : Int → Int → Int) (In : Int → Prop) (cb : List Nat) : Prop where
  ask : ∀ W', (∀ q ∈ cb, W'.heap[q]? = W.heap[q]?) → ∀ a b, In a → In b → RetI fv #[.int .i64 a, .int .i64 b] W' (.int .i64 (cf a b))
  lt : ∀ q ∈ cb, q < W.heap.size
/-- A tree's struct, apart from some nodes. -/
structure Ctx (W : World) (g : Nat) (fv : Value) (cf : Int → Int → Int) (In : Int → Prop) (cb bs : List Nat) : Prop where
  tb : ∃ root, W.heap[g]? = some (.cells ([fv, .pointer root] : List Value).toArray 45 (0, 0))
  gn : g ∉ bs
  oc : OrdC W fv cf In cb
  cn : ∀ q ∈ cb, q ∉ bs
theorem Ctx.glt (h : Ctx W g fv cf In cb bs) : g < W.heap.size := by
  obtain ⟨_, h⟩ := h.tb
  exact (Array.getElem?_eq_some_iff.1 h).1
theorem Ctx.keep (h : Ctx W g fv cf In cb bs) (hg : W'.heap[g]? = W.heap[g]?) (hc : ∀ q ∈ cb, W'.heap[q]? = W.heap[q]?) (hs : W.heap.size ≤ W'.heap.size) : Ctx W' g fv cf In cb bs := by
  obtain ⟨root, hr⟩ := h.tb
  exact ⟨⟨root, by rw [hg, hr]⟩, h.gn, ⟨fun W2 h2 => h.oc.ask W2 fun q hq => (h2 q hq).trans (hc q hq), fun q hq => Nat.lt_of_lt_of_le (h.oc.lt q hq) hs⟩, h.cn⟩
theorem Ctx.call (h : Ctx W g fv cf In cb bs) (hb : Bel W W') : Ctx W' g fv cf In cb bs := h.keep (hb.block h.glt) (fun q hq => hb.block (h.oc.lt q hq)) hb.size
theorem Ctx.chg (h : Ctx W g fv cf In cb bs) (hc : Chg (fun q => q ∈ bs) W W') : Ctx W' g fv cf In cb bs := h.keep (hc.block g h.glt h.gn) (fun q hq => hc.block q (h.oc.lt q hq) (h.cn q hq)) hc.size
theorem Ctx.sub (h : Ctx W g fv cf In cb bs) (hs : ∀ q ∈ bs', q ∈ bs) : Ctx W g fv cf In cb bs' := ⟨h.tb, fun e => h.gn (hs g e), h.oc, fun q hq e => h.cn q hq (hs q e)⟩
theorem Ctx.to (h : Ctx W g fv cf In cb bs) (hs : ∀ q ∈ bs', q ∈ bs ∨ W.heap.size ≤ q) : Ctx W g fv cf In cb bs' := ⟨h.tb, fun e => (hs g e).elim h.gn fun e => by have := h.glt; omega, h.oc, fun q hq e => (hs q e).elim (h.cn q hq) fun e => by have := h.oc.lt q hq; omega⟩

theorem size_even (l : Tr Int) (k : Int) (r : Tr Int) : (Tr.even l k r).size = l.size + r.size + 1 := by
  rw [Tr.size_len, Tr.toL_even, List.length_append, List.length_cons, Tr.size_len l, Tr.size_len r]; omega
theorem size_put (x : Int) : ∀ t : Tr Int, (Tr.put cf x t).1.size ≤ t.size + 1
  | .nil => by simp [Tr.put, Tr.size]
  | .node l k r => by
    rw [Tr.put]
    have h1 := size_put x l
    have h2 := size_put x r
    split
    · simp only [size_even, Tr.size]; omega
    · split
      · simp only [size_even, Tr.size]; omega
      · simp only [size_even, Tr.size]; omega

/-- What putting and dropping below a node leave. -/
def Out2 (W : World) (bs : List Nat) (t' : Tr Int × Bool) (v : Value) (W' : World) : Prop := ∃ p' bs', v = .tuple #[.pointer p', .bool t'.2] ∧ Rep W' t'.1 p' bs' ∧ ∀ q ∈ bs', q ∈ bs ∨ W.heap.size ≤ q
theorem at_out2 {P : Program} {f : FuncId} {args : Array Value} {bs0 : List Nat} {t : Tr Int × Bool} {K : Ending → World → Prop} (hA : AtF w (fun q => q ∈ bs0) [] W) (hc : RetF P f args W (fun q => q ∈ bs) (Out2 W bs t)) (hsub : ∀ q ∈ bs, q ∈ bs0 ∨ w.heap.size ≤ q)
    (hK : ∀ p' bs' W', AtF w (fun q => q ∈ bs0) [] W' → Chg (fun q => q ∈ bs) W W' → Rep W' t.1 p' bs' → (∀ q ∈ bs', q ∈ bs ∨ W.heap.size ≤ q) → (∀ q ∈ bs', q ∈ bs0 ∨ w.heap.size ≤ q) → K (.returned (.tuple #[.pointer p', .bool t.2])) W') : Calls P f args W K := by
  refine at_callF hA hc (fun q _ hq => (hsub q hq).symm) (by simp) fun v W' hA' _ hch ⟨p', bs', hv, hr, hs⟩ => ?_
  subst hv
  exact hK p' bs' W' hA' hch hr hs fun q hq => (hs q hq).elim (hsub q) fun e => .inr (Nat.le_trans hA.size e)

theorem c62 (x : Int) (hx : In x) : ∀ (t : Tr Int) (W : World) (p : Option Addr) (bs : List Nat), t.size < 288230376151711744 → (∀ y ∈ t.toL, In y) → Ctx W g fv cf In cb bs → Rep W t p bs →
    RetF Try.prog 62 #[.pointer (pt g), .pointer p, .int .i64 x] W (fun q => q ∈ bs) (Out2 W bs (Tr.put cf x t))
  | .nil, W, p, bs, _, _, C, H => by
    intro R h
    obtain ⟨rfl, rfl⟩ := H
    refine f62_calls _ _ _ W R ?_
    unfold f62_vc
    have hA : AtF W (fun q => q ∈ ([] : List Nat)) [] W := AtF.refl W _
    refine ⟨true, (fun W => rfl), brB (fun _ => ?_) (fun e => by cases e)⟩
    refine opw_boxS hA fun b w3 hb hA _ hb2 hblk => ⟨_, rfl, ?_⟩
    exact leafF h hA ⟨pt b, [b], rfl, ⟨b, none, none, [], [], rfl, hblk, ⟨rfl, rfl⟩, ⟨rfl, rfl⟩, rfl, by simp⟩, fun q hq => .inr (by simp at hq; omega)⟩
  | .node l k r, W, p, bs, hs, hin, C, H => by
    intro R h
    have ihl := c62 x hx l
    have ihr := c62 x hx r
    obtain ⟨b, pl, pr, bl, br, rfl, rfl, HN⟩ := H.node
    clear H
    have H := HN
    refine f62_calls _ _ _ W R ?_
    unfold f62_vc
    have hA : AtF W (fun q => q ∈ b :: (bl ++ br)) [] W := AtF.refl W _
    simp only [Tr.size] at hs
    have hil : ∀ y ∈ l.toL, In y := fun y hy => hin y (by simp [Tr.toL, hy])
    have hir : ∀ y ∈ r.toL, In y := fun y hy => hin y (by simp [Tr.toL, hy])
    have hik : In k := hin k (by simp [Tr.toL])
    have hsl := size_put (cf := cf) x l
    have hsr := size_put (cf := cf) x r
    refine ⟨false, (fun W => rfl), brB (fun e => by cases e) (fun _ => ?_)⟩
    obtain ⟨root, htb⟩ := C.tb
    refine ⟨_, rfl, _, rd_f0 htb (by kernel_rfl) nod, _, rfl, _, rdK H nod, go_below0_too hA fun w9 hA hb => ?_⟩
    have H := H.call hb
    have C := C.call hb
    refine at_inv hA (C.oc.ask w9 (fun _ _ => rfl) x k hx hik) fun w11 hA _ hb => ⟨_, rfl, ?_⟩
    have H := H.call hb
    have C := C.call hb
    rw [Tr.put] at h
    refine brD (fun hlt => ?_) (fun hnlt => brD (fun hgt => ?_) (fun hngt => ?_))
    · rw [if_pos hlt] at h
      refine ⟨_, rfl, _, rdL H nod, ?_⟩
      refine at_out2 hA (ihl w11 pl bl (by omega) hil (C.sub (by simp; grind)) H.rl) (fun q hq => .inl (by simp [hq])) fun p' bs' w16 hA hch hrep hsub hsub0 => ⟨_, _, rfl, _, rfl, ?_⟩
      obtain ⟨e1, e2, e3⟩ := H.afterL hch hrep hsub
      refine opw_setL hA e1 hrep e2 e3 (.inr (by simp)) (by simp) fun w21 hA _ H3 => ?_
      refine at_out hA (c107 H3 (by omega)) (fun q hq => ?_) fun p3 bs3 w36 hA _ hrep3 _ hsub3 => ⟨_, rfl, leafF h hA ⟨_, _, rfl, hrep3, hsub3⟩⟩
      rcases List.mem_cons.1 hq with e | hq
      · exact .inl (by rw [e]; simp)
      · rcases List.mem_append.1 hq with hq | hq
        · exact hsub0 q hq
        · exact .inl (by simp [hq])
    · rw [if_neg hnlt, if_pos hgt] at h
      refine ⟨_, rfl, _, rdR H nod, ?_⟩
      refine at_out2 hA (ihr w11 pr br (by omega) hir (C.sub (by simp; grind)) H.rr) (fun q hq => .inl (by simp [hq])) fun p' bs' w16 hA hch hrep hsub hsub0 => ⟨_, _, rfl, _, rfl, ?_⟩
      obtain ⟨e1, e2, e3⟩ := H.afterR hch hrep hsub
      refine opw_setR hA e1 e2 hrep e3 (.inr (by simp)) (by simp) fun w21 hA _ H3 => ?_
      refine at_out hA (c107 H3 (by omega)) (fun q hq => ?_) fun p3 bs3 w36 hA _ hrep3 _ hsub3 => ⟨_, rfl, leafF h hA ⟨_, _, rfl, hrep3, hsub3⟩⟩
      rcases List.mem_cons.1 hq with e | hq
      · exact .inl (by rw [e]; simp)
      · rcases List.mem_append.1 hq with hq | hq
        · exact .inl (by simp [hq])
        · exact hsub0 q hq
    · rw [if_neg hnlt, if_neg hngt] at h
      exact at_out hA (c107 H (by omega)) (fun q hq => .inl hq) fun p3 bs3 w36 hA _ hrep3 _ hsub3 => ⟨_, rfl, leafF h hA ⟨_, _, rfl, hrep3, hsub3⟩⟩
end Go.Vc.T
