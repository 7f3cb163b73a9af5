/- Own text of this claim: Hp9. -/
import Derived.Test.YtkbjdkkpjjlbeaaHpS
set_option maxRecDepth 20000
namespace Go.Vc.H
open Go Go.Vc Go.RowKit Go.Proofs Vcc

variable {w W W' : World} {M : Nat → Prop} {gs : List Nat} {g c r : Nat} {a : Option Addr} {l pl s : List It} {st : Int}

/-- A sorted list in a row of the reference's own type. -/
def RefL (W : World) (s : List It) (a : Option Addr) (n c : Nat) : Prop := SlE W 2 itE s a n c ∧ ∀ b, a = some b → ∃ cur, W.heap[b.block]? = some (.cells cur 48 (0, 0))
theorem RefL.of {n c : Nat} {a : Option Addr} (h : OwnF w M gs W 48 2 itE (.slice a n c) s) : RefL W s a n c :=
  ⟨(h.sl (fun _ _ => rfl)), fun b hb => by subst hb; exact h.blk rfl⟩
theorem RefL.dis {n c2 : Nat} {a2 : Option Addr} (h : RefL W s a2 n c2) (H : HpR w M gs W g a c r l pl st) : ∀ b, a2 = some b → ¬ fpH g a r b.block := fun b hb hf => by
  obtain ⟨cur, hc⟩ := h.2 b hb
  rcases hf with hf | hf | hf
  · rw [hf] at hc; exact cells_ne hc H.blk (by decide) rfl
  · obtain ⟨es, cl, hr, _⟩ := H.map.obj
    rw [hf] at hc; exact cells_map hc hr rfl
  · obtain ⟨cur2, hc2⟩ := H.items.blk (k := b.block) (by rw [← hf]; exact ownB)
    exact cells_ne hc hc2 (by decide) rfl
theorem RefL.chg {n c2 : Nat} {a2 : Option Addr} {N : Nat → Prop} (h : RefL W s a2 n c2) (hc : Chg N W W') (hn : ∀ b, a2 = some b → ¬ N b.block) : RefL W' s a2 n c2 :=
  ⟨h.1.chg hc hn, fun b hb => by
    obtain ⟨cur, hcur⟩ := h.2 b hb
    exact ⟨cur, by rw [hc.block _ (Array.getElem?_eq_some_iff.1 hcur).1 (hn b hb)]; exact hcur⟩⟩
theorem RefL.call {n c2 : Nat} {a2 : Option Addr} (h : RefL W s a2 n c2) (hb : Bel W W') : RefL W' s a2 n c2 := h.chg (N := noB) (Chg.of_below hb) fun _ _ => id
theorem RefL.nil : RefL W [] none 0 0 := ⟨(OwnF.nil (w := W) (M := noB) (gs := []) (W := W) (e := 48) (size := 2) (f := itE)).sl (fun _ _ => rfl), fun _ h => by cases h⟩

theorem gives_rest {n c2 : Nat} {a2 : Option Addr} {x : It} (h : RefL W (x :: s) a2 n c2) : ∃ a', Gives Try.prog (Instr.sliceAt 41 (.slice a2 n c2) (some (.int .i64 1)) none none) (.slice a' (n - 1) (c2 - 1)) ∧ ∀ W' : World, RefL W' (x :: s) a2 n c2 → RefL W' s a' (n - 1) (c2 - 1) := by
  have hn : n = s.length + 1 := h.1.len_le.1
  obtain ⟨ad, rfl⟩ : ∃ ad, a2 = some ad := by
    obtain ⟨b, _, hb, _⟩ := h.1.at_ (i := 0) (x := x) rfl
    exact ⟨b, hb⟩
  obtain ⟨g1, hr⟩ := gives_fromX (P := Try.prog) (t := 41) (e := 48) (i := 1) (k := .i64) h.1 (by omega) (by kernel_rfl) (by kernel_rfl)
  refine ⟨_, g1, fun W' hW' => ⟨hr W' hW'.1, fun b hb => ?_⟩⟩
  obtain ⟨cur, hc⟩ := hW'.2 ad rfl
  refine ⟨cur, ?_⟩
  split at hb
  · cases hb; exact hc
  · cases hb; exact hc

theorem at_hpQ {P : Program} {f : FuncId} {args : Array Value} {Q : Value → World → List It → List It → Int → Prop} {K : Ending → World → Prop} (hA : AtF w M gs W) (h : HpR w M gs W g a c r l pl st)
    (hc : RetF P f args W (fpH g a r) (fun v W' => ∃ l' pl' st', Q v W' l' pl' st' ∧ HpPost W g a r W' l' pl' st'))
    (hK : ∀ v a' c' l' pl' st' W', AtF w M gs W' → Keeps gs W W' → Chg (fpH g a r) W W' → Q v W' l' pl' st' → HpR w M gs W' g a' c' r l' pl' st' → K (.returned v) W') : Calls P f args W K := by
  refine at_callF hA hc h.fp h.fpgs fun v W' hA' hk hch ⟨l', pl', st', hQ, a', c', h'⟩ => ?_
  exact hK v a' c' l' pl' st' W' hA' hk hch hQ (h.back hA h')

/-- What an act leaves. -/
structure DoesP (l : List It) (st : Int) (s' l' pl' : List It) (st' : Int) : Prop where
  heap : Heap l'
  pl : PlOk l' pl'
  len : l'.length ≤ l.length + 1
  rel : Rel s' l'
  st0 : st ≤ st'
  st1 : st' ≤ st + 2000000

theorem peek_rel (h : Rel s l) (hH : Heap l) (hP : PlOk l pl) : peekV l = peekV s := by unfold peekV; rw [h.top hH hP]

theorem c17 {n c2 : Nat} {a2 : Option Addr} (k key t : Int) (hH : Heap l) (hP : PlOk l pl) (hl : l.length ≤ 900) (hst : 0 ≤ st ∧ st < 1152921504606846976) (hr : Rel s l) (hs : RefL W s a2 n c2) (H : HpR W (fpH g a r) [] W g a c r l pl st) :
    RetF Try.prog 17 #[hpV g, .slice a2 n c2, .agg #[.int .i64 k, .int .i64 key, .int .i64 t]] W (fpH g a r) (fun v W' => ∃ l' pl' st', (∃ a' n' c' s', v = .tuple #[.slice a' n' c', .bool true] ∧ RefL W' s' a' n' c' ∧ DoesP l st s' l' pl' st') ∧ HpPost W g a r W' l' pl' st') := by
  intro R h
  refine f17_calls _ _ _ _ k key t W R ?_
  unfold f17_vc
  have hA : AtF W (fpH g a r) [] W := AtF.refl W _
  have hsl := hr.len hP
  have hn := hs.1.len_le.1
  have hlev := lev_le (l.length - 1)
  have I : Inv l pl st := ⟨hH, hP, by omega, hst.1, by omega⟩
  have hth := hr.there hP (k := key)
  refine go_n hA fun n1 hn1 => ?_
  refine brE (fun hk0 => ?_) (fun hk0 => brE (fun hk1 => ?_) (fun hk1 => brE (fun hk2 => ?_) (fun hk2 => ?_)))
  · refine go_below_too hA fun w2 hA hb => ?_
    have H := (H.more (gs' := [n1]) (by intro q hq _; simp at hq; omega)).call hb
    have hs := hs.call hb
    refine at_callb hA (c20 key w2 hs.1 (by omega)) fun w4 hA hk hb => ⟨_, rfl, hk, ?_⟩
    have H := H.call hb
    have hs := hs.call hb
    refine go_below_too hA fun w6 hA hb => ?_
    have H := H.call hb
    have hs := hs.call hb
    refine at_calll hA (c36 (key, t) w6 hs.1 (by omega)) (fun _ _ => rfl) fun a5 c5 w8 hA hk hb ho hs4 => ⟨_, _, _, rfl, hk, ?_⟩
    have H := H.call hb
    refine at_hp hA H (c10 key t I H.entry) fun a6 c6 l6 pl6 st6 w13 hA hk6 hch hΦ H6 _ => ⟨_, rfl, hk6, ?_⟩
    obtain ⟨q1, q2, q3, q4, q5, q6⟩ := hΦ
    have hlev6 := lev_le (l6.length - 1)
    have hR := RefL.of ho
    rw [hth]
    have e : ((!decide (plc key s ≥ 0)) == !decide (plc key s ≥ 0)) = true := by simp
    rw [e]
    exact leafF h hA ⟨l6, pl6, st6, ⟨_, _, _, _, rfl, hR.chg hch (hR.dis H), ⟨q1, q2, q3, hr.put q4, q5, by omega⟩⟩, _, _, H6.more (by simp)⟩
  · refine go_below_too hA fun w2 hA hb => ?_
    have H := (H.more (gs' := [n1]) (by intro q hq _; simp at hq; omega)).call hb
    have hs := hs.call hb
    refine at_calll hA (c37 key w2 hs.1 (by omega)) (fun _ _ => rfl) fun a5 c5 w8 hA hk hb ho hs4 => ⟨_, _, _, rfl, hk, ?_⟩
    have H := H.call hb
    have hs := hs.call hb
    have hR := RefL.of ho
    refine at_hp hA H (c14 key I H.entry) fun a6 c6 l6 pl6 st6 w13 hA hk6 hch hΦ H6 _ => ⟨_, rfl, hk6, ?_⟩
    have hs := hs.chg hch (hs.dis H)
    have hR := hR.chg hch (hR.dis H)
    obtain ⟨q1, q2, q3, q4, q5, q6, q7⟩ := hΦ
    refine at_callb hA (c20 key w13 hs.1 (by omega)) fun w4 hA hk hb => ⟨_, rfl, hk, ?_⟩
    rw [hth]
    have e : (decide (plc key s ≥ 0) == decide (plc key s ≥ 0)) = true := by simp
    rw [e]
    exact leafF h hA ⟨l6, pl6, st6, ⟨_, _, _, _, rfl, hR.call hb, ⟨q1, q2, by omega, hr.drop q4, q5, by omega⟩⟩, _, _, (H6.call hb).more (by simp)⟩
  · refine go_below_too hA fun w2 hA hb => ?_
    have H := (H.more (gs' := [n1]) (by intro q hq _; simp at hq; omega)).call hb
    have hs := hs.call hb
    have hpr := peek_rel hr hH hP
    have htop := hr.top hH hP
    cases s with
    | nil =>
      have e : peekV l = .tuple #[.int .i64 0, .int .i64 0, .bool false] := hpr
      refine at_hp hA H (c11 I H.entry) fun a6 c6 l6 pl6 st6 w13 hA hk6 hch hΦ H6 _ => ⟨0, 0, false, by rw [e], hk6, brE (fun _ => brB (fun _ => brE (fun _ => ?_) (fun e => absurd rfl e)) (fun e => by cases e)) (fun e => absurd (by rw [hn]; rfl) e)⟩
      unfold PopP at hΦ
      rw [htop] at hΦ
      obtain ⟨e1, e2, e3⟩ := hΦ
      have e : ((0 : Int) == 0) = true := rfl
      rw [e]
      exact leafF h hA ⟨l6, pl6, st6, ⟨_, _, _, _, rfl, hs.chg hch (hs.dis H), ⟨by rw [e1]; exact hH, by rw [e1, e2]; exact hP, by rw [e1]; omega, by rw [e1]; exact hr, by omega, by omega⟩⟩, _, _, H6.more (by simp)⟩
    | cons x s =>
      have e : peekV l = .tuple #[.int .i64 x.1, .int .i64 x.2, .bool true] := hpr
      simp only [List.length_cons] at hn hsl
      refine at_hp hA H (c11 I H.entry) fun a6 c6 l6 pl6 st6 w13 hA hk6 hch hΦ H6 _ => ⟨_, _, _, by rw [e], hk6, brE (fun e => by omega) (fun _ => ?_)⟩
      have hs := hs.chg hch (hs.dis H)
      unfold PopP at hΦ
      rw [htop] at hΦ
      obtain ⟨q1, q2, q3, q4, q5, q6, q7⟩ := hΦ
      obtain ⟨a', g1, hrest⟩ := gives_rest hs
      obtain ⟨ad, g2, el, _⟩ := elt_at (P := Try.prog) (k := .i64) (t := 41) hs.1 (i := 0) (x := x) rfl (e := 48) (by kernel_rfl) (by kernel_rfl)
      refine ⟨_, _, _, g1, brB (fun _ => ?_) (fun e => by cases e)⟩
      refine ⟨ad, g2, _, el.one (by kernel_rfl) (by simp), brE (fun _ => ?_) (fun e => absurd rfl e)⟩
      refine ⟨ad, g2, _, (el.sub (o := 1) (by decide)).one (by kernel_rfl) (by simp), go_below_too hA fun w40 hA hb => ?_⟩
      have e : (x.2 == x.2) = true := by simp
      rw [e]
      exact leafF h hA ⟨l6, pl6, st6, ⟨_, _, _, _, rfl, hrest _ (hs.call hb), ⟨q1, q2, by omega, hr.pop hP q4, q5, by omega⟩⟩, _, _, (H6.call hb).more (by simp)⟩
  · refine go_below_too hA fun w2 hA hb => ?_
    have H := (H.more (gs' := [n1]) (by intro q hq _; simp at hq; omega)).call hb
    have hs := hs.call hb
    refine at_callq hA (c38 t w2 hs.1 (by omega)) fun v w45 hA hk hb ⟨s1, s2, hv, ho1, ho2⟩ => ?_
    subst hv
    obtain ⟨a46, c46, rfl, _⟩ := ho1.slice (fun _ _ => rfl)
    obtain ⟨a49, c49, rfl, _⟩ := ho2.slice (fun _ _ => rfl)
    refine ⟨_, _, _, _, _, _, rfl, hk, ?_⟩
    have H := H.call hb
    have hR := RefL.of ho2
    have hc15 : RetF Try.prog 15 #[hpV g, .int .i64 t] w45 (fpH g a r) (fun v W' => ∃ l' pl' st', (∃ d : List It, OwnF w45 (fpH g a r) [] W' 2 1 inE v (d.map (·.1)) ∧ DueP t l st d l' pl' st') ∧ HpPost w45 g a r W' l' pl' st') := fun R k => c15 t I (by omega) hst.2 H.entry R fun v W' hc ⟨d, ho, l', pl', st', hd, hp⟩ => k v W' hc ⟨l', pl', st', ⟨d, ho, hd⟩, hp⟩
    refine at_hpQ hA H hc15 fun v a6 c6 l6 pl6 st6 w53 hA hk6 hch ⟨d, ho, hd⟩ H6 => ?_
    obtain ⟨a54, c54, rfl, _⟩ := ho.slice (fun _ _ => rfl)
    refine ⟨_, _, _, rfl, hk6, ?_⟩
    have hdl : d.length ≤ 900 := by have := hd.len; omega
    obtain ⟨hr', hdk⟩ := hr.due hd
    have ho1' : OwnF w2 noB [] w53 2 1 inE (.slice a46 (dueK t s).length c46) (dueK t s) := ho1.chg hch fun b hb hf => by
      obtain ⟨cur, hc⟩ := ho1.blk hb
      rcases hf with hf | hf | hf
      · rw [hf] at hc; exact cells_ne hc H.blk (by decide) rfl
      · obtain ⟨es, cl, hr, _⟩ := H.map.obj
        rw [hf] at hc; exact cells_map hc hr rfl
      · obtain ⟨cur2, hc2⟩ := H.items.blk (k := b) (by rw [← hf]; exact ownB)
        exact cells_ne hc hc2 (by decide) rfl
    refine at_callb hA (c39 w53 (ho.sl (fun _ _ => rfl)) (ho1'.sl (fun _ _ => rfl)) (by rw [List.length_map]; omega)) fun w58 hA hk hb => ⟨_, rfl, hk, ?_⟩
    rw [decide_eq_true hdk.symm]
    have hmul : d.length * (2 * lev (l.length - 1)) ≤ 1000 * 2000 := Nat.mul_le_mul (by omega) (by omega)
    have hcast : (d.length : Int) * ((2 * lev (l.length - 1) : Nat) : Int) = ((d.length * (2 * lev (l.length - 1)) : Nat) : Int) := (Int.natCast_mul _ _).symm
    have hst1 := hd.st1
    have hlen := hd.len
    exact leafF h hA ⟨l6, pl6, st6, ⟨_, _, _, _, rfl, (hR.chg hch (hR.dis H)).call hb, ⟨hd.heap, hd.pl, by omega, hr', hd.st0, by omega⟩⟩, _, _, (H6.call hb).more (by simp)⟩
end Go.Vc.H
