/- Own texts of this claim, laid together: Jr1, Jk7, Jk8, Js1, Js2, Js3, FA5, Js4, Js5, FA4, Jr2, FA6, VcSlice, Js6, Js7, Js9, Js8. -/
import Derived.Test.YthfagnpgiciphaaMg2ab96ca6
import Derived.Test.YthfagnpgiciphaaProg

/- Agents: what is taken and given back. -/
set_option maxRecDepth 20000
set_option maxHeartbeats 1000000
namespace Go.Vc.J
open Go Go.Vc Go.Vc.V Go.RowKit Go.Proofs Vct

variable {w W W' W2 : World} {M N : Nat → Prop} {gs ds : List Nat} {g r : Nat} {cap most : Int} {B : Nat → Prop} {q : AgQ} {D : AgL}

/-! ### Plainly -/
theorem takeD_ne {i : Int} {V : List PartT} (h : (takeD q i V).1 ≠ 0) : (takeD q i V).2 = q := by
  unfold takeD at *
  split
  · rfl
  · rename_i d hd
    split
    · rename_i hc
      rw [hd] at h
      simp only at h
      rw [if_pos hc] at h
      exact absurd rfl h
    · rfl
theorem take_back (h : Good cap most q) {i : Int} {V : List PartT} (he : (takeD q i V).1 = 0) : vecB V = true ∧ addC (takeD q i V).2.2.1 (ofA V) ∧ adE (takeD q i V).2.2.1 (ofA V) = q.2.1 ∧ giveD (takeD q i V).2 i V = (0, q) := by
  unfold takeD at *
  cases hx : mget i q.2.2 with
  | none => rw [hx] at he; cases he
  | some d =>
    rw [hx] at he
    simp only at he ⊢
    by_cases hc : vecB V = true ∧ (vsub d.2 V).isSome = true
    · rw [if_pos hc]
      obtain ⟨F', hF'⟩ := Option.isSome_iff_exists.1 hc.2
      obtain ⟨k1, k2, k3⟩ := h.ok _ (mem_of_mget hx)
      simp only at k1 k2 k3
      obtain ⟨k4, k5⟩ := holds_take k1 k2 hc.1 k3 hF'
      obtain ⟨_, ha, hs⟩ := vsub_amt k2 hc.1 hF'
      rw [hF', vout_some]
      obtain ⟨e1, e2, e3⟩ := h.frE (T := d.1) (F := d.2) hx k1 k4 k5 rfl
      have hG := h.repl (T := d.1) (F := d.2) hx k1 k4 k5 rfl
      have hx1 : mget i (setD q.2.2 i (d.1, F')) = some (d.1, F') := mget_setD hx
      obtain ⟨E1, E2, E3⟩ := hG.frE (T := d.1) (F := F') (T' := d.1) (F' := d.2) hx1 k1 k2 k3 rfl
      have hsF := fun k => sumD_mdel (f := fS k) hx
      have tF := fun k => sumD_setD (f := fS k) (d := (d.1, F')) h.nd hx
      simp only [fS] at hsF tF
      have nF : ∀ k, 0 ≤ sumD (fS k) (mdel i q.2.2) := fun k => sumD_nonneg fun x hx => (vec_bound (h.ok x (mem_mdelA hx)).2.1).1
      have bV := fun k => vec_bound (k := k) hc.1
      have bF' := fun k => vec_bound (k := k) k4
      have g0 := h.bd 0; have g1 := h.bd 1; have g2 := h.bd 2; have g3 := h.bd 3
      have hm := h.mo
      have hmm := h.mm
      have s0 := hs 0; have s1 := hs 1; have s2 := hs 2; have s3 := hs 3
      have had := ad_all (f := fun k => sumD (fS k) q.2.2 - sumK k d.2 + sumK k F') (g := fun k => sumK k V) (fun k => ⟨by have := hsF k; have := nF k; have := (bF' k).1; have := (vec_bound (k := k) k2).1; omega, (bV k).1⟩) (by first | omega | (simp only; omega))
      refine ⟨hc.1, ?_, ?_, ?_⟩
      · rw [e1, ofA_all hc.1]; exact had.2
      · rw [e1, ofA_all hc.1, had.1, h.fr]
        refine all4_congr fun k => ?_
        have := hs k
        omega
      · unfold giveD
        simp only
        rw [hx1]
        simp only
        have hsum : (vadd F' V).isSome = true := (vadd_iff k4 hc.1).2 fun s => by
          have := ha s
          have := (amt_nonneg (s := s) (vecB_iff.1 k2).1).2
          show _ ≤ (9007199254740992 : Int)
          omega
        obtain ⟨G, hGe⟩ := Option.isSome_iff_exists.1 hsum
        obtain ⟨G1, G2, _⟩ := vadd_amt k4 hc.1 hGe
        have hGF : G = d.2 := vec_ext G1 k2 fun s => by
          have := G2 s
          have := ha s
          omega
        rw [if_pos ⟨hc.1, hsum⟩, hGe, vout_some, hGF, if_pos k3, E1, setD_setD, setD_same h.nd hx]
        have efr : (all4 fun k => sumD (fS k) (setD q.2.2 i (d.1, F')) - sumK k F' + sumK k d.2) = q.2.1 := by
          rw [h.fr]
          refine all4_congr fun k => ?_
          have := hsF k
          have := tF k
          first | omega | (simp only [fS]; omega)
        simp only
        rw [efr]
    · rw [if_neg hc] at he
      cases he
theorem rows_eq : ∀ {s t : AgL}, (s.Pairwise fun x y => x.1 < y.1) → (t.Pairwise fun x y => x.1 < y.1) → s.Perm t → s = t
  | [], t, _, _, h => by rw [List.nil_perm.1 h]
  | a :: s, [], _, _, h => by have := h.length_eq; simp at this
  | a :: s, b :: t, hs, ht, h => by
    have hs' := List.pairwise_cons.1 hs
    have ht' := List.pairwise_cons.1 ht
    have hab : a = b := by
      rcases List.mem_cons.1 (h.mem_iff.1 (List.mem_cons_self ..)) with e | m
      · exact e
      · rcases List.mem_cons.1 (h.mem_iff.2 (List.mem_cons_self ..)) with e | m2
        · exact e.symm
        · have h1 := ht'.1 a m
          have h2 := hs'.1 b m2
          omega
    subst hab
    rw [rows_eq hs'.2 ht'.2 (List.Perm.cons_inv h)]
theorem rows_srt {l : List AgR} (hn : (D.map (·.1)).Nodup) (hp : (l.map plR).Perm D) (hw : l.Pairwise fun x y => ¬ y.1 < x.1) : (l.map plR).Pairwise fun x y => x.1 < y.1 := by
  have hnd : ((l.map plR).map (·.1)).Nodup := (hp.map _).nodup_iff.2 hn
  have h1 : (l.map plR).Pairwise fun x y => ¬ y.1 < x.1 := List.pairwise_map.2 hw
  exact (h1.and (List.pairwise_map.1 hnd)).imp fun ⟨h, hne⟩ => by omega
/-! ### Rows of agents -/
structure RR (W : World) (L : List AgR) (a : Option Addr) (n c : Nat) : Prop where
  sl : SlE W 3 agRE L a n c
  v1 : ∀ x ∈ L, SlE W 3 partE x.2.1.1 x.2.2.1.1 x.2.2.1.2.1 x.2.2.1.2.2
  v2 : ∀ x ∈ L, SlE W 3 partE x.2.1.2 x.2.2.2.1 x.2.2.2.2.1 x.2.2.2.2.2
theorem RR.keep {L : List AgR} {a : Option Addr} {n c : Nat} (h : RR W L a n c) (hk : KeepC W W') : RR W' L a n c := ⟨sle_keepC h.sl hk, fun x hx => sle_keepC (h.v1 x hx) hk, fun x hx => sle_keepC (h.v2 x hx) hk⟩
theorem c52 {L1 L2 : List AgR} {a a2 : Option Addr} {n c n2 c2 : Nat} (W : World) (h1 : RR W L1 a n c) (h2 : RR W L2 a2 n2 c2) : Ret Try.prog 52 #[.slice a n c, .slice a2 n2 c2] W (.bool (decide (L1.map plR = L2.map plR))) := by
  intro R h
  refine f52_calls a n c a2 n2 c2 W R ?_
  unfold f52_vc
  have hn := h1.sl.len_le
  have e1 := h1.sl.1
  have e2 := h2.sl.1
  refine brN (fun hne => leaf h (At.refl W) ?_) (fun heq => ?_)
  · rw [decide_eq_false fun e => hne (by have := congrArg List.length e; simp only [List.length_map] at this; rw [e1, e2, this])]
  · have hll : L1.length = L2.length := by omega
    refine ⟨fun s W' => At W [] W' ∧ ∃ i : Nat, s.1 = i ∧ i ≤ L1.length ∧ (L1.take i).map plR = (L2.take i).map plR, fun s _ => (n - s.1).toNat, ⟨At.refl W, 0, rfl, Nat.zero_le _, rfl⟩, ?_⟩
    rintro x3 w4 ⟨hA, i, hi, hil, ht⟩
    simp only at hi
    subst hi
    refine brD (fun hlt => ?_) (fun hge => leaf h hA ?_)
    · obtain ⟨x, hx⟩ : ∃ x, L1[i]? = some x := ⟨_, List.getElem?_eq_getElem (by omega)⟩
      obtain ⟨y, hy⟩ : ∃ x, L2[i]? = some x := ⟨_, List.getElem?_eq_getElem (by omega)⟩
      have r1 : ∀ {W'}, Bel W W' → ∃ ad, Gives Try.prog (Instr.indexAt 81 (.slice a n c) (.int .i64 (i : Int))) (.pointer (some ad)) ∧ Elt W' ad (agRE x) := fun hb => by
        obtain ⟨ad, g1, el, _⟩ := elt_at (P := Try.prog) (k := .i64) (t := 81) (h1.sl.call hb) hx (e := 89) (by kernel_rfl) (by kernel_rfl)
        exact ⟨ad, g1, el⟩
      have r2 : ∀ {W'}, Bel W W' → ∃ ad, Gives Try.prog (Instr.indexAt 81 (.slice a2 n2 c2) (.int .i64 (i : Int))) (.pointer (some ad)) ∧ Elt W' ad (agRE y) := fun hb => by
        obtain ⟨ad, g1, el, _⟩ := elt_at (P := Try.prog) (k := .i64) (t := 81) (h2.sl.call hb) hy (e := 89) (by kernel_rfl) (by kernel_rfl)
        exact ⟨ad, g1, el⟩
      have bad : ∀ {gs w'}, plR x ≠ plR y → At W gs w' → R (.returned (.bool false)) w' := fun hne hA => by
        rw [decide_eq_false fun e => hne (by
          have := congrArg (·[i]?) e
          simp only [List.getElem?_map, hx, hy, Option.map_some, Option.some.injEq] at this
          exact this)] at h
        exact leaf h hA rfl
      obtain ⟨ad, g1, el⟩ := r1 hA.below
      obtain ⟨ad2, g2, el2⟩ := r2 hA.below
      have hxm := List.mem_of_getElem? hx
      have hym := List.mem_of_getElem? hy
      refine ⟨ad, g1, _, el.one (by kernel_rfl) (by simp), ad2, g2, _, el2.one (by kernel_rfl) (by simp), brN (fun hne w9 hb9 => bad (fun e => hne (congrArg (·.1) e)) (hA.call hb9)) (fun q1 => ?_)⟩
      refine ⟨ad, g1, _, _, _, (el.sub (o := 1) (by decide)).one (by kernel_rfl) (by simp), ad2, g2, _, _, _, (el2.sub (o := 1) (by decide)).one (by kernel_rfl) (by simp), fun w18 hb18 => ?_⟩
      have hA := hA.call hb18
      refine at_callb hA (c82 w18 ((h1.v1 x hxm).call hA.below) ((h2.v1 y hym).call hA.below)) fun w20 hA hk hb20 => ⟨_, rfl, ?_⟩
      have e1' := el.below (hb18.trans hb20)
      have e2' := el2.below (hb18.trans hb20)
      refine ⟨e2'.one (by kernel_rfl) (by simp), e1'.one (by kernel_rfl) (by simp), brNB (fun hno => bad (fun e => of_decide_eq_false hno (congrArg (·.2.1) e)) hA) (fun hy1 => ?_)⟩
      refine ⟨ad, g1, _, _, _, (e1'.sub (o := 2) (by decide)).one (by kernel_rfl) (by simp), ad2, g2, _, _, _, (e2'.sub (o := 2) (by decide)).one (by kernel_rfl) (by simp), ?_⟩
      refine at_callb hA (c82 w20 ((h1.v2 x hxm).call hA.below) ((h2.v2 y hym).call hA.below)) fun w31 hA hk hb31 => ⟨_, rfl, ?_⟩
      refine ⟨(e2'.below hb31).one (by kernel_rfl) (by simp), (e1'.below hb31).one (by kernel_rfl) (by simp), brNB (fun hno => bad (fun e => of_decide_eq_false hno (congrArg (·.2.2) e)) hA) (fun hy2 => ?_)⟩
      rw [succ_i i (by omega)]
      refine ⟨⟨hA, i + 1, rfl, by omega, ?_⟩, by simp only; omega⟩
      have hxy : plR x = plR y := Prod.ext q1 (Prod.ext (of_decide_eq_true hy1) (of_decide_eq_true hy2))
      rw [List.take_add_one, List.take_add_one, hx, hy, List.map_append, List.map_append, ht]
      simp only [Option.toList_some, List.map_cons, List.map_nil, hxy]
    · rw [show i = L1.length by omega, List.take_length, hll, List.take_length] at ht
      rw [decide_eq_true ht]
/-- What All told stays. -/
theorem AN.low {W0 : World} {x : AgR} (h : AN W0 W x) (hc : Chg N W W') (hN : ∀ b, N b → b < W0.heap.size) : AN W0 W' x := by
  have one : ∀ {l : List PartT} {s : Sl3}, VN W0 W l s → VN W0 W' l s := fun {l s} hv => by
    have hno : ∀ ad, s.1 = some ad → ¬ N ad.block := fun ad hb hn => by
      have := hv.2 ad hb
      have := hN _ hn
      omega
    refine ⟨⟨sle_chg hv.1.1 hc hno, fun ad hb => ?_⟩, hv.2⟩
    obtain ⟨cur, hcur⟩ := hv.1.2 ad hb
    exact ⟨cur, (hc.block _ (Array.getElem?_eq_some_iff.1 hcur).1 (hno ad hb)).trans hcur⟩
  exact ⟨one h.1, one h.2⟩
theorem own_low {W0 : World} {l : List AgR} {v : Value} (h : OwnL W0 [] W 89 3 agRE v l) (hc : Chg N W W') (hN : ∀ b, N b → b < W0.heap.size) : OwnL W0 [] W' 89 3 agRE v l := h.chg hc fun k hk hn => by
  have := h.mine k hk
  have := hN k hn
  simp only [noB, or_false] at *
  omega
theorem an_rr {W0 : World} {l : List AgR} {a : Option Addr} {n c : Nat} (h : OwnL W0 [] W 89 3 agRE (.slice a n c) l) (hv : ∀ x ∈ l, AN W0 W x) : RR W l a n c := ⟨h.sl fun _ _ => rfl, fun x hx => (hv x hx).1.1.1, fun x hx => (hv x hx).2.1.1⟩
/-! ### The acts -/
theorem at_do {K : Ending → World → Prop} (hA : At w [] W) (h : AgX W (fun b => w.heap.size ≤ b) g cap most q) {L : List AcR} {a : Option Addr} {n c : Nat} (har : CR w L a n c) {x : AcR} (hx : x ∈ L)
    (hK : ∀ w', At w [] w' → AgX w' (fun b => w.heap.size ≤ b) g cap most (doD cap most q x.1.1 x.1.2.1 x.1.2.2.1 x.1.2.2.2).2 → K (.returned (biV (doD cap most q x.1.1 x.1.2.1 x.1.2.2.1 x.1.2.2.2).1)) w') : Calls Try.prog 42 #[ptr g, .agg #[.int .i64 x.1.1, .int .i64 x.1.2.1, slV x.2.1, slV x.2.2]] W K := by
  have hc := c42 h x.1.1 x.1.2.1 (sle_keepC (har.v1 x hx) (KeepC.of_bel hA.below)) (sle_keepC (har.v2 x hx) (KeepC.of_bel hA.below)) fun W' hc => sle_keepC (har.v1 x hx) (KeepC.of_bel (hA.step hc fun b _ h => .inl h).below)
  refine at_callF hA hc (fun b _ e => .inl e) (fun _ hb => by cases hb) fun v w' hA' hk hch ⟨e, hX⟩ => ?_
  subst e
  refine hK w' hA' (hX.mono fun b _ hb => ?_)
  have := hA.size
  rcases hb with h | h
  · exact h
  · omega
theorem law8 {acts : List AcR} {a : Option Addr} {n c : Nat} (id : Int) {V : List PartT} {va : Option Addr} {vn vc : Nat} (w : World) (har : CR w acts a n c) (hV : SlE w 3 partE V va vn vc) : Ret Try.prog 8 #[.slice a n c, .int .i64 id, .slice va vn vc] w (.bool true) := by
  intro R hR
  refine f8_calls a n c id va vn vc w R ?_
  unfold f8_vc
  have hn := har.sl.len_le
  have hl0 := har.sl.1
  refine at_callq (At.refl w) (c38 w har) fun v w2 hA _ hb2 ⟨b, e, hfew⟩ => ?_
  subst e
  refine ⟨_, rfl, brNB (fun _ => leaf hR hA rfl) (fun hb => brD (fun _ => leaf hR hA rfl) (fun _ => ?_))⟩
  have hfew := hfew hb
  refine at_callq hA (c39 4 9007199254740992 w2) fun v w5 hA _ hb5 hq => ?_
  rcases hq with ⟨hlt, _⟩ | ⟨_, g, r, e, ht, hg, hr⟩
  · exact absurd hlt (by decide)
  subst e
  have hs2 := hb2.size
  have hX : AgX w5 (fun b => w.heap.size ≤ b) g 4 9007199254740992 (zA, zA, []) := ⟨r, [], ht, rfl, by
    rintro b (rfl | rfl | ⟨x, hx, _⟩)
    · omega
    · omega
    · cases hx⟩
  refine ⟨_, rfl, fun v W' => At w [] W' ∧ ∃ (i : Nat) (q : AgQ), v.1 = i ∧ i ≤ acts.length ∧ AgX W' (fun b => w.heap.size ≤ b) g 4 9007199254740992 q ∧ Good 4 9007199254740992 q, fun v _ => (n - v.1).toNat, ⟨hA, 0, _, rfl, Nat.zero_le _, hX, Good.new (by decide) (by decide) (by decide)⟩, ?_⟩
  rintro x9 w10 ⟨hA, i, q, hi, hil, hX, hG⟩
  simp only at hi
  subst hi
  refine brD (fun hlt => ?_) (fun hge => ?_)
  · obtain ⟨x, hx⟩ : ∃ x, acts[i]? = some x := ⟨_, List.getElem?_eq_getElem (by omega)⟩
    obtain ⟨ad, g1, el, _⟩ := elt_at (P := Try.prog) (k := .i64) (t := 76) (har.sl.call hA.below) hx (e := 86) (by kernel_rfl) (by kernel_rfl)
    refine ⟨ad, g1, _, _, _, _, _, _, _, _, el.agg 4 (by kernel_rfl) (by kernel_rfl) (by simp) (by simp), ?_⟩
    refine at_do hA hX har (List.mem_of_getElem? hx) fun w21 hA hX => ⟨_, _, rfl, ?_⟩
    rw [succ_i i (by omega)]
    exact ⟨⟨hA, i + 1, _, rfl, by omega, hX, (hG.do _ _ _ _).1⟩, by simp only; omega⟩
  · have hlen : q.2.2.length ≤ 1000 := by have := hG.lc; omega
    have hX := hX.mono (B' := fun b => w.heap.size ≤ b ∧ b < w10.heap.size) fun b hb h => ⟨h, hb⟩
    refine at_callq hA (c41 hX hlen) fun v w25 hA _ hb25 ⟨l1, a1, k1, e, ho1, hv1, hp1, hw1⟩ => ?_
    subst e
    refine ⟨_, _, _, rfl, ?_⟩
    have hX := hX.call hb25
    obtain ⟨r', m', hS, hm1, hm2⟩ := hX
    refine at_callb hA (c48 hS) fun w30 hA _ hb30 => ⟨_, _, _, _, rfl, fun n35 hn35 w36 hev hu => ?_⟩
    have hs25 := hb25.size
    have hs30 := hb30.size
    have hb36 := hev.bel (by simpa using hn35)
    have hA := hA.evo (by have := hA.size; simp; omega) hev hu
    have hX : AgX w36 (fun b => w.heap.size ≤ b ∧ b < w10.heap.size) g 4 9007199254740992 q := (show AgX w25 _ g 4 9007199254740992 q from ⟨r', m', hS, hm1, hm2⟩).call (hb30.trans hb36)
    have hno : ∀ b ∈ [n35], ¬ (w.heap.size ≤ b ∧ b < w10.heap.size) := fun b hb hh => by simp at hb; omega
    have hV36 := sle_keepC hV (KeepC.of_bel hA.below)
    have ho1 := ho1.call (hb30.trans hb36)
    have hv1 : ∀ x ∈ l1, AN w10 w36 x := fun x hx => (hv1 x hx).call (hb30.trans hb36)
    have hs1 := rows_srt hG.nd hp1 hw1
    refine at_callF hA (c45 hX id hV36) (fun b _ e => .inl e.1) hno fun v w38 hA hk hch ⟨e, hX⟩ => ?_
    subst e
    have ho1 := own_low ho1 hch fun b h => h.2
    have hv1 : ∀ x ∈ l1, AN w10 w38 x := fun x hx => (hv1 x hx).low hch fun b h => h.2
    -- the end
    have fin : ∀ {gs : List Nat} {w66 : World} {K : Ending → World → Prop}, At w gs w66 → AgX w66 (fun b => w.heap.size ≤ b ∧ b < w10.heap.size) g 4 9007199254740992 q → OwnL w10 [] w66 89 3 agRE (.slice a1 l1.length k1) l1 → (∀ x ∈ l1, AN w10 w66 x) →
        (∀ (a2 : Option Addr) (n2 c2 : Nat) (w68 : World), At w gs w68 → Keeps gs w66 w68 → AgX w68 (fun b => w.heap.size ≤ b ∧ b < w10.heap.size) g 4 9007199254740992 q → Ret Try.prog 52 #[.slice a2 n2 c2, .slice a1 l1.length k1] w68 (.bool true) → K (.returned (.slice a2 n2 c2)) w68) → Calls Try.prog 41 #[ptr g] w66 K := by
      intro gs w66 K hA hX ho hv hK
      refine at_callq hA (c41 hX hlen) fun v w68 hA hk hb68 ⟨l2, a2, k2, e, ho2, hv2, hp2, hw2⟩ => ?_
      subst e
      refine hK _ _ _ _ hA hk (hX.call hb68) ?_
      have hs2 := rows_srt hG.nd hp2 hw2
      have := c52 w68 (an_rr ho2 hv2) (an_rr (ho.call hb68) fun x hx => (hv x hx).call hb68)
      rwa [decide_eq_true (rows_eq hs2 hs1 (hp2.trans hp1.symm))] at this
    refine ⟨_, rfl, hk, brE (fun e0 => ?_) (fun ne => ?_)⟩
    · obtain ⟨hvV, hadd, had, hgv⟩ := take_back hG e0
      obtain ⟨r2, m2, hS2, hm21, hm22⟩ := hX
      refine at_callb hA (c48 hS2) fun w41 hA hk hb41 => ⟨_, _, _, _, rfl, hk, ?_⟩
      refine at_callb hA (c50' w41 (sle_keepC hV (KeepC.of_bel hA.below))) fun w47 hA hk hb47 => ⟨_, _, _, _, rfl, hk, ?_⟩
      refine at_callb hA (c49e _ (ofA V) w47) fun w53 hA hk hb53 => ⟨_, _, _, _, _, rfl, hk, fun n59 hn59 => brNB (fun e => absurd hadd (of_decide_eq_false e)) (fun _ => brNB (fun e => ?_) (fun _ w62 hev hu => ?_))⟩
      · exfalso
        rw [had] at e
        simp at e
      · have hb62 := hev.bel (by simpa using hn59)
        have hs53 := (hb41.trans hb47).trans hb53
        have hA := hA.evo (by have := hA.size; simp; omega) hev hu
        have hb3862 := hs53.trans hb62
        have hX : AgX w62 (fun b => w.heap.size ≤ b ∧ b < w10.heap.size) g 4 9007199254740992 (takeD q id V).2 := (show AgX w38 _ g 4 9007199254740992 (takeD q id V).2 from ⟨r2, m2, hS2, hm21, hm22⟩).call hb3862
        have hc51 := c51 hX id (sle_keepC hV (KeepC.of_bel hA.below))
        rw [hgv] at hc51
        have hs38 := hch.size
        have := hs53.size
        have := hb36.size
        refine at_callF hA hc51 (fun b _ e => .inl e.1) (fun b hb hh => by simp at hb; omega) fun v w64 hA hk hch2 ⟨e, hX⟩ => ?_
        subst e
        refine ⟨_, rfl, hk, brN (fun e => absurd rfl e) (fun _ w66 hb66 hu => ?_)⟩
        have hA : At w _ w66 := ⟨(hA.call hb66).chg, hu⟩
        refine fin hA (hX.call hb66) ((own_low (ho1.call hb3862) hch2 fun b h => h.2).call hb66) (fun x hx => (((hv1 x hx).call hb3862).low hch2 fun b h => h.2).call hb66) fun a2 n2 c2 w68 hA hk hX hc => ⟨_, _, _, rfl, hk, ?_⟩
        refine at_callb hA hc fun w73 hA hk hb73 => ⟨_, rfl, hk, brB (fun _ => ?_) (fun e => by cases e)⟩
        obtain ⟨r3, m3, hS3, _⟩ := hX.call hb73
        refine at_callb hA (c48 hS3) fun w76 hA hk _ => ⟨_, _, _, _, rfl, hk, brB (fun _ => ?_) (fun e => by simp at e)⟩
        exact at_callb hA (c47 w76) fun w82 hA hk _ => ⟨_, rfl, hk, leaf hR hA rfl⟩
    · rw [takeD_ne ne] at hX
      intro w84 hb84 hu
      have hA : At w _ w84 := ⟨(hA.call hb84).chg, hu⟩
      refine fin hA (hX.call hb84) (ho1.call hb84) (fun x hx => (hv1 x hx).call hb84) fun a2 n2 c2 w86 hA hk hX hc => ⟨_, _, _, rfl, hk, ?_⟩
      refine at_callb hA hc fun w91 hA hk hb91 => ⟨_, rfl, hk, brB (fun _ => ?_) (fun e => by cases e)⟩
      obtain ⟨r3, m3, hS3, _⟩ := hX.call hb91
      refine at_callb hA (c48 hS3) fun w94 hA hk _ => ⟨_, _, _, _, rfl, hk, brB (fun _ => ?_) (fun e => by simp at e)⟩
      exact at_callb hA (c47 w94) fun w100 hA hk _ => ⟨_, rfl, hk, leaf hR hA rfl⟩
end Go.Vc.J

/- The reference's Launch and Sum; what works at all. -/
set_option maxRecDepth 20000
set_option maxHeartbeats 1000000
namespace Go.Vc.J
open Go Go.Vc Go.Vc.V Go.RowKit Go.Proofs Vct

variable {w W W' W2 : World} {M N : Nat → Prop} {gs ds : List Nat}

instance (x y : TkT) : Decidable (lexT x y) := by unfold lexT; infer_instance
def insStep (x : TR) (s : List TR × Bool) (y : TR) : List TR × Bool := if s.2 = false ∧ lexT x.1 y.1 then (s.1 ++ [x, y], true) else (s.1 ++ [y], s.2)
def insF (x : TR) (L : List TR) : List TR := if (L.foldl (insStep x) ([], false)).2 = true then (L.foldl (insStep x) ([], false)).1 else (L.foldl (insStep x) ([], false)).1 ++ [x]
theorem ins_len (x : TR) : ∀ (L : List TR) (s : List TR × Bool), (L.foldl (insStep x) s).1.length ≤ s.1.length + 2 * L.length
  | [], s => by simp
  | y :: L, s => by
    have := ins_len x L (insStep x s y)
    rw [List.foldl_cons]
    have h2 : (insStep x s y).1.length ≤ s.1.length + 2 := by
      unfold insStep
      split <;> simp
    simp only [List.length_cons]
    omega
/-- What the reference's Launch answers. -/
def refE (cap : Int) (L : List TR) (t : TkT) : Int := if ¬ okT t then 41 else if 0 ≤ ixP (isK t.1 t.2.1) L 0 then 42 else if cap ≤ L.length then 32 else 0
theorem c29 {L : List TR} {a : Option Addr} {n c : Nat} (cap : Int) (x : TR) (W : World) (h : SlE W 4 trE L a n c) (hx : VecR W x) (hl : L.length ≤ 1000) : RetQ Try.prog 29 #[mV cap a n c, trV x] W fun v w' =>
    (refE cap L x.1 ≠ 0 ∧ v = .tuple #[mV cap a n c, .int .i64 (refE cap L x.1)]) ∨ (refE cap L x.1 = 0 ∧ ∃ a' c', v = .tuple #[mV cap a' (insF x L).length c', .int .i64 0] ∧ OwnL W [] w' 48 4 trE (.slice a' (insF x L).length c') (insF x L)) := by
  intro R hR
  refine f29_calls cap a n c x.1.1 x.1.2.1 x.1.2.2.1 x.2.1 x.2.2.1 x.2.2.2 W R ?_
  unfold f29_vc
  have hx : SlE W 3 partE x.1.2.2.2 x.2.1 x.2.2.1 x.2.2.2 := hx
  have hsn := hx.1
  have hn := h.len_le
  intro n1 hn1 n2 hn2 n3 hn3
  have out : ∀ {e : Int} {gs w'}, refE cap L x.1 = e → e ≠ 0 → At W gs w' → R (.returned (.tuple #[mV cap a n c, .int .i64 e])) w' := fun he hne hA => hR _ _ hA.below (.inl ⟨by rw [he]; exact hne, by rw [he]⟩)
  have nok : ¬ okT x.1 → refE cap L x.1 = 41 := fun hh => if_pos hh
  have A0 := At.refl W
  have ev : ∀ {w1 w2 gs gs'}, At W gs w1 → Evo [n3] w1 w2 → Under gs' w2 → At W gs' w2 := fun hA hev hu => hA.evo (by intro d hd; simp at hd; omega) hev hu
  refine brD (fun h1 w4 hev hu => out (nok fun hh => by have := hh.1; omega) (by decide) (ev A0 hev hu)) (fun h1 => brD (fun h2 w4 hev hu => out (nok fun hh => by have := hh.2.1; omega) (by decide) (ev A0 hev hu)) (fun h2 => brD (fun h3 w4 hev hu => out (nok fun hh => by have := hh.2.2.1; omega) (by decide) (ev A0 hev hu)) (fun h3 => brE (fun h4 w4 hev hu => out (nok fun hh => hh.2.2.2.1 (List.eq_nil_of_length_eq_zero (show x.1.2.2.2.length = 0 by omega))) (by decide) (ev A0 hev hu)) (fun h4 w8 hb8 hu => ?_))))
  have hA : At W [n1, n2, n3] w8 := ⟨(A0.call hb8).chg, hu⟩
  refine at_callb hA (c83 w8 (sle_keepC hx (KeepC.of_bel hA.below))) fun w10 hA hk hb10 => ⟨_, rfl, hk, brNB (fun h5 w12 hev hu => out (nok fun hh => by have := hh.2.2.2.2; rw [h5] at this; cases this) (by decide) (ev hA hev hu)) (fun h5 => ?_)⟩
  have hok : okT x.1 := ⟨by omega, by omega, by omega, fun e => h4 (by rw [hsn, e]; rfl), h5⟩
  refine at_callb hA (c23 cap x.1.1 x.1.2.1 w10 (h.call hA.below)) fun w14 hA hk hb14 => ⟨_, rfl, hk, brD (fun h6 w16 hev hu => out (by unfold refE; rw [if_neg (fun hh => hh hok), if_pos h6]) (by decide) (ev hA hev hu)) (fun h6 => brD (fun h7 w17 hev hu => out (by unfold refE; rw [if_neg (fun hh => hh hok), if_neg (by omega), if_pos (by omega)]) (by decide) (ev hA hev hu)) (fun h7 => ?_))⟩
  have he0 : refE cap L x.1 = 0 := by unfold refE; rw [if_neg (fun hh => hh hok), if_neg (by omega), if_neg (by omega)]
  have hsz := hA.size
  intro n18 hn18
  have hd18 : ∀ {w1 w2 gs gs'}, At W gs w1 → Evo [n18] w1 w2 → Under gs' w2 → At W gs' w2 := fun hA hev hu => hA.evo (by intro d hd; simp at hd; omega) hev hu
  refine ⟨fun v W' => At W [n1, n2, n3, n18] W' ∧ v.2.2.1 = cap ∧ ∃ k : Nat, v.2.1 = k ∧ k ≤ L.length ∧ OwnL W [n1, n2, n3, n18] W' 48 4 trE (.slice v.2.2.2.1.1 v.2.2.2.1.2.1 v.2.2.2.1.2.2) ((L.take k).foldl (insStep x) ([], false)).1 ∧ v.1 = ((L.take k).foldl (insStep x) ([], false)).2, fun v _ => ((n : Int) - v.2.1).toNat, fun w21 hev hu => ⟨hd18 hA hev hu, rfl, 0, rfl, Nat.zero_le _, OwnL.nil, rfl⟩, ?_⟩
  rintro b22 x23 x24 a25 n26 n27 w28 ⟨hA, hcap, k, hk, hkl, ho, hb⟩
  simp only at hcap hk ho hb
  subst hcap hk hb
  have hfl := ins_len x (L.take k) ([], false)
  rw [List.length_take] at hfl
  simp only [List.length_nil] at hfl
  refine brD (fun hlt => ?_) (fun hge => ?_)
  · obtain ⟨y, hy⟩ : ∃ x, L[k]? = some x := ⟨_, List.getElem?_eq_getElem (by omega)⟩
    obtain ⟨ad, g1, el, _⟩ := elt_at (P := Try.prog) (k := .i64) (t := 44) (h.call hA.below) hy (e := 48) (by kernel_rfl) (by kernel_rfl)
    refine ⟨ad, g1, _, _, _, _, _, _, el.agg 4 (by kernel_rfl) (by kernel_rfl) (by simp) (by simp), ?_⟩
    intro n36 hn36
    have hsz28 := hA.size
    have htk : (L.take (k + 1)).foldl (insStep x) ([], false) = insStep x ((L.take k).foldl (insStep x) ([], false)) y := by
      rw [List.take_add_one, hy, List.foldl_append]; rfl
    generalize hst : (L.take k).foldl (insStep x) ([], false) = st at ho htk hfl ⊢
    refine ⟨fun v W' => At W [n1, n2, n3, n18, n36] W' ∧ v.2.1 = x24 ∧ OwnL W [n1, n2, n3, n18, n36] W' 48 4 trE (.slice v.2.2.1.1 v.2.2.1.2.1 v.2.2.1.2.2) (if st.2 = false ∧ lexT x.1 y.1 then st.1 ++ [x] else st.1) ∧ v.1 = (if st.2 = false ∧ lexT x.1 y.1 then true else st.2), ?_, ?_⟩
    · have pass : ¬ (st.2 = false ∧ lexT x.1 y.1) → ∀ w62, Evo [n36] w28 w62 → Under [n1, n2, n3, n18, n36] w62 → At W [n1, n2, n3, n18, n36] w62 ∧ x24 = x24 ∧ OwnL W [n1, n2, n3, n18, n36] w62 48 4 trE (.slice a25 n26 n27) (if st.2 = false ∧ lexT x.1 y.1 then st.1 ++ [x] else st.1) ∧ st.2 = (if st.2 = false ∧ lexT x.1 y.1 then true else st.2) := fun hn w62 hev hu => by
        rw [if_neg hn, if_neg hn]
        have hb62 := hev.bel (by simpa using hn36)
        exact ⟨⟨(hA.call hb62).chg, hu⟩, rfl, (ho.more (gs' := [n1, n2, n3, n18, n36]) (by intro g h1 h2; simp at h1 h2; omega)).call hb62, rfl⟩
      have push : (st.2 = false ∧ lexT x.1 y.1) → ∀ w38, Evo [n36] w28 w38 → Under [n1, n2, n3, n18, n36] w38 → OpW Try.prog (valueS (Instr.buildSlice 44 1 #[(0, trV x)])) w38 fun v39 w40 => ∃ a41 n42 n43, v39 = .slice a41 n42 n43 ∧ Keeps [n1, n2, n3, n18, n36] w38 w40 ∧ OpW Try.prog (builtin .append #[44, 44] 44 #[false, false] #[.slice a25 n26 n27, .slice a41 n42 n43]) w40 fun v44 w45 => ∃ a46 n47 n48, v44 = .slice a46 n47 n48 ∧ Keeps [n1, n2, n3, n18, n36] w40 w45 ∧ ∀ w49, Evo [n18] w45 w49 → Under [n1, n2, n3, n18, n36] w49 →
          At W [n1, n2, n3, n18, n36] w49 ∧ x24 = x24 ∧ OwnL W [n1, n2, n3, n18, n36] w49 48 4 trE (.slice a46 n47 n48) (if st.2 = false ∧ lexT x.1 y.1 then st.1 ++ [x] else st.1) ∧ true = (if st.2 = false ∧ lexT x.1 y.1 then true else st.2) := fun hy w38 hev hu => by
        rw [if_pos hy, if_pos hy]
        have hb38 := hev.bel (by simpa using hn36)
        have hA : At W [n1, n2, n3, n18, n36] w38 := ⟨(hA.call hb38).chg, hu⟩
        have ho := (ho.more (gs' := [n1, n2, n3, n18, n36]) (by intro g h1 h2; simp at h1 h2; omega)).call hb38
        refine opw_push (f := trE) (e' := 48) (bytes := 48) hA ho x (by kernel_rfl) (by kernel_rfl) rfl (fun _ _ => rfl) (tr_one _) (by omega) (by decide) fun a2 c2 w45 hA ho2 _ _ w49 hev hu => ?_
        exact ⟨hd18 hA hev hu, rfl, ho2.evo (by intro d hd hd2; simp at hd hd2; omega) hev, rfl⟩
      refine brNB (fun hs => brD (fun h1 => push ⟨hs, (.inl h1)⟩) (fun h1 => brE (fun h2 => brD (fun h3 => push ⟨hs, (.inr ⟨h2.symm, h3⟩)⟩) (fun h3 => pass (fun hh => by have := hh.2; unfold lexT at this; omega))) (fun h2 => pass (fun hh => by have := hh.2; unfold lexT at this; omega)))) (fun hs => pass (fun hh => by rw [hh.1] at hs; cases hs))
    · rintro b65 x66 a67 n68 n69 w70 ⟨hA, hc, ho, hb⟩
      simp only at hc ho hb
      subst hc
      have hl2 : (if st.2 = false ∧ lexT x.1 y.1 then st.1 ++ [x] else st.1).length ≤ 2 * k + 1 := by
        split
        · rw [List.length_append, List.length_singleton]; omega
        · omega
      refine opw_push (f := trE) (e' := 48) (bytes := 48) hA ho y (by kernel_rfl) (by kernel_rfl) rfl (fun _ _ => rfl) (tr_one _) (by omega) (by decide) fun a2 c2 w77 hA ho2 _ _ w81 hev hu => ?_
      rw [succ_i k (by omega)]
      have hA8 := hd18 hA hev hu
      have ho8 := ho2.evo (by intro d hd hd2; simp at hd hd2; omega) hev
      refine ⟨⟨hA8.sub (by simp), rfl, k + 1, rfl, by omega, ?_, ?_⟩, by simp only; omega⟩
      · have e : (if st.2 = false ∧ lexT x.1 y.1 then st.1 ++ [x] else st.1) ++ [y] = ((L.take (k + 1)).foldl (insStep x) ([], false)).1 := by
          rw [htk]
          unfold insStep
          split <;> simp
        simp only
        rw [← e]
        exact ho8.more (by simp)
      · simp only
        rw [hb, htk]
        unfold insStep
        split <;> rfl
  · have hkL : k = L.length := by omega
    rw [hkL, List.take_length] at ho hfl ⊢
    generalize hst : L.foldl (insStep x) ([], false) = st at ho hfl ⊢
    have hins : insF x L = if st.2 = true then st.1 else st.1 ++ [x] := by unfold insF; rw [hst]
    refine ⟨fun v W' => At W [n1, n2, n3, n18] W' ∧ v.1 = x24 ∧ OwnL W [n1, n2, n3, n18] W' 48 4 trE (.slice v.2.1.1 v.2.1.2.1 v.2.1.2.2) (insF x L), ?_, ?_⟩
    · rw [hins]
      refine brNB (fun hs => ?_) (fun hs => ?_)
      · rw [if_neg (by rw [hs]; decide)]
        refine opw_push (f := trE) (e' := 48) (bytes := 48) hA ho x (by kernel_rfl) (by kernel_rfl) rfl (fun _ _ => rfl) (tr_one _) (by omega) (by decide) fun a2 c2 w89 hA ho2 _ _ w93 hev hu => ?_
        exact ⟨hd18 hA hev hu, rfl, ho2.evo (by intro d hd hd2; simp at hd hd2; omega) hev⟩
      · rw [if_pos hs]
        exact ⟨hA, rfl, ho⟩
    · rintro x94 a95 n96 n97 w98 ⟨hA, hc, ho⟩ w99 hev hu
      simp only at hc ho
      subst hc
      have hA9 := ev hA hev hu
      have ho9 := ho.evo (by intro d hd hd2; simp at hd hd2; omega) hev
      have hlen := ho9.len
      subst hlen
      exact hR _ _ hA9.below (.inr ⟨he0, _, _, rfl, ho9.more (by simp)⟩)
end Go.Vc.J

/- Tasks, plainly: a table and a sorted list say the same. -/
set_option maxRecDepth 20000
set_option maxHeartbeats 1000000
namespace Go.Vc.J
open Go Go.Vc Go.Vc.V Go.RowKit Go.Proofs Vct

/-! ### The sorted list -/
abbrev SrtT (D : List TkT) : Prop := D.Pairwise lexT
theorem lexT_irrefl (a : TkT) : ¬ lexT a a := by unfold lexT; omega
theorem lexT_trans {a b c : TkT} (h : lexT a b) (k : lexT b c) : lexT a c := by unfold lexT at *; omega
theorem lexT_key {a b : TkT} (h : ¬ lexT a b) (k : ¬ lexT b a) : keyT a = keyT b := by
  unfold lexT at h k
  unfold keyT
  have h1 : a.1 = b.1 := by omega
  have h2 : a.2.1 = b.2.1 := by omega
  rw [h1, h2]
theorem lexT_ne {a b : TkT} (h : lexT a b) : keyT a ≠ keyT b := fun e => by
  unfold keyT at e
  have h1 := congrArg (·.1) e
  have h2 := congrArg (·.2) e
  simp only at h1 h2
  unfold lexT at h
  omega
theorem srt_ext : ∀ {s t : List TkT}, SrtT s → SrtT t → s.Perm t → s = t
  | [], t, _, _, h => by rw [List.nil_perm.1 h]
  | a :: s, [], _, _, h => by have := h.length_eq; simp at this
  | a :: s, b :: t, hs, ht, h => by
    have hs' := List.pairwise_cons.1 hs
    have ht' := List.pairwise_cons.1 ht
    have hab : a = b := by
      rcases List.mem_cons.1 (h.mem_iff.1 (List.mem_cons_self ..)) with e | m
      · exact e
      · rcases List.mem_cons.1 (h.mem_iff.2 (List.mem_cons_self ..)) with e | m2
        · exact e.symm
        · exact absurd (lexT_trans (ht'.1 a m) (hs'.1 b m2)) (lexT_irrefl _)
    subst hab
    rw [srt_ext hs'.2 ht'.2 (List.Perm.cons_inv h)]
/-- What does not fall, with keys once each, rises. -/
theorem srt_of {D D0 : List TkT} (hw : D.Pairwise fun x y => ¬ lexT y x) (hp : D.Perm D0) (h0 : SrtT D0) : SrtT D := by
  have hnd : (D.map keyT).Nodup := by
    have h1 : (D0.map keyT).Nodup := List.pairwise_map.2 (h0.imp fun h => lexT_ne h)
    exact (hp.map keyT).nodup_iff.2 h1
  have h2 := List.pairwise_map.1 hnd
  exact (hw.and h2).imp fun ⟨h, hne⟩ => Classical.byContradiction fun hh => hne (lexT_key hh h)
theorem srt_filter {D : List TkT} {p : TkT → Bool} (h : SrtT D) : SrtT (D.filter p) := h.sublist List.filter_sublist
theorem those_eq' {D D0 : List TkT} {p : TkT → Bool} (hw : D.Pairwise fun x y => ¬ lexT y x) (h0 : SrtT D0) {E : List TkT} (hE : E.Perm D0) (hp : D.Perm (E.filter p)) : D = D0.filter p := by
  have hp2 : D.Perm (D0.filter p) := hp.trans (hE.filter p)
  exact srt_ext (srt_of hw hp2 (srt_filter h0)) (srt_filter h0) hp2

/-! ### Putting in -/
theorem fold_done (x : TR) : ∀ (L : List TR) (o : List TR), L.foldl (insStep x) (o, true) = (o ++ L, true)
  | [], o => by simp
  | y :: L, o => by
    rw [List.foldl_cons]
    have : insStep x (o, true) y = (o ++ [y], true) := by
      unfold insStep
      rw [if_neg (fun h => by cases h.1)]
    rw [this, fold_done x L]
    simp
abbrev notA (x : TR) (y : TR) : Bool := !decide (lexT x.1 y.1)
theorem fold_open (x : TR) : ∀ (L : List TR) (o : List TR), L.foldl (insStep x) (o, false) = if L.all (notA x) = true then (o ++ L, false) else (o ++ L.takeWhile (notA x) ++ x :: L.dropWhile (notA x), true)
  | [], o => by simp
  | y :: L, o => by
    rw [List.foldl_cons]
    by_cases hy : lexT x.1 y.1
    · have : insStep x (o, false) y = (o ++ [x, y], true) := by
        unfold insStep
        rw [if_pos ⟨rfl, hy⟩]
      rw [this, fold_done]
      have hn : notA x y = false := by simp [hy]
      rw [if_neg (by simp [hn]), List.takeWhile_cons, List.dropWhile_cons, hn]
      simp
    · have : insStep x (o, false) y = (o ++ [y], false) := by
        unfold insStep
        rw [if_neg (fun h => hy h.2)]
      have hn : notA x y = true := by simp [hy]
      rw [this, fold_open x L]
      simp only [List.all_cons, hn, Bool.true_and, List.takeWhile_cons, List.dropWhile_cons, if_true]
      split <;> simp
theorem insF_eq (x : TR) (L : List TR) : insF x L = L.takeWhile (notA x) ++ x :: L.dropWhile (notA x) := by
  unfold insF
  rw [fold_open]
  by_cases h : L.all (notA x) = true
  · rw [if_pos h]
    simp only [Bool.false_eq_true, if_false, List.nil_append]
    have h1 : L.takeWhile (notA x) = L := by
      have := List.all_eq_true.1 h
      clear h
      induction L with
      | nil => rfl
      | cons y L ih =>
        rw [List.takeWhile_cons, if_pos (this y (by simp)), ih fun z hz => this z (by simp [hz])]
    have h2 : L.dropWhile (notA x) = [] := by
      have e := List.takeWhile_append_dropWhile (p := notA x) (l := L)
      rw [h1] at e
      simpa using e
    rw [h1, h2]
  · rw [if_neg h]
    simp
theorem insF_perm (x : TR) (L : List TR) : (insF x L).Perm (x :: L) := by
  rw [insF_eq]
  refine List.perm_middle.trans ?_
  rw [List.takeWhile_append_dropWhile]
theorem all_takeWhile {α : Type} (p : α → Bool) : ∀ (l : List α), ∀ x ∈ l.takeWhile p, p x = true
  | [], x, h => by cases h
  | y :: l, x, h => by
    rw [List.takeWhile_cons] at h
    split at h
    · rename_i hy
      rcases List.mem_cons.1 h with rfl | h
      · exact hy
      · exact all_takeWhile p l x h
    · cases h
theorem insF_srt {x : TR} {L : List TR} (h : SrtT (L.map (·.1))) (hk : ∀ y ∈ L, keyT y.1 ≠ keyT x.1) : SrtT ((insF x L).map (·.1)) := by
  have h' : L.Pairwise fun a b => lexT a.1 b.1 := List.pairwise_map.1 h
  refine List.pairwise_map.2 ?_
  rw [insF_eq]
  have e := List.takeWhile_append_dropWhile (p := notA x) (l := L)
  have hsp : (L.takeWhile (notA x) ++ L.dropWhile (notA x)).Pairwise fun a b => lexT a.1 b.1 := by rw [e]; exact h'
  obtain ⟨p1, p2, p3⟩ := List.pairwise_append.1 hsp
  have ht : ∀ a ∈ L.takeWhile (notA x), lexT a.1 x.1 := fun a ha => by
    have h1 : notA x a = true := all_takeWhile _ _ a ha
    have h2 : ¬ lexT x.1 a.1 := by simpa using h1
    have hm : a ∈ L := by rw [← e]; exact List.mem_append_left _ ha
    exact Classical.byContradiction fun hh => hk a hm (lexT_key hh h2)
  have hd : ∀ b ∈ L.dropWhile (notA x), lexT x.1 b.1 := fun b hb => by
    cases hdw : L.dropWhile (notA x) with
    | nil => rw [hdw] at hb; cases hb
    | cons z r =>
      have hz : lexT x.1 z.1 := by
        have := List.head?_dropWhile_not (notA x) L
        rw [hdw] at this
        simp at this
        exact this
      rw [hdw] at hb p2
      rcases List.mem_cons.1 hb with rfl | hb
      · exact hz
      · exact lexT_trans hz ((List.pairwise_cons.1 p2).1 b hb)
  refine List.pairwise_append.2 ⟨p1, List.pairwise_cons.2 ⟨hd, p2⟩, fun a ha b hb => ?_⟩
  rcases List.mem_cons.1 hb with rfl | hb
  · exact ht a ha
  · exact p3 a ha b hb

/-! ### Places -/
theorem ixP_spec {α : Type} {p : α → Bool} : ∀ (l : List α) (i : Nat), (ixP p l i = -1 ∧ ∀ x ∈ l, p x = false) ∨ ∃ (j : Nat) (x : α), ixP p l i = ((i + j : Nat) : Int) ∧ l[j]? = some x ∧ p x = true
  | [], i => .inl ⟨rfl, by simp⟩
  | y :: l, i => by
    rw [ixP]
    by_cases hy : p y = true
    · rw [if_pos hy]
      exact .inr ⟨0, y, by simp, by simp, hy⟩
    · rw [if_neg hy]
      rcases ixP_spec (p := p) l (i + 1) with ⟨h1, h2⟩ | ⟨j, x, h1, h2, h3⟩
      · refine .inl ⟨h1, fun x hx => ?_⟩
        rcases List.mem_cons.1 hx with rfl | hx
        · simpa using hy
        · exact h2 x hx
      · exact .inr ⟨j + 1, x, by rw [h1]; congr 1; omega, by simpa using h2, h3⟩
theorem isK_iff {f i : Int} {x : TR} : isK f i x = true ↔ keyT x.1 = (f, i) := by
  unfold isK keyT
  rw [decide_eq_true_iff, Prod.mk.injEq]

/-! ### Both together -/
/-- A table and a sorted list say the same. -/
structure Both (m : List (KyT × TR)) (L : List TR) : Prop where
  perm : (m.map (·.2.1)).Perm (L.map (·.1))
  srt : SrtT (L.map (·.1))
  ks : ∀ x ∈ m, x.1 = keyT x.2.1
  nd : (m.map (·.1)).Nodup
variable {m : List (KyT × TR)} {L : List TR} {cap : Int}
theorem Both.len (h : Both m L) : m.length = L.length := by simpa using h.perm.length_eq
theorem Both.some (h : Both m L) {k : KyT} {x : TR} (hx : mget k m = some x) : ∃ (j : Nat) (y : TR), ixP (isK k.1 k.2) L 0 = j ∧ L[j]? = some y ∧ y.1 = x.1 ∧ keyT x.1 = k := by
  have hm := mem_of_mget hx
  have hk : k = keyT x.1 := h.ks _ hm
  have hmem : x.1 ∈ L.map (·.1) := h.perm.mem_iff.1 (List.mem_map.2 ⟨_, hm, rfl⟩)
  obtain ⟨z, hz, hzx⟩ := List.mem_map.1 hmem
  rcases ixP_spec (p := isK k.1 k.2) L 0 with ⟨h1, h2⟩ | ⟨j, y, h1, h2, h3⟩
  · have := h2 z hz
    rw [isK_iff.2 (by rw [hzx]; exact hk.symm)] at this
    cases this
  · refine ⟨j, y, by simpa using h1, h2, ?_, hk.symm⟩
    have hy : keyT y.1 = keyT z.1 := by rw [isK_iff.1 h3, hzx]; exact hk
    have hnd : ((L.map (·.1)).map keyT).Nodup := List.pairwise_map.2 (h.srt.imp fun h => lexT_ne h)
    rw [List.map_map] at hnd
    have hyL : y ∈ L := List.mem_of_getElem? h2
    -- two elements with one key are one
    have uniq : ∀ {M : List TR}, (M.map (keyT ∘ fun x => x.1)).Nodup → ∀ a ∈ M, ∀ b ∈ M, keyT a.1 = keyT b.1 → a = b := by
      intro M hM a ha b hb e
      induction M with
      | nil => cases ha
      | cons c M ih =>
        rw [List.map_cons, List.nodup_cons] at hM
        rcases List.mem_cons.1 ha with ea | ha'
        · rcases List.mem_cons.1 hb with eb | hb'
          · rw [ea, eb]
          · exact (hM.1 (List.mem_map.2 ⟨b, hb', by rw [← ea]; exact e.symm⟩)).elim
        · rcases List.mem_cons.1 hb with eb | hb'
          · exact (hM.1 (List.mem_map.2 ⟨a, ha', by rw [← eb]; exact e⟩)).elim
          · exact ih hM.2 ha' hb'
    rw [uniq hnd y hyL z hz hy, hzx]
theorem Both.none (h : Both m L) {k : KyT} (hx : mget k m = Option.none) : ixP (isK k.1 k.2) L 0 = -1 ∧ ∀ y ∈ L, keyT y.1 ≠ k := by
  have hno : ∀ y ∈ L, keyT y.1 ≠ k := fun y hy e => by
    have hmem : y.1 ∈ m.map (·.2.1) := h.perm.mem_iff.2 (List.mem_map.2 ⟨y, hy, rfl⟩)
    obtain ⟨z, hz, hzy⟩ := List.mem_map.1 hmem
    have := mget_none.1 hx
    refine this (List.mem_map.2 ⟨z, hz, ?_⟩)
    rw [h.ks z hz, hzy, e]
  rcases ixP_spec (p := isK k.1 k.2) L 0 with ⟨h1, _⟩ | ⟨j, y, h1, h2, h3⟩
  · exact ⟨h1, hno⟩
  · exact absurd (isK_iff.1 h3) (hno y (List.mem_of_getElem? h2))
theorem Both.launch_eq (h : Both m L) (t : TkT) : launchE cap m t = refE cap L t := by
  unfold launchE refE
  rw [h.len]
  cases hx : mget (keyT t) m with
  | none =>
    have := (h.none hx).1
    rw [show keyT t = (t.1, t.2.1) from rfl] at this
    simp only at this
    rw [this]
    simp
  | some x =>
    obtain ⟨j, y, h1, _⟩ := h.some hx
    rw [show keyT t = (t.1, t.2.1) from rfl] at h1
    simp only at h1
    rw [h1]
    simp
theorem mset_fresh {k : KyT} {v : TR} : ∀ {m : List (KyT × TR)}, mget k m = Option.none → mset k v m = m ++ [(k, v)]
  | [], _ => rfl
  | x :: m, h => by
    unfold mget at h
    split at h
    · cases h
    · rename_i hne
      rw [mset, if_neg hne, mset_fresh h]
      rfl
theorem Both.put (h : Both m L) {x : TR} {s : Sl3} (hx : mget (keyT x.1) m = Option.none) : Both (mset (keyT x.1) (x.1, s) m) (insF x L) := by
  have hno := (h.none hx).2
  refine ⟨?_, insF_srt h.srt hno, fun y hy => ?_, mset_nodup h.nd⟩
  · rw [mset_fresh hx, List.map_append, List.map_cons, List.map_nil]
    refine List.Perm.trans ?_ ((insF_perm x L).map (·.1)).symm
    rw [List.map_cons]
    exact (List.perm_append_comm).trans (List.Perm.cons _ h.perm)
  · rcases mem_mset hy with rfl | hy
    · rfl
    · exact h.ks y hy
theorem mdel_filter {k : KyT} : ∀ {m : List (KyT × TR)}, (m.map (·.1)).Nodup → mdel k m = m.filter fun x => decide (x.1 ≠ k)
  | [], _ => rfl
  | x :: m, hn => by
    rw [List.map_cons, List.nodup_cons] at hn
    unfold mdel
    by_cases he : k = x.1
    · rw [if_pos he, List.filter_cons, if_neg (by simp [he])]
      symm
      rw [List.filter_eq_self]
      intro y hy
      simp only [decide_eq_true_eq]
      intro e
      exact hn.1 (by rw [← he, ← e]; exact List.mem_map.2 ⟨y, hy, rfl⟩)
    · rw [if_neg he, List.filter_cons, if_pos (by simpa using fun e => he e.symm), mdel_filter hn.2]
theorem Both.del (h : Both m L) (f i : Int) : Both (mdel (f, i) m) (L.filter fun x => !isK f i x) := by
  have e1 : (mdel (f, i) m).map (·.2.1) = (m.map (·.2.1)).filter fun t => decide (keyT t ≠ (f, i)) := by
    rw [mdel_filter h.nd, List.filter_map]
    congr 1
    refine List.filter_congr fun x hx => ?_
    rw [h.ks x hx]
    rfl
  have e2 : (L.filter fun x => !isK f i x).map (·.1) = (L.map (·.1)).filter fun t => decide (keyT t ≠ (f, i)) := by
    rw [List.filter_map]
    congr 1
    refine List.filter_congr fun x _ => ?_
    show (!isK f i x) = decide (keyT x.1 ≠ (f, i))
    rw [Bool.eq_iff_iff]
    simp only [Bool.not_eq_true', decide_eq_true_eq, ne_eq]
    rw [← isK_iff]
    simp
  refine ⟨by rw [e1, e2]; exact h.perm.filter _, by rw [e2]; exact srt_filter h.srt, fun x hx => h.ks x (mem_mdel hx), mdel_nodup h.nd⟩
theorem Both.stay (h : Both m L) {f i : Int} (hx : mget (f, i) m = Option.none) : L.filter (fun x => !isK f i x) = L := by
  have hno := (h.none hx).2
  rw [List.filter_eq_self]
  intro y hy
  have := hno y hy
  cases hq : isK f i y with
  | false => rfl
  | true => exact absurd (isK_iff.1 hq) this
end Go.Vc.J

/- The reference's agents: At, Sum, with. -/
set_option maxRecDepth 20000
set_option maxHeartbeats 1000000
namespace Go.Vc.J
open Go Go.Vc Go.Vc.V Go.RowKit Go.Proofs Vct

variable {w W W' W2 : World} {M N : Nat → Prop} {gs ds : List Nat} {g r : Nat} {cap most : Int} {q : AgQ} {D : AgL}

abbrev m3V (cap most : Int) (a : Option Addr) (n c : Nat) : Value := .agg #[.int .i64 cap, .int .i64 most, .slice a n c]
theorem c88e (x y : Ar4) (W : World) : Ret Try.prog 88 #[a4V x, a4V y] W (.tuple #[a4V (adE x y), .bool (decide (addC x y))]) := by
  by_cases h : addC x y
  · have := c88ok h W
    unfold adE
    rwa [if_pos h, decide_eq_true h]
  · have := c88no h W
    unfold adE
    rwa [if_neg h, decide_eq_false h]
def isA (i : Int) (x : AgR) : Bool := decide (x.1 = i)
theorem c55 {L : List AgR} {a : Option Addr} {n c : Nat} (cap most i : Int) (W : World) (h : SlE W 3 agRE L a n c) : Ret Try.prog 55 #[m3V cap most a n c, .int .i64 i] W (.int .i64 (ixP (isA i) L 0)) := by
  intro R hR
  refine f55_calls cap most a n c i W R ?_
  unfold f55_vc
  have hn := h.len_le
  intro n1 hn1
  refine ⟨fun v W' => At W [n1] W' ∧ ∃ k : Nat, v.1 = k ∧ k ≤ L.length ∧ ixP (isA i) (L.drop k) k = ixP (isA i) L 0, fun v _ => (n - v.1).toNat, ⟨fun w4 hb4 hu => ⟨⟨((At.refl W).call hb4).chg, hu⟩, 0, rfl, Nat.zero_le _, rfl⟩, ?_⟩⟩
  rintro x5 w6 ⟨hA, k, hk, hkl, hx⟩
  simp only at hk
  subst hk
  refine brD (fun hlt => ?_) (fun hge => leaf hR hA ?_)
  · obtain ⟨x, hxk⟩ : ∃ x, L[k]? = some x := ⟨_, List.getElem?_eq_getElem (by omega)⟩
    obtain ⟨ad, g1, el, _⟩ := elt_at (P := Try.prog) (k := .i64) (t := 81) (h.call hA.below) hxk (e := 89) (by kernel_rfl) (by kernel_rfl)
    rw [ixP_step hxk] at hx
    rw [succ_i k (by omega)]
    refine ⟨ad, g1, _, el.one (by kernel_rfl) (by simp), brE (fun e1 => leaf hR hA ?_) (fun e1 => ?_)⟩
    · rw [if_pos (show isA i x = true from decide_eq_true e1)] at hx
      rw [← hx]
    · rw [if_neg (by rw [show isA i x = false from decide_eq_false e1]; decide)] at hx
      exact ⟨⟨hA, k + 1, rfl, by omega, hx⟩, by simp only; omega⟩
  · rw [show k = L.length by omega, List.drop_length, ixP] at hx
    rw [← hx]
def sumX (s : Ar4) (l : List (List PartT)) : Ar4 := l.foldl (fun s v => adE s (ofA v)) s
theorem c56 {L : List AgR} {a : Option Addr} {n c : Nat} (cap most : Int) (b : Bool) (W : World) (h : RR W L a n c) : Ret Try.prog 56 #[m3V cap most a n c, .bool b] W (a4V (sumX zA (L.map fun x => if b = true then x.2.1.2 else x.2.1.1))) := by
  intro R hR
  refine f56_calls cap most a n c b W R ?_
  unfold f56_vc
  have hn := h.sl.len_le
  intro n1 hn1 n2 hn2 n3 hn3
  refine ⟨fun v W' => At W [n1, n2, n3] W' ∧ ∃ k : Nat, v.1 = k ∧ k ≤ L.length ∧ (v.2.1, v.2.2.1, v.2.2.2.1, v.2.2.2.2.1) = sumX zA ((L.take k).map fun x => if b = true then x.2.1.2 else x.2.1.1), fun v _ => ((n : Int) - v.1).toNat, ⟨fun w6 hb6 hu => ⟨⟨((At.refl W).call hb6).chg, hu⟩, 0, rfl, Nat.zero_le _, rfl⟩, ?_⟩⟩
  rintro x7 x8 x9 x10 x11 w12 ⟨hA, k, hk, hkl, hs⟩
  simp only at hk hs
  subst hk
  have hsz := hA.size
  refine brD (fun hlt => ?_) (fun hge w51 hev hu => ?_)
  · obtain ⟨x, hx⟩ : ∃ x, L[k]? = some x := ⟨_, List.getElem?_eq_getElem (by omega)⟩
    have hxm := List.mem_of_getElem? hx
    obtain ⟨ad, g1, el, _⟩ := elt_at (P := Try.prog) (k := .i64) (t := 81) (h.sl.call hA.below) hx (e := 89) (by kernel_rfl) (by kernel_rfl)
    have hst : sumX zA ((L.take (k + 1)).map fun x => if b = true then x.2.1.2 else x.2.1.1) = adE (x8, x9, x10, x11) (ofA (if b = true then x.2.1.2 else x.2.1.1)) := by
      rw [List.take_add_one, hx, List.map_append, hs]
      unfold sumX
      rw [List.foldl_append]
      rfl
    rw [succ_i k (by omega)]
    refine brB (fun hb => ?_) (fun hb => ?_)
    · refine ⟨ad, g1, _, _, _, (el.sub (o := 2) (by decide)).one (by kernel_rfl) (by simp), fun w17 hb17 hu => ?_⟩
      have hA : At W [n1, n2, n3] w17 := ⟨(hA.call hb17).chg, hu⟩
      refine at_callb hA (c89' w17 ((h.v2 x hxm).call hA.below)) fun w19 hA hk hb19 => ⟨_, _, _, _, rfl, hk, ?_⟩
      rw [if_pos hb] at hst
      have hc := c88e (x8, x9, x10, x11) (ofA x.2.1.2) w19
      generalize adE (x8, x9, x10, x11) (ofA x.2.1.2) = E at hc hst
      refine at_callb hA hc fun w25 hA hk hb25 => ⟨_, _, _, _, _, rfl, hk, fun w31 hev hu => ?_⟩
      exact ⟨⟨hA.evo (by simp; omega) hev hu, k + 1, rfl, by omega, hst.symm⟩, by simp only; omega⟩
    · refine ⟨ad, g1, _, _, _, (el.sub (o := 1) (by decide)).one (by kernel_rfl) (by simp), fun w17 hb17 hu => ?_⟩
      have hA : At W [n1, n2, n3] w17 := ⟨(hA.call hb17).chg, hu⟩
      refine at_callb hA (c89' w17 ((h.v1 x hxm).call hA.below)) fun w19 hA hk hb19 => ⟨_, _, _, _, rfl, hk, ?_⟩
      rw [if_neg (by rw [hb]; decide)] at hst
      have hc := c88e (x8, x9, x10, x11) (ofA x.2.1.1) w19
      generalize adE (x8, x9, x10, x11) (ofA x.2.1.1) = E at hc hst
      refine at_callb hA hc fun w25 hA hk hb25 => ⟨_, _, _, _, _, rfl, hk, fun w31 hev hu => ?_⟩
      exact ⟨⟨hA.evo (by simp; omega) hev hu, k + 1, rfl, by omega, hst.symm⟩, by simp only; omega⟩
  · rw [show k = L.length by omega, List.take_length] at hs
    rw [← hs] at hR
    exact leaf hR (hA.evo (by simp; omega) hev hu) rfl
/-! ### with -/
def withS (x : AgR) (s : List AgR × Bool) (y : AgR) : List AgR × Bool :=
  if s.2 = false ∧ x.1 ≤ y.1 then (if y.1 ≠ x.1 then (s.1 ++ [x] ++ [y], true) else (s.1 ++ [x], true)) else (if y.1 ≠ x.1 then (s.1 ++ [y], s.2) else s)
def withF (x : AgR) (L : List AgR) : List AgR := if (L.foldl (withS x) ([], false)).2 = true then (L.foldl (withS x) ([], false)).1 else (L.foldl (withS x) ([], false)).1 ++ [x]
theorem withS_len (x : AgR) : ∀ (L : List AgR) (s : List AgR × Bool), (L.foldl (withS x) s).1.length ≤ s.1.length + 2 * L.length
  | [], s => by simp
  | y :: L, s => by
    rw [List.foldl_cons]
    have := withS_len x L (withS x s y)
    have h2 : (withS x s y).1.length ≤ s.1.length + 2 := by
      unfold withS
      repeat' split
      all_goals simp
    rw [List.length_cons]
    omega
theorem c107 {L : List AgR} {a : Option Addr} {n c : Nat} (cap most : Int) (x : AgR) (W : World) (h : SlE W 3 agRE L a n c) (hl : L.length ≤ 1000) : RetQ Try.prog 107 #[m3V cap most a n c, agRV x] W fun v w' => ∃ a' c', v = m3V cap most a' (withF x L).length c' ∧ OwnL W [] w' 89 3 agRE (.slice a' (withF x L).length c') (withF x L) := by
  intro R hR
  refine f107_calls cap most a n c x.1 x.2.2.1.1 x.2.2.1.2.1 x.2.2.1.2.2 x.2.2.2.1 x.2.2.2.2.1 x.2.2.2.2.2 W R ?_
  unfold f107_vc
  have hn := h.len_le
  intro n1 hn1 n2 hn2 n3 hn3 n4 hn4
  refine ⟨fun v W' => At W [n1, n2, n3, n4] W' ∧ v.2.2.1 = cap ∧ v.2.2.2.1 = most ∧ ∃ k : Nat, v.2.1 = k ∧ k ≤ L.length ∧ v.1 = ((L.take k).foldl (withS x) ([], false)).2 ∧ OwnL W [n1, n2, n3, n4] W' 89 3 agRE (.slice v.2.2.2.2.1.1 v.2.2.2.2.1.2.1 v.2.2.2.2.1.2.2) ((L.take k).foldl (withS x) ([], false)).1, fun v _ => ((n : Int) - v.2.1).toNat, fun w7 hev hu => ⟨(At.refl W).evo (by simp; omega) hev hu, rfl, rfl, 0, rfl, Nat.zero_le _, rfl, OwnL.nil⟩, ?_⟩
  rintro b8 x9 x10 x11 a12 n13 n14 w15 ⟨hA, hcap, hmost, k, hk, hkl, hb8, ho⟩
  simp only at hcap hmost hk hb8 ho
  subst hcap hmost hk
  generalize hst : (L.take k).foldl (withS x) ([], false) = st at hb8 ho
  have hstl : st.1.length ≤ 2 * k := by
    have := withS_len x (L.take k) ([], false)
    rw [hst] at this
    simp at this
    omega
  have hev4 : ∀ {w1 w2 : World}, At W [n1, n2, n3, n4] w1 → Evo [n4] w1 w2 → Under [n1, n2, n3, n4] w2 → At W [n1, n2, n3, n4] w2 := fun hA hev hu => hA.evo (by simp; omega) hev hu
  have oev : ∀ {w1 w2 : World} {v : Value} {l : List AgR}, OwnL W [n1, n2, n3, n4] w1 89 3 agRE v l → Evo [n4] w1 w2 → OwnL W [n1, n2, n3, n4] w2 89 3 agRE v l := fun ho hev => ho.evo (by intro d hd hd2; simp at hd hd2; omega) hev
  refine brD (fun hlt => ?_) (fun hge => ?_)
  · obtain ⟨y, hy⟩ : ∃ x, L[k]? = some x := ⟨_, List.getElem?_eq_getElem (by omega)⟩
    obtain ⟨ad, g1, el0, _⟩ := elt_at (P := Try.prog) (k := .i64) (t := 81) h hy (e := 89) (by kernel_rfl) (by kernel_rfl)
    have far4 : ∀ d ∈ [n4], d ≠ ad.block := el0.far (by simpa using hn4)
    have el : ∀ {gs : List Nat} {w' : World}, At W gs w' → Elt w' ad (agRE y) := fun hA => el0.below hA.below
    have hnext : (L.take (k + 1)).foldl (withS x) ([], false) = withS x st y := by
      rw [List.take_add_one, hy, List.foldl_append, hst]
      rfl
    rw [succ_i k (by omega)]
    have fin : ∀ {b : Bool} {w' : World} {a' : Option Addr} {n' c' : Nat} {st' : List AgR × Bool}, withS x st y = st' → At W [n1, n2, n3, n4] w' → b = st'.2 → OwnL W [n1, n2, n3, n4] w' 89 3 agRE (.slice a' n' c') st'.1 →
        (At W [n1, n2, n3, n4] w' ∧ x10 = x10 ∧ x11 = x11 ∧ ∃ j : Nat, ((k + 1 : Nat) : Int) = j ∧ j ≤ L.length ∧ b = ((L.take j).foldl (withS x) ([], false)).2 ∧ OwnL W [n1, n2, n3, n4] w' 89 3 agRE (.slice a' n' c') ((L.take j).foldl (withS x) ([], false)).1) ∧ ((n : Int) - ((k + 1 : Nat) : Int)).toNat < ((n : Int) - (k : Int)).toNat := fun e hA hb ho => ⟨⟨hA, rfl, rfl, k + 1, rfl, by omega, by rw [hnext, e]; exact hb, by rw [hnext, e]; exact ho⟩, by omega⟩
    refine brNB (fun hf => ?_) (fun hf => ?_)
    · rw [hb8] at hf
      refine ⟨ad, g1, _, (el hA).one (by kernel_rfl) (by simp), brD (fun hge w18 hb18 hu => ?_) (fun hlt2 => ?_)⟩
      · have hA : At W [n1, n2, n3, n4] w18 := ⟨(hA.call hb18).chg, hu⟩
        refine opw_push (f := agRE) (e' := 89) (bytes := 56) hA (ho.call hb18) x (by kernel_rfl) (by kernel_rfl) rfl (fun _ _ => rfl) (ag_one x) (by omega) (by decide) fun a26 c28 w25 hA ho2 _ _ => ?_
        refine ⟨ad, g1, _, (el hA).one (by kernel_rfl) far4, brN (fun hne => ?_) (fun heq w51 hev hu => ?_)⟩
        · refine ⟨ad, g1, _, _, _, _, _, _, _, (el hA).agg 3 (by kernel_rfl) (by kernel_rfl) (by simp) far4, fun w39 hev hu => ?_⟩
          have hA := hev4 hA hev hu
          refine opw_push (f := agRE) (e' := 89) (bytes := 56) hA (oev ho2 hev) y (by kernel_rfl) (by kernel_rfl) rfl (fun _ _ => rfl) (ag_one y) (by rw [List.length_append, List.length_singleton]; omega) (by decide) fun a47 c49 w46 hA ho3 _ _ w50 hev hu => ?_
          refine fin (st' := (st.1 ++ [x] ++ [y], true)) ?_ (hev4 hA hev hu) rfl (oev ho3 hev)
          unfold withS
          rw [if_pos ⟨hf, hge⟩, if_pos hne]
        · refine fin (st' := (st.1 ++ [x], true)) ?_ (hev4 hA hev hu) rfl (oev ho2 hev)
          unfold withS
          rw [if_pos ⟨hf, hge⟩, if_neg fun hh => hh heq]
      · refine ⟨ad, g1, _, (el hA).one (by kernel_rfl) (by simp), brN (fun hne => ?_) (fun heq => by omega)⟩
        refine ⟨ad, g1, _, _, _, _, _, _, _, (el hA).agg 3 (by kernel_rfl) (by kernel_rfl) (by simp) (by simp), fun w62 hb62 hu => ?_⟩
        have hA : At W [n1, n2, n3, n4] w62 := ⟨(hA.call hb62).chg, hu⟩
        refine opw_push (f := agRE) (e' := 89) (bytes := 56) hA (ho.call hb62) y (by kernel_rfl) (by kernel_rfl) rfl (fun _ _ => rfl) (ag_one y) (by omega) (by decide) fun a47 c49 w46 hA ho3 _ _ w50 hev hu => ?_
        refine fin (st' := (st.1 ++ [y], st.2)) ?_ (hev4 hA hev hu) hb8 (oev ho3 hev)
        unfold withS
        rw [if_neg fun hh => hlt2 hh.2, if_pos hne]
    · rw [hb8] at hf
      have hno : ¬ (st.2 = false ∧ x.1 ≤ y.1) := fun hh => by rw [hf] at hh; cases hh.1
      refine ⟨ad, g1, _, (el hA).one (by kernel_rfl) (by simp), brN (fun hne => ?_) (fun heq w97 hb97 hu => ?_)⟩
      · refine ⟨ad, g1, _, _, _, _, _, _, _, (el hA).agg 3 (by kernel_rfl) (by kernel_rfl) (by simp) (by simp), fun w62 hb62 hu => ?_⟩
        have hA : At W [n1, n2, n3, n4] w62 := ⟨(hA.call hb62).chg, hu⟩
        refine opw_push (f := agRE) (e' := 89) (bytes := 56) hA (ho.call hb62) y (by kernel_rfl) (by kernel_rfl) rfl (fun _ _ => rfl) (ag_one y) (by omega) (by decide) fun a47 c49 w46 hA ho3 _ _ w50 hev hu => ?_
        refine fin (st' := (st.1 ++ [y], st.2)) ?_ (hev4 hA hev hu) hb8 (oev ho3 hev)
        unfold withS
        rw [if_neg hno, if_pos hne]
      · refine fin (st' := st) ?_ ⟨(hA.call hb97).chg, hu⟩ hb8 (ho.call hb97)
        unfold withS
        rw [if_neg hno, if_neg fun hh => hh heq]
  · have hkL : k = L.length := by omega
    rw [hkL, List.take_length] at hst
    refine brNB (fun hf => ?_) (fun hf w109 hev hu => ?_)
    · rw [hb8] at hf
      have hw : withF x L = st.1 ++ [x] := by unfold withF; rw [hst, if_neg (by rw [hf]; decide)]
      refine opw_push (f := agRE) (e' := 89) (bytes := 56) hA ho x (by kernel_rfl) (by kernel_rfl) rfl (fun _ _ => rfl) (ag_one x) (by omega) (by decide) fun a47 c49 w46 hA ho3 _ _ w50 hev hu => ?_
      have hA := hA.evo (by simp; omega) hev hu
      have ho4 := ho3.evo (by intro d hd hd2; simp at hd hd2; omega) hev
      rw [← hw] at ho4 ⊢
      exact hR _ _ hA.below ⟨_, _, rfl, ho4.more (by simp)⟩
    · rw [hb8] at hf
      have hw : withF x L = st.1 := by unfold withF; rw [hst, if_pos hf]
      have hA := hA.evo (by simp; omega) hev hu
      have ho4 := ho.evo (by intro d hd hd2; simp at hd hd2; omega) hev
      rw [← hw] at ho4
      have hlen := ho4.len
      subst hlen
      exact hR _ _ hA.below ⟨_, _, rfl, ho4.more (by simp)⟩
end Go.Vc.J

/- Agents, plainly: the reference does as the table. -/
set_option maxRecDepth 20000
set_option maxHeartbeats 1000000
namespace Go.Vc.J
open Go Go.Vc Go.Vc.V Go.RowKit Go.Proofs

variable {cap most : Int} {q : AgQ} {D L : AgL}

abbrev SrtA (L : AgL) : Prop := L.Pairwise fun x y => x.1 < y.1
/-- A table's agents and a sorted list are the same. -/
structure BothA (D L : AgL) : Prop where
  srt : SrtA L
  mem : ∀ x, x ∈ L ↔ x ∈ D
  nd : (D.map (·.1)).Nodup
theorem srtA_nd (h : SrtA L) : (L.map (·.1)).Nodup := List.pairwise_map.2 (h.imp fun h e => by omega)
theorem nd_of_map {D : AgL} (h : (D.map (·.1)).Nodup) : D.Nodup := (List.pairwise_map.1 h).imp fun h e => h (by rw [e])
theorem BothA.perm (h : BothA D L) : L.Perm D := (List.perm_ext_iff_of_nodup (nd_of_map (srtA_nd h.srt)) (nd_of_map h.nd)).2 h.mem
theorem BothA.len (h : BothA D L) : L.length = D.length := h.perm.length_eq
theorem BothA.get (h : BothA D L) (i : Int) : mget i L = mget i D := by
  cases hx : mget i D with
  | none =>
    rw [mget_none] at hx ⊢
    intro hm
    obtain ⟨y, hy, e⟩ := List.mem_map.1 hm
    exact hx (List.mem_map.2 ⟨y, (h.mem y).1 hy, e⟩)
  | some d => exact Go.Vc.mget_of_mem (srtA_nd h.srt) ((h.mem _).2 (mem_of_mget hx))
/-! ### with -/
def withPS (x : Int × AgD) (s : AgL × Bool) (y : Int × AgD) : AgL × Bool :=
  if s.2 = false ∧ x.1 ≤ y.1 then (if y.1 ≠ x.1 then (s.1 ++ [x] ++ [y], true) else (s.1 ++ [x], true)) else (if y.1 ≠ x.1 then (s.1 ++ [y], s.2) else s)
def withP (x : Int × AgD) (L : AgL) : AgL := if (L.foldl (withPS x) ([], false)).2 = true then (L.foldl (withPS x) ([], false)).1 else (L.foldl (withPS x) ([], false)).1 ++ [x]
theorem withS_map (x : AgR) : ∀ (L : List AgR) (s : List AgR × Bool), (L.map plR).foldl (withPS (plR x)) (s.1.map plR, s.2) = ((L.foldl (withS x) s).1.map plR, (L.foldl (withS x) s).2)
  | [], s => rfl
  | y :: L, s => by
    rw [List.map_cons, List.foldl_cons, List.foldl_cons, ← withS_map x L]
    congr 1
    unfold withPS withS
    simp only [plR]
    repeat' split
    all_goals simp
theorem withF_map (x : AgR) (L : List AgR) : (withF x L).map plR = withP (plR x) (L.map plR) := by
  have h := withS_map x L ([], false)
  simp only [List.map_nil] at h
  unfold withF withP
  rw [h]
  split
  · rfl
  · rw [List.map_append]; rfl
theorem withP_done (x : Int × AgD) : ∀ (L : AgL) (o : AgL), (∀ y ∈ L, y.1 ≠ x.1) → L.foldl (withPS x) (o, true) = (o ++ L, true)
  | [], o, _ => by simp
  | y :: L, o, h => by
    rw [List.foldl_cons]
    have : withPS x (o, true) y = (o ++ [y], true) := by
      unfold withPS
      rw [if_neg (by simp), if_pos (h y (by simp))]
    rw [this, withP_done x L _ fun z hz => h z (by simp [hz])]
    simp
theorem withP_open (x : Int × AgD) : ∀ (L : AgL) (o : AgL), SrtA L → (let r := L.foldl (withPS x) (o, false); if r.2 = true then r.1 else r.1 ++ [x]) = o ++ (L.filter (fun y => decide (y.1 < x.1)) ++ x :: L.filter (fun y => decide (x.1 < y.1)))
  | [], o, _ => by simp
  | y :: L, o, h => by
    have h' := List.pairwise_cons.1 h
    simp only
    rw [List.foldl_cons]
    by_cases hy : x.1 ≤ y.1
    · have hgt : ∀ z ∈ L, x.1 < z.1 := fun z hz => by have := h'.1 z hz; omega
      have f1 : L.filter (fun y => decide (y.1 < x.1)) = [] := List.filter_eq_nil_iff.2 fun z hz => by have := hgt z hz; simp; omega
      have f2 : L.filter (fun y => decide (x.1 < y.1)) = L := List.filter_eq_self.2 fun z hz => by simpa using hgt z hz
      by_cases he : y.1 = x.1
      · have : withPS x (o, false) y = (o ++ [x], true) := by
          unfold withPS
          rw [if_pos ⟨rfl, hy⟩, if_neg fun hh => hh he]
        rw [this, withP_done x L _ fun z hz => by have := hgt z hz; omega]
        simp only [if_true]
        rw [List.filter_cons, if_neg (by simp; omega), List.filter_cons, if_neg (by simp; omega), f1, f2]
        simp
      · have : withPS x (o, false) y = (o ++ [x] ++ [y], true) := by
          unfold withPS
          rw [if_pos ⟨rfl, hy⟩, if_pos he]
        rw [this, withP_done x L _ fun z hz => by have := hgt z hz; omega]
        simp only [if_true]
        rw [List.filter_cons, if_neg (by simp; omega), List.filter_cons, if_pos (by simp; omega), f1, f2]
        simp
    · have : withPS x (o, false) y = (o ++ [y], false) := by
        unfold withPS
        rw [if_neg fun hh => hy hh.2, if_pos (by omega)]
      rw [this]
      have ih := withP_open x L (o ++ [y]) h'.2
      simp only at ih
      rw [ih, List.filter_cons, if_pos (by simp; omega), List.filter_cons, if_neg (by simp; omega)]
      simp
theorem withP_eq (x : Int × AgD) (h : SrtA L) : withP x L = L.filter (fun y => decide (y.1 < x.1)) ++ x :: L.filter (fun y => decide (x.1 < y.1)) := by
  have := withP_open x L [] h
  rw [List.nil_append] at this
  exact this
theorem withP_srt (x : Int × AgD) (h : SrtA L) : SrtA (withP x L) := by
  rw [withP_eq x h]
  refine List.pairwise_append.2 ⟨h.sublist List.filter_sublist, List.pairwise_cons.2 ⟨fun y hy => ?_, h.sublist List.filter_sublist⟩, fun a ha b hb => ?_⟩
  · exact of_decide_eq_true (List.mem_filter.1 hy).2
  · have h1 := of_decide_eq_true (List.mem_filter.1 ha).2
    rcases List.mem_cons.1 hb with rfl | hb
    · exact h1
    · have h2 := of_decide_eq_true (List.mem_filter.1 hb).2
      omega
theorem mem_withP (x y : Int × AgD) (h : SrtA L) : y ∈ withP x L ↔ y = x ∨ (y ∈ L ∧ y.1 ≠ x.1) := by
  rw [withP_eq x h, List.mem_append, List.mem_cons, List.mem_filter, List.mem_filter]
  simp only [decide_eq_true_eq]
  constructor
  · rintro (⟨h1, h2⟩ | h1 | ⟨h1, h2⟩)
    · exact .inr ⟨h1, by omega⟩
    · exact .inl h1
    · exact .inr ⟨h1, by omega⟩
  · rintro (h1 | ⟨h1, h2⟩)
    · exact .inr (.inl h1)
    · by_cases h3 : y.1 < x.1
      · exact .inl ⟨h1, h3⟩
      · exact .inr (.inr ⟨h1, by omega⟩)
theorem BothA.repl (h : BothA D L) {i : Int} {d d0 : AgD} (hx : mget i D = some d0) : BothA (setD D i d) (withP (i, d) L) := by
  refine ⟨withP_srt _ h.srt, fun y => ?_, by rw [setD_keys]; exact h.nd⟩
  rw [mem_withP _ _ h.srt]
  constructor
  · rintro (rfl | ⟨h1, h2⟩)
    · exact mem_of_mget (mget_setD hx)
    · exact List.mem_map.2 ⟨y, (h.mem y).1 h1, if_neg h2⟩
  · intro hy
    obtain ⟨z, hz, e⟩ := List.mem_map.1 hy
    by_cases he : z.1 = i
    · rw [if_pos he] at e
      exact .inl (by rw [← e, he])
    · rw [if_neg he] at e
      subst e
      exact .inr ⟨(h.mem _).2 hz, he⟩
theorem BothA.add (h : BothA D L) {i : Int} {d : AgD} (hx : mget i D = none) : BothA (D ++ [(i, d)]) (withP (i, d) L) := by
  have hno := mget_none.1 hx
  refine ⟨withP_srt _ h.srt, fun y => ?_, ?_⟩
  · rw [mem_withP _ _ h.srt, List.mem_append, List.mem_singleton]
    constructor
    · rintro (rfl | ⟨h1, h2⟩)
      · exact .inr rfl
      · exact .inl ((h.mem y).1 h1)
    · rintro (h1 | rfl)
      · exact .inr ⟨(h.mem y).2 h1, fun e => hno (List.mem_map.2 ⟨y, h1, e⟩)⟩
      · exact .inl rfl
  · rw [List.map_append]
    refine List.nodup_append.2 ⟨h.nd, by simp, fun a ha b hb e => ?_⟩
    simp at hb
    subst hb
    exact hno (e ▸ ha)
theorem mdelA_filter {i : Int} : ∀ {D : AgL}, (D.map (·.1)).Nodup → mdel i D = D.filter fun x => decide (x.1 ≠ i)
  | [], _ => rfl
  | x :: m, hn => by
    rw [List.map_cons, List.nodup_cons] at hn
    unfold mdel
    by_cases he : i = x.1
    · rw [if_pos he, List.filter_cons, if_neg (by simp [he])]
      symm
      rw [List.filter_eq_self]
      intro y hy
      simp only [decide_eq_true_eq]
      intro e
      exact hn.1 (by rw [← he, ← e]; exact List.mem_map.2 ⟨y, hy, rfl⟩)
    · rw [if_neg he, List.filter_cons, if_pos (by simpa using fun e => he e.symm), mdelA_filter hn.2]
theorem BothA.del (h : BothA D L) (i : Int) : BothA (mdel i D) (L.filter fun x => decide (x.1 ≠ i)) := by
  refine ⟨h.srt.sublist List.filter_sublist, fun y => ?_, mdel_nodup h.nd⟩
  rw [mdelA_filter h.nd, List.mem_filter, List.mem_filter, h.mem]
theorem BothA.stay (h : BothA D L) {i : Int} (hx : mget i D = none) : L.filter (fun x => decide (x.1 ≠ i)) = L := by
  rw [List.filter_eq_self]
  intro y hy
  have hno := mget_none.1 hx
  exact decide_eq_true fun e => hno (List.mem_map.2 ⟨y, (h.mem y).1 hy, e⟩)
/-! ### Sums -/
theorem sumX_eq (f : Int → Int) : ∀ (l : List (List PartT)), (∀ v ∈ l, vecB v = true) → (∀ k, 0 ≤ f k) → (∀ k, (k = 0 ∨ k = 1 ∨ k = 2 ∨ k = 3) → f k + (l.map (sumK k)).sum ≤ 9007199254740992) → sumX (all4 f) l = all4 fun k => f k + (l.map (sumK k)).sum
  | [], _, _, _ => by simp [sumX]
  | v :: l, hv, hf, hb => by
    have hv0 := hv v (by simp)
    have bv := fun k => vec_bound (k := k) hv0
    have hn : ∀ k, 0 ≤ (l.map (sumK k)).sum := fun k => by
      clear hb
      induction l with
      | nil => simp
      | cons u l ih =>
        have := (vec_bound (k := k) (hv u (by simp))).1
        have := ih fun w hw => hv w (by
          rcases List.mem_cons.1 hw with rfl | hw
          · simp
          · simp [hw])
        rw [List.map_cons, List.sum_cons]
        omega
    have c : ∀ k, (k = 0 ∨ k = 1 ∨ k = 2 ∨ k = 3) → f k + sumK k v + (l.map (sumK k)).sum ≤ 9007199254740992 := fun k hk => by
      have := hb k hk
      rw [List.map_cons, List.sum_cons] at this
      omega
    have had := (ad_all (f := f) (g := fun k => sumK k v) (fun k => ⟨hf k, (bv k).1⟩) (by
      have c0 := c 0 (by simp); have c1 := c 1 (by simp); have c2 := c 2 (by simp); have c3 := c 3 (by simp)
      have n0 := hn 0; have n1 := hn 1; have n2 := hn 2; have n3 := hn 3
      omega)).1
    unfold sumX
    rw [List.foldl_cons, ofA_all hv0, had]
    have := sumX_eq (fun k => f k + sumK k v) l (fun u hu => hv u (by simp [hu])) (fun k => by have := hf k; have := (bv k).1; omega) c
    unfold sumX at this
    rw [this]
    refine all4_congr fun k => ?_
    rw [List.map_cons, List.sum_cons]
    omega
theorem perm_sum {l m : List Int} (h : l.Perm m) : l.sum = m.sum := by
  induction h with
  | nil => rfl
  | cons x _ ih => rw [List.sum_cons, List.sum_cons, ih]
  | swap x y l => simp only [List.sum_cons]; omega
  | trans _ _ h1 h2 => rw [h1, h2]
theorem Good.sumT (h : Good cap most q) (hb : BothA q.2.2 L) : sumX zA (L.map (·.2.1)) = q.1 := by
  have hp : ∀ k, (((L.map (·.2.1)).map (sumK k)).sum) = sumD (tS k) q.2.2 := fun k => by
    unfold sumD
    rw [List.map_map]
    exact perm_sum (hb.perm.map _)
  have hm := h.mo
  have hmm := h.mm
  have := sumX_eq (fun _ => 0) (L.map (·.2.1)) (fun v hv => by
    obtain ⟨x, hx, rfl⟩ := List.mem_map.1 hv
    exact (h.ok x ((hb.mem x).1 hx)).1) (fun _ => Int.le_refl _) (fun k hk => by
    rw [hp k]
    rcases hk with rfl | rfl | rfl | rfl
    all_goals omega)
  rw [show (zA : Ar4) = all4 fun _ => 0 from rfl, this, h.su]
  refine all4_congr fun k => ?_
  rw [hp k]
  omega
theorem Good.sumF (h : Good cap most q) (hb : BothA q.2.2 L) : sumX zA (L.map (·.2.2)) = q.2.1 := by
  have hp : ∀ k, (((L.map (·.2.2)).map (sumK k)).sum) = sumD (fS k) q.2.2 := fun k => by
    unfold sumD
    rw [List.map_map]
    exact perm_sum (hb.perm.map _)
  have hm := h.mo
  have hmm := h.mm
  have g0 := h.bd 0; have g1 := h.bd 1; have g2 := h.bd 2; have g3 := h.bd 3
  have := sumX_eq (fun _ => 0) (L.map (·.2.2)) (fun v hv => by
    obtain ⟨x, hx, rfl⟩ := List.mem_map.1 hv
    exact (h.ok x ((hb.mem x).1 hx)).2.1) (fun _ => Int.le_refl _) (fun k hk => by
    rw [hp k]
    rcases hk with rfl | rfl | rfl | rfl
    all_goals omega)
  rw [show (zA : Ar4) = all4 fun _ => 0 from rfl, this, h.fr]
  refine all4_congr fun k => ?_
  rw [hp k]
  omega
end Go.Vc.J

/- Agents, plainly: each act, by the reference and by the table. -/
set_option maxRecDepth 20000
set_option maxHeartbeats 1000000
namespace Go.Vc.J
open Go Go.Vc Go.Vc.V Go.RowKit Go.Proofs

variable {cap most : Int} {q : AgQ} {D L : AgL}

/-- One kind has more than it may. -/
def over (most : Int) (s v : Ar4) : Prop := v.1 > most - s.1 ∨ v.2.1 > most - s.2.1 ∨ v.2.2.1 > most - s.2.2.1 ∨ v.2.2.2 > most - s.2.2.2
instance (most : Int) (s v : Ar4) : Decidable (over most s v) := by unfold over; infer_instance
def refR (cap most : Int) (L : AgL) (i : Int) (V : List PartT) : (Bool × Int) × AgL :=
  if i < 1 ∨ V = [] ∨ vecB V = false then ((false, 41), L) else match mget i L with
  | some d => if d.1 = V then ((false, 0), L) else ((false, 20), L)
  | none => if over most (sumX zA (L.map (·.2.1))) (ofA V) then ((false, 31), L) else if cap ≤ L.length then ((false, 32), L) else ((true, 0), withP (i, (V, V)) L)
def refM (L : AgL) (k i : Int) (V Y : List PartT) : (Bool × Int) × AgL := match mget i L with
  | none => ((false, 43), L)
  | some d =>
    if k = 2 then (if vecB V = true ∧ (vsub d.2 V).isSome = true then ((false, 0), withP (i, (d.1, vout (vsub d.2 V))) L) else ((false, 30), L))
    else if k = 3 then (if vecB V = true ∧ (vadd d.2 V).isSome = true then (if (vsub d.1 (vout (vadd d.2 V))).isSome = true then ((false, 0), withP (i, (d.1, vout (vadd d.2 V))) L) else ((false, 31), L)) else ((false, 31), L))
    else (if vecB Y = true ∧ (vadd d.2 Y).isSome = true then (if vecB V = true ∧ (vsub V (vout (vadd d.2 Y))).isSome = true then (if ofA V = ofA d.1 then ((false, 0), withP (i, (V, vout (vadd d.2 Y))) L) else ((false, 41), L)) else ((false, 41), L)) else ((false, 41), L))
def refD (cap most : Int) (L : AgL) (k i : Int) (V Y : List PartT) : (Bool × Int) × AgL :=
  if k = 0 then refR cap most L i V else if k = 1 then (((mget i L).isSome, 0), L.filter fun x => decide (x.1 ≠ i)) else refM L k i V Y
theorem over_iff (h : Good cap most q) {V : List PartT} (hv : vecB V = true) : (¬ addC q.1 (ofA V) ∨ mx4 (adE q.1 (ofA V)) > most) ↔ over most q.1 (ofA V) := by
  have bV := fun k => vec_bound (k := k) hv
  have v0 := bV 0; have v1 := bV 1; have v2 := bV 2; have v3 := bV 3
  have g0 := h.bd 0; have g1 := h.bd 1; have g2 := h.bd 2; have g3 := h.bd 3
  have hm := h.mo
  have hmm := h.mm
  have ha : addC q.1 (ofA V) := by
    rw [h.su, ofA_all hv]
    unfold addC sumR all4
    simp only
    omega
  have he : adE q.1 (ofA V) = addA q.1 (ofA V) := if_pos ha
  rw [he]
  unfold over mx4 maxG addA
  simp only [List.foldl_cons, List.foldl_nil]
  constructor
  · rintro (h1 | h1)
    · exact absurd ha h1
    · repeat' split at h1
      all_goals omega
  · intro h1
    refine .inr ?_
    repeat' split
    all_goals omega
/-- Each act: the reference and the table do the same. -/
theorem act_same (h : Good cap most q) (hb : BothA q.2.2 L) (k i : Int) (V Y : List PartT) : (refD cap most L k i V Y).1 = (doD cap most q k i V Y).1 ∧ BothA (doD cap most q k i V Y).2.2.2 (refD cap most L k i V Y).2 := by
  have hg := hb.get i
  unfold refD doD
  by_cases k0 : k = 0
  · rw [if_pos k0, if_pos k0]
    unfold refR regD
    rw [hg, hb.len, h.sumT hb]
    by_cases hr : i < 1 ∨ V = [] ∨ vecB V = false
    · rw [if_pos hr, if_pos hr]; exact ⟨rfl, hb⟩
    · rw [if_neg hr, if_neg hr]
      cases hx : mget i q.2.2 with
      | some d =>
        simp only
        by_cases he : d.1 = V
        · rw [if_pos he, if_pos he]; exact ⟨rfl, hb⟩
        · rw [if_neg he, if_neg he]; exact ⟨rfl, hb⟩
      | none =>
        simp only
        have hv : vecB V = true := by
          cases hv : vecB V with
          | true => rfl
          | false => exact absurd (.inr (.inr hv)) hr
        have ho := over_iff h hv
        by_cases hov : over most q.1 (ofA V)
        · rw [if_pos hov, if_pos (ho.2 hov)]; exact ⟨rfl, hb⟩
        · rw [if_neg hov, if_neg fun hh => hov (ho.1 hh)]
          by_cases hc : cap ≤ (q.2.2.length : Int)
          · rw [if_pos hc, if_pos hc]; exact ⟨rfl, hb⟩
          · rw [if_neg hc, if_neg hc]; exact ⟨rfl, hb.add hx⟩
  rw [if_neg k0, if_neg k0]
  by_cases k1 : k = 1
  · rw [if_pos k1, if_pos k1]
    unfold loseD
    rw [hg]
    cases hx : mget i q.2.2 with
    | none => exact ⟨rfl, by simp only; rw [hb.stay hx]; exact hb⟩
    | some d => exact ⟨rfl, hb.del i⟩
  rw [if_neg k1, if_neg k1]
  unfold refM
  rw [hg]
  by_cases k2 : k = 2
  · rw [if_pos k2]
    unfold takeD
    cases hx : mget i q.2.2 with
    | none => exact ⟨rfl, hb⟩
    | some d =>
      simp only
      rw [if_pos k2]
      by_cases hc : vecB V = true ∧ (vsub d.2 V).isSome = true
      · rw [if_pos hc, if_pos hc]; exact ⟨rfl, hb.repl hx⟩
      · rw [if_neg hc, if_neg hc]; exact ⟨rfl, hb⟩
  rw [if_neg k2]
  by_cases k3 : k = 3
  · rw [if_pos k3]
    unfold giveD
    cases hx : mget i q.2.2 with
    | none => exact ⟨rfl, hb⟩
    | some d =>
      simp only
      rw [if_neg k2, if_pos k3]
      by_cases hc : vecB V = true ∧ (vadd d.2 V).isSome = true
      · rw [if_pos hc, if_pos hc]
        by_cases hs : (vsub d.1 (vout (vadd d.2 V))).isSome = true
        · rw [if_pos hs, if_pos hs]; exact ⟨rfl, hb.repl hx⟩
        · rw [if_neg hs, if_neg hs]; exact ⟨rfl, hb⟩
      · rw [if_neg hc, if_neg hc]; exact ⟨rfl, hb⟩
  · rw [if_neg k3]
    unfold turnD
    cases hx : mget i q.2.2 with
    | none => exact ⟨rfl, hb⟩
    | some d =>
      simp only
      rw [if_neg k2, if_neg k3]
      by_cases hc : vecB Y = true ∧ (vadd d.2 Y).isSome = true
      · rw [if_pos hc, if_pos hc]
        by_cases hs : vecB V = true ∧ (vsub V (vout (vadd d.2 Y))).isSome = true
        · rw [if_pos hs, if_pos hs]
          by_cases he : ofA V = ofA d.1
          · rw [if_pos he, if_pos he]; exact ⟨rfl, hb.repl hx⟩
          · rw [if_neg he, if_neg he]; exact ⟨rfl, hb⟩
        · rw [if_neg hs, if_neg hs]; exact ⟨rfl, hb⟩
      · rw [if_neg hc, if_neg hc]; exact ⟨rfl, hb⟩
end Go.Vc.J

/- The formulas of functions, printed by a program (VcTool.lean): each is what the generator's formula comes to, by the kernel's reckoning; whoever proves one has the function's contract. -/
set_option maxRecDepth 100000
set_option maxHeartbeats 1000000
set_option linter.unusedVariables false
namespace Vct
open Go Go.Vc Go.RowKit
/-! (manciple/mancipleref22.M).register -/
def h103 : Hints := ⟨[2, 3, 4], [36, 54, 59], [25, 32, 41, 50, 62, 69, 14, 20], [(5, [0, 1, 2, 3, 4, 5, 6, 7, 8]), (12, [0, 1, 2, 3, 4, 5, 6, 7, 8, 9])], [], [(10, ⟨[(10, .int .i64)], [(4, .cons (.int .i64) (.cons (.int .i64) (.cons (.sl) (.nil))))]⟩)], [(3, ⟨[], [(4, .cons (.int .i64) (.cons (.int .i64) (.cons (.sl) (.nil))))]⟩), (9, ⟨[(8, .addr), (9, .addr)], []⟩), (14, ⟨[], [(4, .cons (.int .i64) (.cons (.int .i64) (.cons (.sl) (.nil))))]⟩)], [], [(8, (.op 0 (.op 2 (.op 3 (.alt (.op 1 (.alt (.op 4 (.alt (.op 5 (.op 6 (.op 7 (.op 8 .nil)))) (.op 6 (.op 5 (.op 7 (.op 8 .nil)))))) (.alt (.op 5 (.alt (.op 4 (.op 6 (.op 7 (.op 8 .nil)))) (.op 6 (.op 4 (.op 7 (.op 8 .nil)))))) (.op 6 (.alt (.op 4 (.op 5 (.op 7 (.op 8 .nil)))) (.op 5 (.op 4 (.op 7 (.op 8 .nil))))))))) (.alt (.op 5 (.alt (.op 1 (.alt (.op 4 (.op 6 (.op 7 (.op 8 .nil)))) (.op 6 (.op 4 (.op 7 (.op 8 .nil)))))) (.op 6 (.op 1 (.op 4 (.op 7 (.op 8 .nil))))))) (.op 6 (.alt (.op 1 (.alt (.op 4 (.op 5 (.op 7 (.op 8 .nil)))) (.op 5 (.op 4 (.op 7 (.op 8 .nil)))))) (.op 5 (.op 1 (.op 4 (.op 7 (.op 8 .nil)))))))))))))]⟩
def f103_vc (m_0 : Int) (m_1 : Int) (m_2a : Option Addr) (m_2n : Nat) (m_2c : Nat) (a_0 : Int) (a_1 : Int) (a_2a : Option Addr) (a_2n : Nat) (a_2c : Nat) (a_3a : Option Addr) (a_3n : Nat) (a_3c : Nat) (w : World) (R : Ending → World → Prop) : Prop :=
 ∀ (n1 : Nat),
 w.heap.size ≤ n1 →
 ∀ (n2 : Nat),
 w.heap.size ≤ n2 →
 ∀ (n3 : Nat),
 w.heap.size ≤ n3 →
 ∃ (J4 : Int × Int × (Option Addr × Nat × Nat) × Unit → World → Prop),
 ((decide (a_1 < 1) = true →
 ∀ (w5 : World),
 Evo [n3] w w5 →
 Under [n1, n2, n3] w5 → R (Ending.returned (Value.tuple #[Value.agg #[Value.int IntKind.i64 m_0, Value.int IntKind.i64 m_1, Value.slice m_2a m_2n m_2c], Value.bool false, Value.int IntKind.i64 41])) w5) ∧
 (decide (a_1 < 1) = false →
 (((↑a_2n : Int) == 0) = true →
 ∀ (w6 : World),
 Evo [n3] w w6 →
 Under [n1, n2, n3] w6 → R (Ending.returned (Value.tuple #[Value.agg #[Value.int IntKind.i64 m_0, Value.int IntKind.i64 m_1, Value.slice m_2a m_2n m_2c], Value.bool false, Value.int IntKind.i64 41])) w6) ∧
 (((↑a_2n : Int) == 0) = false →
 ∀ (w7 : World),
 Bel w w7 →
 Under [n1, n2, n3] w7 →
 Calls Proofs.Try.prog 83 #[Value.slice a_2a a_2n a_2c] w7 fun (e8 : Ending) (w9 : World) =>
 ∃ (b10 : Bool),
 e8 = Ending.returned (Value.bool b10) ∧
 Keeps [n1, n2, n3] w7 w9 ∧
 ((!b10) = true →
 ∀ (w11 : World),
 Evo [n3] w9 w11 →
 Under [n1, n2, n3] w11 →
 R (Ending.returned (Value.tuple #[Value.agg #[Value.int IntKind.i64 m_0, Value.int IntKind.i64 m_1, Value.slice m_2a m_2n m_2c], Value.bool false, Value.int IntKind.i64 41])) w11) ∧
 ((!b10) = false → J4 (0, 0, (none, 0, 0), ()) w9)))) ∧
 ∀ (x12 x13 : Int) (a14 : Option Addr) (n15 n16 : Nat) (w17 : World),
 J4 (x12, x13, (a14, n15, n16), ()) w17 →
 Calls Proofs.Try.prog 55 #[Value.agg #[Value.int IntKind.i64 m_0, Value.int IntKind.i64 m_1, Value.slice m_2a m_2n m_2c], Value.int IntKind.i64 a_1] w17 fun (e18 : Ending) (w19 : World) =>
 ∃ (x20 : Int),
 e18 = Ending.returned (Value.int IntKind.i64 x20) ∧
 Keeps [n1, n2, n3] w17 w19 ∧
 (decide (x20 ≥ 0) = true →
 ∃ (ad21 : Addr),
 Gives Proofs.Try.prog (Instr.indexAt 81 (Value.slice m_2a m_2n m_2c) (Value.int IntKind.i64 x20)) (Value.pointer (some ad21)) ∧
 ∃ (a22 : Option Addr),
 ∃ (n23 : Nat),
 ∃ (n24 : Nat),
 Reads Proofs.Try.prog [] (Instr.loadAt 23 (Value.pointer (some (Addr.mk ad21.block (ad21.off + 1) none)))) w19 (Value.slice a22 n23 n24) ∧
 ∀ (w25 : World),
 Bel w19 w25 →
 Under [n1, n2, n3] w25 →
 Calls Proofs.Try.prog 82 #[Value.slice a22 n23 n24, Value.slice a_2a a_2n a_2c] w25 fun (e26 : Ending) (w27 : World) =>
 ∃ (b28 : Bool),
 e26 = Ending.returned (Value.bool b28) ∧
 Keeps [n1, n2, n3] w25 w27 ∧
 (b28 = true →
 ∀ (w29 : World),
 Evo [n3] w27 w29 →
 Under [n1, n2, n3] w29 →
 R
 (Ending.returned
 (Value.tuple #[Value.agg #[Value.int IntKind.i64 m_0, Value.int IntKind.i64 m_1, Value.slice m_2a m_2n m_2c], Value.bool false, Value.int IntKind.i64 0]))
 w29) ∧
 (b28 = false →
 ∀ (w30 : World),
 Evo [n3] w27 w30 →
 Under [n1, n2, n3] w30 →
 R
 (Ending.returned
 (Value.tuple #[Value.agg #[Value.int IntKind.i64 m_0, Value.int IntKind.i64 m_1, Value.slice m_2a m_2n m_2c], Value.bool false, Value.int IntKind.i64 20]))
 w30)) ∧
 (decide (x20 ≥ 0) = false →
 ∃ (J31 : Addr × Addr × Unit → World → Prop),
 ((∀ (w32 : World),
 Bel w19 w32 →
 Under [n1, n2, n3] w32 →
 Calls Proofs.Try.prog 56 #[Value.agg #[Value.int IntKind.i64 m_0, Value.int IntKind.i64 m_1, Value.slice m_2a m_2n m_2c], Value.bool false] w32 fun (e33 : Ending) (w34 : World) =>
 ∃ (x35 : Int),
 ∃ (x36 : Int),
 ∃ (x37 : Int),
 ∃ (x38 : Int),
 e33 = Ending.returned (Value.agg #[Value.int IntKind.i64 x35, Value.int IntKind.i64 x36, Value.int IntKind.i64 x37, Value.int IntKind.i64 x38]) ∧
 Keeps [n1, n2, n3] w32 w34 ∧
 (Calls Proofs.Try.prog 89 #[Value.slice a_2a a_2n a_2c] w34 fun (e39 : Ending) (w40 : World) =>
 ∃ (x41 : Int),
 ∃ (x42 : Int),
 ∃ (x43 : Int),
 ∃ (x44 : Int),
 e39 = Ending.returned (Value.agg #[Value.int IntKind.i64 x41, Value.int IntKind.i64 x42, Value.int IntKind.i64 x43, Value.int IntKind.i64 x44]) ∧
 Keeps [n1, n2, n3] w34 w40 ∧
 (OpW Proofs.Try.prog (valueS (Instr.alloc 64 true (Value.tuple #[]))) w40 fun (v45 : Value) (w46 : World) =>
 ∃ (ad47 : Addr),
 v45 = Value.pointer (some ad47) ∧
 Keeps [n1, n2, n3] w40 w46 ∧
 OpW Proofs.Try.prog (valueS (Instr.alloc 64 true (Value.tuple #[]))) w46 fun (v48 : Value) (w49 : World) =>
 ∃ (ad50 : Addr),
 v48 = Value.pointer (some ad50) ∧
 Keeps [n1, n2, n3] w46 w49 ∧
 OpW Proofs.Try.prog
 (skipS
 (Instr.storeAt 64 (Value.pointer (some ad47))
 (Value.agg #[Value.int IntKind.i64 x35, Value.int IntKind.i64 x36, Value.int IntKind.i64 x37, Value.int IntKind.i64 x38])))
 w49 fun (v51 : Value) (w52 : World) =>
 Keeps [n1, n2, n3] w49 w52 ∧
 OpW Proofs.Try.prog
 (skipS
 (Instr.storeAt 64 (Value.pointer (some ad50))
 (Value.agg #[Value.int IntKind.i64 x41, Value.int IntKind.i64 x42, Value.int IntKind.i64 x43, Value.int IntKind.i64 x44])))
 w52 fun (v53 : Value) (w54 : World) => Keeps [n1, n2, n3] w52 w54 ∧ J31 (ad47, ad50, ()) w54) ∧
 OpW Proofs.Try.prog (valueS (Instr.alloc 64 true (Value.tuple #[]))) w40 fun (v55 : Value) (w56 : World) =>
 ∃ (ad57 : Addr),
 v55 = Value.pointer (some ad57) ∧
 Keeps [n1, n2, n3] w40 w56 ∧
 OpW Proofs.Try.prog (valueS (Instr.alloc 64 true (Value.tuple #[]))) w56 fun (v58 : Value) (w59 : World) =>
 ∃ (ad60 : Addr),
 v58 = Value.pointer (some ad60) ∧
 Keeps [n1, n2, n3] w56 w59 ∧
 OpW Proofs.Try.prog
 (skipS
 (Instr.storeAt 64 (Value.pointer (some ad60))
 (Value.agg #[Value.int IntKind.i64 x35, Value.int IntKind.i64 x36, Value.int IntKind.i64 x37, Value.int IntKind.i64 x38])))
 w59 fun (v61 : Value) (w62 : World) =>
 Keeps [n1, n2, n3] w59 w62 ∧
 OpW Proofs.Try.prog
 (skipS
 (Instr.storeAt 64 (Value.pointer (some ad57))
 (Value.agg #[Value.int IntKind.i64 x41, Value.int IntKind.i64 x42, Value.int IntKind.i64 x43, Value.int IntKind.i64 x44])))
 w62 fun (v63 : Value) (w64 : World) => Keeps [n1, n2, n3] w62 w64 ∧ J31 (ad60, ad57, ()) w64) ∧
 (OpW Proofs.Try.prog (valueS (Instr.alloc 64 true (Value.tuple #[]))) w34 fun (v65 : Value) (w66 : World) =>
 ∃ (ad67 : Addr),
 v65 = Value.pointer (some ad67) ∧
 Keeps [n1, n2, n3] w34 w66 ∧
 (Calls Proofs.Try.prog 89 #[Value.slice a_2a a_2n a_2c] w66 fun (e68 : Ending) (w69 : World) =>
 ∃ (x70 : Int),
 ∃ (x71 : Int),
 ∃ (x72 : Int),
 ∃ (x73 : Int),
 e68 = Ending.returned (Value.agg #[Value.int IntKind.i64 x70, Value.int IntKind.i64 x71, Value.int IntKind.i64 x72, Value.int IntKind.i64 x73]) ∧
 Keeps [n1, n2, n3] w66 w69 ∧
 OpW Proofs.Try.prog (valueS (Instr.alloc 64 true (Value.tuple #[]))) w69 fun (v74 : Value) (w75 : World) =>
 ∃ (ad76 : Addr),
 v74 = Value.pointer (some ad76) ∧
 Keeps [n1, n2, n3] w69 w75 ∧
 OpW Proofs.Try.prog
 (skipS
 (Instr.storeAt 64 (Value.pointer (some ad67))
 (Value.agg #[Value.int IntKind.i64 x35, Value.int IntKind.i64 x36, Value.int IntKind.i64 x37, Value.int IntKind.i64 x38])))
 w75 fun (v77 : Value) (w78 : World) =>
 Keeps [n1, n2, n3] w75 w78 ∧
 OpW Proofs.Try.prog
 (skipS
 (Instr.storeAt 64 (Value.pointer (some ad76))
 (Value.agg #[Value.int IntKind.i64 x70, Value.int IntKind.i64 x71, Value.int IntKind.i64 x72, Value.int IntKind.i64 x73])))
 w78 fun (v79 : Value) (w80 : World) => Keeps [n1, n2, n3] w78 w80 ∧ J31 (ad67, ad76, ()) w80) ∧
 OpW Proofs.Try.prog (valueS (Instr.alloc 64 true (Value.tuple #[]))) w66 fun (v81 : Value) (w82 : World) =>
 ∃ (ad83 : Addr),
 v81 = Value.pointer (some ad83) ∧
 Keeps [n1, n2, n3] w66 w82 ∧
 Calls Proofs.Try.prog 89 #[Value.slice a_2a a_2n a_2c] w82 fun (e84 : Ending) (w85 : World) =>
 ∃ (x86 : Int),
 ∃ (x87 : Int),
 ∃ (x88 : Int),
 ∃ (x89 : Int),
 e84 = Ending.returned (Value.agg #[Value.int IntKind.i64 x86, Value.int IntKind.i64 x87, Value.int IntKind.i64 x88, Value.int IntKind.i64 x89]) ∧
 Keeps [n1, n2, n3] w82 w85 ∧
 OpW Proofs.Try.prog
 (skipS
 (Instr.storeAt 64 (Value.pointer (some ad67))
 (Value.agg #[Value.int IntKind.i64 x35, Value.int IntKind.i64 x36, Value.int IntKind.i64 x37, Value.int IntKind.i64 x38])))
 w85 fun (v90 : Value) (w91 : World) =>
 Keeps [n1, n2, n3] w85 w91 ∧
 OpW Proofs.Try.prog
 (skipS
 (Instr.storeAt 64 (Value.pointer (some ad83))
 (Value.agg #[Value.int IntKind.i64 x86, Value.int IntKind.i64 x87, Value.int IntKind.i64 x88, Value.int IntKind.i64 x89])))
 w91 fun (v92 : Value) (w93 : World) => Keeps [n1, n2, n3] w91 w93 ∧ J31 (ad67, ad83, ()) w93) ∧
 OpW Proofs.Try.prog (valueS (Instr.alloc 64 true (Value.tuple #[]))) w34 fun (v94 : Value) (w95 : World) =>
 ∃ (ad96 : Addr),
 v94 = Value.pointer (some ad96) ∧
 Keeps [n1, n2, n3] w34 w95 ∧
 (Calls Proofs.Try.prog 89 #[Value.slice a_2a a_2n a_2c] w95 fun (e97 : Ending) (w98 : World) =>
 ∃ (x99 : Int),
 ∃ (x100 : Int),
 ∃ (x101 : Int),
 ∃ (x102 : Int),
 e97 = Ending.returned (Value.agg #[Value.int IntKind.i64 x99, Value.int IntKind.i64 x100, Value.int IntKind.i64 x101, Value.int IntKind.i64 x102]) ∧
 Keeps [n1, n2, n3] w95 w98 ∧
 OpW Proofs.Try.prog (valueS (Instr.alloc 64 true (Value.tuple #[]))) w98 fun (v103 : Value) (w104 : World) =>
 ∃ (ad105 : Addr),
 v103 = Value.pointer (some ad105) ∧
 Keeps [n1, n2, n3] w98 w104 ∧
 OpW Proofs.Try.prog
 (skipS
 (Instr.storeAt 64 (Value.pointer (some ad105))
 (Value.agg #[Value.int IntKind.i64 x35, Value.int IntKind.i64 x36, Value.int IntKind.i64 x37, Value.int IntKind.i64 x38])))
 w104 fun (v106 : Value) (w107 : World) =>
 Keeps [n1, n2, n3] w104 w107 ∧
 OpW Proofs.Try.prog
 (skipS
 (Instr.storeAt 64 (Value.pointer (some ad96))
 (Value.agg #[Value.int IntKind.i64 x99, Value.int IntKind.i64 x100, Value.int IntKind.i64 x101, Value.int IntKind.i64 x102])))
 w107 fun (v108 : Value) (w109 : World) => Keeps [n1, n2, n3] w107 w109 ∧ J31 (ad105, ad96, ()) w109) ∧
 OpW Proofs.Try.prog (valueS (Instr.alloc 64 true (Value.tuple #[]))) w95 fun (v110 : Value) (w111 : World) =>
 ∃ (ad112 : Addr),
 v110 = Value.pointer (some ad112) ∧
 Keeps [n1, n2, n3] w95 w111 ∧
 Calls Proofs.Try.prog 89 #[Value.slice a_2a a_2n a_2c] w111 fun (e113 : Ending) (w114 : World) =>
 ∃ (x115 : Int),
 ∃ (x116 : Int),
 ∃ (x117 : Int),
 ∃ (x118 : Int),
 e113 = Ending.returned (Value.agg #[Value.int IntKind.i64 x115, Value.int IntKind.i64 x116, Value.int IntKind.i64 x117, Value.int IntKind.i64 x118]) ∧
 Keeps [n1, n2, n3] w111 w114 ∧
 OpW Proofs.Try.prog
 (skipS
 (Instr.storeAt 64 (Value.pointer (some ad112))
 (Value.agg #[Value.int IntKind.i64 x35, Value.int IntKind.i64 x36, Value.int IntKind.i64 x37, Value.int IntKind.i64 x38])))
 w114 fun (v119 : Value) (w120 : World) =>
 Keeps [n1, n2, n3] w114 w120 ∧
 OpW Proofs.Try.prog
 (skipS
 (Instr.storeAt 64 (Value.pointer (some ad96))
 (Value.agg #[Value.int IntKind.i64 x115, Value.int IntKind.i64 x116, Value.int IntKind.i64 x117, Value.int IntKind.i64 x118])))
 w120 fun (v121 : Value) (w122 : World) => Keeps [n1, n2, n3] w120 w122 ∧ J31 (ad112, ad96, ()) w122) ∧
 (∀ (w123 : World),
 Bel w19 w123 →
 Under [n1, n2, n3] w123 →
 OpW Proofs.Try.prog (valueS (Instr.alloc 64 true (Value.tuple #[]))) w123 fun (v124 : Value) (w125 : World) =>
 ∃ (ad126 : Addr),
 v124 = Value.pointer (some ad126) ∧
 Keeps [n1, n2, n3] w123 w125 ∧
 (Calls Proofs.Try.prog 56 #[Value.agg #[Value.int IntKind.i64 m_0, Value.int IntKind.i64 m_1, Value.slice m_2a m_2n m_2c], Value.bool false] w125 fun (e127 : Ending) (w128 : World) =>
 ∃ (x129 : Int),
 ∃ (x130 : Int),
 ∃ (x131 : Int),
 ∃ (x132 : Int),
 e127 = Ending.returned (Value.agg #[Value.int IntKind.i64 x129, Value.int IntKind.i64 x130, Value.int IntKind.i64 x131, Value.int IntKind.i64 x132]) ∧
 Keeps [n1, n2, n3] w125 w128 ∧
 (Calls Proofs.Try.prog 89 #[Value.slice a_2a a_2n a_2c] w128 fun (e133 : Ending) (w134 : World) =>
 ∃ (x135 : Int),
 ∃ (x136 : Int),
 ∃ (x137 : Int),
 ∃ (x138 : Int),
 e133 = Ending.returned (Value.agg #[Value.int IntKind.i64 x135, Value.int IntKind.i64 x136, Value.int IntKind.i64 x137, Value.int IntKind.i64 x138]) ∧
 Keeps [n1, n2, n3] w128 w134 ∧
 OpW Proofs.Try.prog (valueS (Instr.alloc 64 true (Value.tuple #[]))) w134 fun (v139 : Value) (w140 : World) =>
 ∃ (ad141 : Addr),
 v139 = Value.pointer (some ad141) ∧
 Keeps [n1, n2, n3] w134 w140 ∧
 OpW Proofs.Try.prog
 (skipS
 (Instr.storeAt 64 (Value.pointer (some ad126))
 (Value.agg #[Value.int IntKind.i64 x129, Value.int IntKind.i64 x130, Value.int IntKind.i64 x131, Value.int IntKind.i64 x132])))
 w140 fun (v142 : Value) (w143 : World) =>
 Keeps [n1, n2, n3] w140 w143 ∧
 OpW Proofs.Try.prog
 (skipS
 (Instr.storeAt 64 (Value.pointer (some ad141))
 (Value.agg #[Value.int IntKind.i64 x135, Value.int IntKind.i64 x136, Value.int IntKind.i64 x137, Value.int IntKind.i64 x138])))
 w143 fun (v144 : Value) (w145 : World) => Keeps [n1, n2, n3] w143 w145 ∧ J31 (ad126, ad141, ()) w145) ∧
 OpW Proofs.Try.prog (valueS (Instr.alloc 64 true (Value.tuple #[]))) w128 fun (v146 : Value) (w147 : World) =>
 ∃ (ad148 : Addr),
 v146 = Value.pointer (some ad148) ∧
 Keeps [n1, n2, n3] w128 w147 ∧
 Calls Proofs.Try.prog 89 #[Value.slice a_2a a_2n a_2c] w147 fun (e149 : Ending) (w150 : World) =>
 ∃ (x151 : Int),
 ∃ (x152 : Int),
 ∃ (x153 : Int),
 ∃ (x154 : Int),
 e149 = Ending.returned (Value.agg #[Value.int IntKind.i64 x151, Value.int IntKind.i64 x152, Value.int IntKind.i64 x153, Value.int IntKind.i64 x154]) ∧
 Keeps [n1, n2, n3] w147 w150 ∧
 OpW Proofs.Try.prog
 (skipS
 (Instr.storeAt 64 (Value.pointer (some ad126))
 (Value.agg #[Value.int IntKind.i64 x129, Value.int IntKind.i64 x130, Value.int IntKind.i64 x131, Value.int IntKind.i64 x132])))
 w150 fun (v155 : Value) (w156 : World) =>
 Keeps [n1, n2, n3] w150 w156 ∧
 OpW Proofs.Try.prog
 (skipS
 (Instr.storeAt 64 (Value.pointer (some ad148))
 (Value.agg #[Value.int IntKind.i64 x151, Value.int IntKind.i64 x152, Value.int IntKind.i64 x153, Value.int IntKind.i64 x154])))
 w156 fun (v157 : Value) (w158 : World) => Keeps [n1, n2, n3] w156 w158 ∧ J31 (ad126, ad148, ()) w158) ∧
 OpW Proofs.Try.prog (valueS (Instr.alloc 64 true (Value.tuple #[]))) w125 fun (v159 : Value) (w160 : World) =>
 ∃ (ad161 : Addr),
 v159 = Value.pointer (some ad161) ∧
 Keeps [n1, n2, n3] w125 w160 ∧
 Calls Proofs.Try.prog 56 #[Value.agg #[Value.int IntKind.i64 m_0, Value.int IntKind.i64 m_1, Value.slice m_2a m_2n m_2c], Value.bool false] w160
 fun (e162 : Ending) (w163 : World) =>
 ∃ (x164 : Int),
 ∃ (x165 : Int),
 ∃ (x166 : Int),
 ∃ (x167 : Int),
 e162 = Ending.returned (Value.agg #[Value.int IntKind.i64 x164, Value.int IntKind.i64 x165, Value.int IntKind.i64 x166, Value.int IntKind.i64 x167]) ∧
 Keeps [n1, n2, n3] w160 w163 ∧
 Calls Proofs.Try.prog 89 #[Value.slice a_2a a_2n a_2c] w163 fun (e168 : Ending) (w169 : World) =>
 ∃ (x170 : Int),
 ∃ (x171 : Int),
 ∃ (x172 : Int),
 ∃ (x173 : Int),
 e168 = Ending.returned (Value.agg #[Value.int IntKind.i64 x170, Value.int IntKind.i64 x171, Value.int IntKind.i64 x172, Value.int IntKind.i64 x173]) ∧
 Keeps [n1, n2, n3] w163 w169 ∧
 OpW Proofs.Try.prog
 (skipS
 (Instr.storeAt 64 (Value.pointer (some ad126))
 (Value.agg #[Value.int IntKind.i64 x164, Value.int IntKind.i64 x165, Value.int IntKind.i64 x166, Value.int IntKind.i64 x167])))
 w169 fun (v174 : Value) (w175 : World) =>
 Keeps [n1, n2, n3] w169 w175 ∧
 OpW Proofs.Try.prog
 (skipS
 (Instr.storeAt 64 (Value.pointer (some ad161))
 (Value.agg #[Value.int IntKind.i64 x170, Value.int IntKind.i64 x171, Value.int IntKind.i64 x172, Value.int IntKind.i64 x173])))
 w175 fun (v176 : Value) (w177 : World) => Keeps [n1, n2, n3] w175 w177 ∧ J31 (ad126, ad161, ()) w177) ∧
 ∀ (w178 : World),
 Bel w19 w178 →
 Under [n1, n2, n3] w178 →
 OpW Proofs.Try.prog (valueS (Instr.alloc 64 true (Value.tuple #[]))) w178 fun (v179 : Value) (w180 : World) =>
 ∃ (ad181 : Addr),
 v179 = Value.pointer (some ad181) ∧
 Keeps [n1, n2, n3] w178 w180 ∧
 (Calls Proofs.Try.prog 56 #[Value.agg #[Value.int IntKind.i64 m_0, Value.int IntKind.i64 m_1, Value.slice m_2a m_2n m_2c], Value.bool false] w180 fun (e182 : Ending) (w183 : World) =>
 ∃ (x184 : Int),
 ∃ (x185 : Int),
 ∃ (x186 : Int),
 ∃ (x187 : Int),
 e182 = Ending.returned (Value.agg #[Value.int IntKind.i64 x184, Value.int IntKind.i64 x185, Value.int IntKind.i64 x186, Value.int IntKind.i64 x187]) ∧
 Keeps [n1, n2, n3] w180 w183 ∧
 (Calls Proofs.Try.prog 89 #[Value.slice a_2a a_2n a_2c] w183 fun (e188 : Ending) (w189 : World) =>
 ∃ (x190 : Int),
 ∃ (x191 : Int),
 ∃ (x192 : Int),
 ∃ (x193 : Int),
 e188 = Ending.returned (Value.agg #[Value.int IntKind.i64 x190, Value.int IntKind.i64 x191, Value.int IntKind.i64 x192, Value.int IntKind.i64 x193]) ∧
 Keeps [n1, n2, n3] w183 w189 ∧
 OpW Proofs.Try.prog (valueS (Instr.alloc 64 true (Value.tuple #[]))) w189 fun (v194 : Value) (w195 : World) =>
 ∃ (ad196 : Addr),
 v194 = Value.pointer (some ad196) ∧
 Keeps [n1, n2, n3] w189 w195 ∧
 OpW Proofs.Try.prog
 (skipS
 (Instr.storeAt 64 (Value.pointer (some ad196))
 (Value.agg #[Value.int IntKind.i64 x184, Value.int IntKind.i64 x185, Value.int IntKind.i64 x186, Value.int IntKind.i64 x187])))
 w195 fun (v197 : Value) (w198 : World) =>
 Keeps [n1, n2, n3] w195 w198 ∧
 OpW Proofs.Try.prog
 (skipS
 (Instr.storeAt 64 (Value.pointer (some ad181))
 (Value.agg #[Value.int IntKind.i64 x190, Value.int IntKind.i64 x191, Value.int IntKind.i64 x192, Value.int IntKind.i64 x193])))
 w198 fun (v199 : Value) (w200 : World) => Keeps [n1, n2, n3] w198 w200 ∧ J31 (ad196, ad181, ()) w200) ∧
 OpW Proofs.Try.prog (valueS (Instr.alloc 64 true (Value.tuple #[]))) w183 fun (v201 : Value) (w202 : World) =>
 ∃ (ad203 : Addr),
 v201 = Value.pointer (some ad203) ∧
 Keeps [n1, n2, n3] w183 w202 ∧
 Calls Proofs.Try.prog 89 #[Value.slice a_2a a_2n a_2c] w202 fun (e204 : Ending) (w205 : World) =>
 ∃ (x206 : Int),
 ∃ (x207 : Int),
 ∃ (x208 : Int),
 ∃ (x209 : Int),
 e204 = Ending.returned (Value.agg #[Value.int IntKind.i64 x206, Value.int IntKind.i64 x207, Value.int IntKind.i64 x208, Value.int IntKind.i64 x209]) ∧
 Keeps [n1, n2, n3] w202 w205 ∧
 OpW Proofs.Try.prog
 (skipS
 (Instr.storeAt 64 (Value.pointer (some ad203))
 (Value.agg #[Value.int IntKind.i64 x184, Value.int IntKind.i64 x185, Value.int IntKind.i64 x186, Value.int IntKind.i64 x187])))
 w205 fun (v210 : Value) (w211 : World) =>
 Keeps [n1, n2, n3] w205 w211 ∧
 OpW Proofs.Try.prog
 (skipS
 (Instr.storeAt 64 (Value.pointer (some ad181))
 (Value.agg #[Value.int IntKind.i64 x206, Value.int IntKind.i64 x207, Value.int IntKind.i64 x208, Value.int IntKind.i64 x209])))
 w211 fun (v212 : Value) (w213 : World) => Keeps [n1, n2, n3] w211 w213 ∧ J31 (ad203, ad181, ()) w213) ∧
 OpW Proofs.Try.prog (valueS (Instr.alloc 64 true (Value.tuple #[]))) w180 fun (v214 : Value) (w215 : World) =>
 ∃ (ad216 : Addr),
 v214 = Value.pointer (some ad216) ∧
 Keeps [n1, n2, n3] w180 w215 ∧
 Calls Proofs.Try.prog 56 #[Value.agg #[Value.int IntKind.i64 m_0, Value.int IntKind.i64 m_1, Value.slice m_2a m_2n m_2c], Value.bool false] w215
 fun (e217 : Ending) (w218 : World) =>
 ∃ (x219 : Int),
 ∃ (x220 : Int),
 ∃ (x221 : Int),
 ∃ (x222 : Int),
 e217 = Ending.returned (Value.agg #[Value.int IntKind.i64 x219, Value.int IntKind.i64 x220, Value.int IntKind.i64 x221, Value.int IntKind.i64 x222]) ∧
 Keeps [n1, n2, n3] w215 w218 ∧
 Calls Proofs.Try.prog 89 #[Value.slice a_2a a_2n a_2c] w218 fun (e223 : Ending) (w224 : World) =>
 ∃ (x225 : Int),
 ∃ (x226 : Int),
 ∃ (x227 : Int),
 ∃ (x228 : Int),
 e223 = Ending.returned (Value.agg #[Value.int IntKind.i64 x225, Value.int IntKind.i64 x226, Value.int IntKind.i64 x227, Value.int IntKind.i64 x228]) ∧
 Keeps [n1, n2, n3] w218 w224 ∧
 OpW Proofs.Try.prog
 (skipS
 (Instr.storeAt 64 (Value.pointer (some ad216))
 (Value.agg #[Value.int IntKind.i64 x219, Value.int IntKind.i64 x220, Value.int IntKind.i64 x221, Value.int IntKind.i64 x222])))
 w224 fun (v229 : Value) (w230 : World) =>
 Keeps [n1, n2, n3] w224 w230 ∧
 OpW Proofs.Try.prog
 (skipS
 (Instr.storeAt 64 (Value.pointer (some ad181))
 (Value.agg #[Value.int IntKind.i64 x225, Value.int IntKind.i64 x226, Value.int IntKind.i64 x227, Value.int IntKind.i64 x228])))
 w230 fun (v231 : Value) (w232 : World) => Keeps [n1, n2, n3] w230 w232 ∧ J31 (ad216, ad181, ()) w232) ∧
 ∀ (ad233 ad234 : Addr) (w235 : World),
 J31 (ad233, ad234, ()) w235 →
 ∃ (J236 : Int × Int × (Option Addr × Nat × Nat) × Unit → World → Prop),
 (∃ (J237 : Int × Int × Int × (Option Addr × Nat × Nat) × Unit → World → Prop),
 ∃ (J238 : Int × Int × Int × (Option Addr × Nat × Nat) × Unit → World → Nat),
 J237 (0, x12, x13, (a14, n15, n16), ()) w235 ∧
 ∀ (x239 x240 x241 : Int) (a242 : Option Addr) (n243 n244 : Nat) (w245 : World),
 J237 (x239, x240, x241, (a242, n243, n244), ()) w245 →
 (decide (x239 < 4) = true →
 ∃ (ad246 : Addr),
 Gives Proofs.Try.prog (Instr.indexAt 64 (Value.pointer (some ad234)) (Value.int IntKind.i64 x239)) (Value.pointer (some ad246)) ∧
 ∃ (x247 : Int),
 Reads Proofs.Try.prog [] (Instr.loadAt 2 (Value.pointer (some ad246))) w245 (Value.int IntKind.i64 x247) ∧
 ∃ (ad248 : Addr),
 Gives Proofs.Try.prog (Instr.indexAt 64 (Value.pointer (some ad233)) (Value.int IntKind.i64 x239)) (Value.pointer (some ad248)) ∧
 ∃ (x249 : Int),
 Reads Proofs.Try.prog [] (Instr.loadAt 2 (Value.pointer (some ad248))) w245 (Value.int IntKind.i64 x249) ∧
 (decide (x247 > IntKind.i64.wrap (m_1 - x249)) = true →
 ∀ (w250 : World),
 Evo [n3] w245 w250 →
 Under [n1, n2, n3] w250 →
 R
 (Ending.returned
 (Value.tuple
 #[Value.agg #[Value.int IntKind.i64 m_0, Value.int IntKind.i64 m_1, Value.slice m_2a m_2n m_2c], Value.bool false, Value.int IntKind.i64 31]))
 w250) ∧
 (decide (x247 > IntKind.i64.wrap (m_1 - x249)) = false →
 ∀ (w251 : World),
 Bel w245 w251 →
 Under [n1, n2, n3] w251 →
 J237 (IntKind.i64.wrap (x239 + 1), x240, x241, (a242, n243, n244), ()) w251 ∧
 J238 (IntKind.i64.wrap (x239 + 1), x240, x241, (a242, n243, n244), ()) w251 < J238 (x239, x240, x241, (a242, n243, n244), ()) w245)) ∧
 (decide (x239 < 4) = false → J236 (x240, x241, (a242, n243, n244), ()) w245)) ∧
 ∀ (x252 x253 : Int) (a254 : Option Addr) (n255 n256 : Nat) (w257 : World),
 J236 (x252, x253, (a254, n255, n256), ()) w257 →
 (decide ((↑m_2n : Int) ≥ m_0) = true →
 ∀ (w258 : World),
 Evo [n3] w257 w258 →
 Under [n1, n2, n3] w258 →
 R (Ending.returned (Value.tuple #[Value.agg #[Value.int IntKind.i64 m_0, Value.int IntKind.i64 m_1, Value.slice m_2a m_2n m_2c], Value.bool false, Value.int IntKind.i64 32])) w258) ∧
 (decide ((↑m_2n : Int) ≥ m_0) = false →
 Calls Proofs.Try.prog 107
 #[Value.agg #[Value.int IntKind.i64 m_0, Value.int IntKind.i64 m_1, Value.slice m_2a m_2n m_2c],
 Value.agg #[Value.int IntKind.i64 a_1, Value.slice a_2a a_2n a_2c, Value.slice a_2a a_2n a_2c]]
 w257 fun (e259 : Ending) (w260 : World) =>
 ∃ (x261 : Int),
 ∃ (x262 : Int),
 ∃ (a263 : Option Addr),
 ∃ (n264 : Nat),
 ∃ (n265 : Nat),
 e259 = Ending.returned (Value.agg #[Value.int IntKind.i64 x261, Value.int IntKind.i64 x262, Value.slice a263 n264 n265]) ∧
 Keeps [n1, n2, n3] w257 w260 ∧
 ∀ (w266 : World),
 Evo [n3] w260 w266 →
 Under [n1, n2, n3] w266 →
 R
 (Ending.returned
 (Value.tuple #[Value.agg #[Value.int IntKind.i64 x261, Value.int IntKind.i64 x262, Value.slice a263 n264 n265], Value.bool true, Value.int IntKind.i64 0]))
 w266))
theorem f103_eq (m_0 : Int) (m_1 : Int) (m_2a : Option Addr) (m_2n : Nat) (m_2c : Nat) (a_0 : Int) (a_1 : Int) (a_2a : Option Addr) (a_2n : Nat) (a_2c : Nat) (a_3a : Option Addr) (a_3n : Nat) (a_3c : Nat) (w : World) (R : Ending → World → Prop) : (fnF Go.Proofs.Try.prog h103 Go.Proofs.Try.f103 [Value.agg #[Value.int IntKind.i64 m_0, Value.int IntKind.i64 m_1, Value.slice m_2a m_2n m_2c], Value.agg #[Value.int IntKind.i64 a_0, Value.int IntKind.i64 a_1, Value.slice a_2a a_2n a_2c, Value.slice a_3a a_3n a_3c]] w R).den = f103_vc m_0 m_1 m_2a m_2n m_2c a_0 a_1 a_2a a_2n a_2c a_3a a_3n a_3c w R := by kernel_rfl
theorem f103_calls (m_0 : Int) (m_1 : Int) (m_2a : Option Addr) (m_2n : Nat) (m_2c : Nat) (a_0 : Int) (a_1 : Int) (a_2a : Option Addr) (a_2n : Nat) (a_2c : Nat) (a_3a : Option Addr) (a_3n : Nat) (a_3c : Nat) (w : World) (R : Ending → World → Prop) (h : f103_vc m_0 m_1 m_2a m_2n m_2c a_0 a_1 a_2a a_2n a_2c a_3a a_3n a_3c w R) : Calls Go.Proofs.Try.prog 103 (List.toArray [Value.agg #[Value.int IntKind.i64 m_0, Value.int IntKind.i64 m_1, Value.slice m_2a m_2n m_2c], Value.agg #[Value.int IntKind.i64 a_0, Value.int IntKind.i64 a_1, Value.slice a_2a a_2n a_2c, Value.slice a_3a a_3n a_3c]]) w R :=
 fn_sound (H := h103) (fn := Go.Proofs.Try.f103) (by kernel_rfl) (by kernel_rfl) (by kernel_rfl) ((f103_eq m_0 m_1 m_2a m_2n m_2c a_0 a_1 a_2a a_2n a_2c a_3a a_3n a_3c w R).mpr h)

end Vct

/- The reference's agents: register. -/
set_option maxRecDepth 20000
set_option maxHeartbeats 2000000
namespace Go.Vc.J
open Go Go.Vc Go.Vc.V Go.RowKit Go.Proofs Vct

variable {w W W' W2 : World} {M N : Nat → Prop} {gs ds : List Nat} {g r : Nat} {cap most : Int}

theorem getL {L : List AgR} (hs : SrtA (L.map plR)) (i : Int) : (ixP (isA i) L 0 = -1 ∧ mget i (L.map plR) = none) ∨ ∃ (j : Nat) (y : AgR), ixP (isA i) L 0 = j ∧ L[j]? = some y ∧ y.1 = i ∧ mget i (L.map plR) = some y.2.1 := by
  rcases ixP_spec (p := isA i) L 0 with ⟨h1, h2⟩ | ⟨j, y, h1, h2, h3⟩
  · refine .inl ⟨h1, mget_none.2 fun hm => ?_⟩
    rw [List.map_map] at hm
    obtain ⟨z, hz, e⟩ := List.mem_map.1 hm
    have := h2 z hz
    rw [show isA i z = true from decide_eq_true e] at this
    cases this
  · have he : y.1 = i := of_decide_eq_true h3
    refine .inr ⟨j, y, by simpa using h1, h2, he, ?_⟩
    have := Go.Vc.mget_of_mem (k := y.1) (v := y.2.1) (srtA_nd hs) (List.mem_map.2 ⟨y, List.mem_of_getElem? h2, rfl⟩)
    rwa [he] at this
abbrev sR (s : Ar4) : Prop := sumR s.1 s.2.1 s.2.2.1 s.2.2.2
theorem adE_R (x y : Ar4) : sR (adE x y) := by
  unfold adE
  split
  · rename_i h; exact h.2.2
  · unfold sR sumR; decide
theorem sumX_R : ∀ (l : List (List PartT)) (s : Ar4), sR s → sR (sumX s l)
  | [], _, h => h
  | v :: l, s, _ => sumX_R l (adE s (ofA v)) (adE_R _ _)
abbrev s4V (s : Ar4) : List Value := [.int .i64 s.1, .int .i64 s.2.1, .int .i64 s.2.2.1, .int .i64 s.2.2.2]
abbrev s4L (s : Ar4) : List Int := [s.1, s.2.1, s.2.2.1, s.2.2.2]
theorem el4 {p : Nat} {s : Ar4} {y : Int} {k : Nat} (h : W.heap[p]? = some (.cells (s4V s).toArray 64 (0, 0))) (hy : (s4L s)[k]? = some y) : Elt W ((⟨p, 0, none⟩ : Addr).add (k * 1)) (intE y) := by
  intro j v hv
  have he := elt_cells h
  have hj : j = 0 := by have := (List.getElem?_eq_some_iff.1 hv).1; simp at this; omega
  subst hj
  have := he k (.int .i64 y) (by
    have e : s4V s = (s4L s).map (Value.int .i64) := rfl
    rw [e, List.getElem?_map, hy]
    rfl)
  rw [Nat.mul_one, addr_add_add _ _ _ rfl, Nat.add_zero]
  have ev : v = .int .i64 y := by simpa using hv.symm
  rw [ev]
  exact this
theorem c103 {L : List AgR} {a : Option Addr} {n c : Nat} {V : List PartT} {s1 s2 : Sl3} (k0 i : Int) (W : World) (h : RR W L a n c) (hL : L.length ≤ 1000) (hs : SrtA (L.map plR)) (hV : SlE W 3 partE V s1.1 s1.2.1 s1.2.2) (hm1 : 1 ≤ most) (hm2 : most ≤ 9007199254740992) :
    RetQ Try.prog 103 #[m3V cap most a n c, .agg #[.int .i64 k0, .int .i64 i, slV s1, slV s2]] W fun v w' =>
      (∃ e, (refR cap most (L.map plR) i V) = ((false, e), L.map plR) ∧ v = .tuple #[m3V cap most a n c, .bool false, .int .i64 e]) ∨ ((refR cap most (L.map plR) i V) = ((true, 0), withP (i, (V, V)) (L.map plR)) ∧ ∃ a' c', v = .tuple #[m3V cap most a' (withF (i, (V, V), (s1, s1)) L).length c', .bool true, .int .i64 0] ∧ OwnL W [] w' 89 3 agRE (.slice a' (withF (i, (V, V), (s1, s1)) L).length c') (withF (i, (V, V), (s1, s1)) L)) := by
  intro R hR
  refine f103_calls cap most a n c k0 i s1.1 s1.2.1 s1.2.2 s2.1 s2.2.1 s2.2.2 W R ?_
  unfold f103_vc
  have hn := h.sl.len_le
  have hn0 := h.sl.1
  have hnV := hV.1
  intro n1 hn1 n2 hn2 n3 hn3
  have out : ∀ {e : Int} {gs w'}, refR cap most (L.map plR) i V = ((false, e), L.map plR) → At W gs w' → R (.returned (.tuple #[m3V cap most a n c, .bool false, .int .i64 e])) w' := fun he hA => hR _ _ hA.below (.inl ⟨_, he, rfl⟩)
  have ev : ∀ {w1 w2 gs'}, At W [n1, n2, n3] w1 → Evo [n3] w1 w2 → Under gs' w2 → At W gs' w2 := fun hA hev hu => hA.evo (by simp; omega) hev hu
  refine ⟨fun _ W' => At W [n1, n2, n3] W' ∧ ¬ (i < 1 ∨ V = [] ∨ vecB V = false), brD (fun hlt w5 hev hu => out (if_pos (.inl hlt)) ((At.refl W).evo (by simp; omega) hev hu)) (fun hge => brE (fun h0 w6 hev hu => out (if_pos (.inr (.inl (List.eq_nil_of_length_eq_zero (by omega))))) ((At.refl W).evo (by simp; omega) hev hu)) (fun h0 w7 hb7 hu => ?_)), ?_⟩
  · have hA : At W [n1, n2, n3] w7 := ⟨((At.refl W).call hb7).chg, hu⟩
    refine at_callb hA (c83 w7 (hV.call hA.below)) fun w9 hA hk hb9 => ⟨_, rfl, hk, brNB (fun hv w11 hev hu => out (if_pos (.inr (.inr hv))) (ev hA hev hu)) (fun hv => ⟨hA, ?_⟩)⟩
    rintro (h | h | h)
    · exact hge h
    · exact h0 (by rw [hnV, h]; rfl)
    · rw [hv] at h; cases h
  · rintro x12 x13 a14 n15 n16 w17 ⟨hA, hr⟩
    refine at_callb hA (c55 cap most i w17 (h.sl.call hA.below)) fun w19 hA hk hb19 => ⟨_, rfl, hk, ?_⟩
    rcases getL hs i with ⟨e1, e2⟩ | ⟨j, y, e1, e2, e3, e4⟩
    · rw [e1]
      refine brD (fun hh => absurd hh (by decide)) (fun _ => ?_)
      have hA19 := hA
      generalize hS : sumX zA ((L.map plR).map (·.2.1)) = S
      have hSR : sR S := by rw [← hS]; exact sumX_R _ _ (by unfold sR sumR; decide)
      generalize hO : ofA V = O
      have hx56 : ∀ {w1}, At W [n1, n2, n3] w1 → Ret Try.prog 56 #[m3V cap most a n c, .bool false] w1 (a4V S) := fun hA => by
        have := c56 cap most false _ (h.keep (KeepC.of_bel hA.below))
        rw [← hS, List.map_map]
        exact this
      have hx89 : ∀ {w1}, At W [n1, n2, n3] w1 → Ret Try.prog 89 #[slV s1] w1 (a4V O) := fun hA => by
        rw [← hO]
        exact c89' _ (hV.call hA.below)
      let Z : World → Nat → Prop := fun w1 p => W.heap.size ≤ p ∧ p ∉ [n1, n2, n3] ∧ w1.heap[p]? = some (.cells (s4V zA).toArray 64 (0, 0))
      have Zb : ∀ {w1 w2 p}, Z w1 p → Bel w1 w2 → Z w2 p := fun hz hb => ⟨hz.1, hz.2.1, (hb.block (Array.getElem?_eq_some_iff.1 hz.2.2).1).trans hz.2.2⟩
      let St : World → List Nat → Prop := fun w1 ps => At W [n1, n2, n3] w1 ∧ ps.Nodup ∧ ∀ p ∈ ps, Z w1 p
      have stA : ∀ {w1 ps} {K : Ending → World → Prop}, St w1 ps → (∀ w2, St w2 ps → Keeps [n1, n2, n3] w1 w2 → K (.returned (a4V S)) w2) → Calls Try.prog 56 #[m3V cap most a n c, .bool false] w1 K := fun hs hK => at_callb hs.1 (hx56 hs.1) fun w2 hA hk hb => hK w2 ⟨hA, hs.2.1, fun p hp => Zb (hs.2.2 p hp) hb⟩ hk
      have stB : ∀ {w1 ps} {K : Ending → World → Prop}, St w1 ps → (∀ w2, St w2 ps → Keeps [n1, n2, n3] w1 w2 → K (.returned (a4V O)) w2) → Calls Try.prog 89 #[slV s1] w1 K := fun hs hK => at_callb hs.1 (hx89 hs.1) fun w2 hA hk hb => hK w2 ⟨hA, hs.2.1, fun p hp => Zb (hs.2.2 p hp) hb⟩ hk
      have stC : ∀ {w1 ps} {K : Value → World → Prop}, St w1 ps → (∀ p w2, St w2 (p :: ps) → Keeps [n1, n2, n3] w1 w2 → K (.pointer (some ⟨p, 0, none⟩)) w2) → OpW Try.prog (valueS (Instr.alloc 64 true (.tuple #[]))) w1 K := fun {w1 ps K} hs hK =>
        opw_allocS (zv := .agg #[.int .i64 0, .int .i64 0, .int .i64 0, .int .i64 0]) ([.int .i64 0, .int .i64 0, .int .i64 0, .int .i64 0] : List Value) (by kernel_rfl) (by kernel_rfl) hs.1 fun p w2 hp hA hk hb hblk => hK p w2 ⟨hA, List.nodup_cons.2 ⟨fun hm => by
          have := (Array.getElem?_eq_some_iff.1 (hs.2.2 p hm).2.2).1
          omega, hs.2.1⟩, fun p' hp' => by
          rcases List.mem_cons.1 hp' with rfl | hp'
          · have h1 := hs.1.size
            refine ⟨by omega, fun hm => ?_, hblk⟩
            have := hs.1.under _ hm
            omega
          · exact Zb (hs.2.2 p' hp') hb⟩ hk
      let J : World → Nat → Nat → Prop := fun W' p1 p2 => At W [n1, n2, n3] W' ∧ W'.heap[p1]? = some (.cells (s4V S).toArray 64 (0, 0)) ∧ W'.heap[p2]? = some (.cells (s4V O).toArray 64 (0, 0))
      have tail : ∀ {w1 p1 p2} {K : World → Prop}, At W [n1, n2, n3] w1 → p1 ≠ p2 → Z w1 p1 → Z w1 p2 → (∀ w2, J w2 p1 p2 → K w2) → OpW Try.prog (skipS (Instr.storeAt 64 (.pointer (some ⟨p1, 0, none⟩)) (a4V S))) w1 fun _ w2 => Keeps [n1, n2, n3] w1 w2 ∧ OpW Try.prog (skipS (Instr.storeAt 64 (.pointer (some ⟨p2, 0, none⟩)) (a4V O))) w2 fun _ w3 => Keeps [n1, n2, n3] w2 w3 ∧ K w3 := fun {w1 p1 p2 K} hA hne z1 z2 hK =>
        opw_storeF (off := 0) (cells' := s4V S) hA z1.2.2 (.inl z1.1) z1.2.1 (by kernel_rfl) fun w2 hA hk hc hb => ⟨hk, opw_storeF (off := 0) (cells' := s4V O) hA ((hc.block p2 (Array.getElem?_eq_some_iff.1 z2.2.2).1 fun e => hne e.symm).trans z2.2.2) (.inl z2.1) z2.2.1 (by kernel_rfl) fun w3 hA hk hc2 hb2 => ⟨hk, hK w3 ⟨hA, (hc2.block p1 (Array.getElem?_eq_some_iff.1 hb).1 hne).trans hb, hb2⟩⟩⟩
      have t12 : ∀ {w1 p1 p2} {K : World → Prop}, St w1 [p2, p1] → (∀ w2, J w2 p1 p2 → K w2) → OpW Try.prog (skipS (Instr.storeAt 64 (.pointer (some ⟨p1, 0, none⟩)) (a4V S))) w1 fun _ w2 => Keeps [n1, n2, n3] w1 w2 ∧ OpW Try.prog (skipS (Instr.storeAt 64 (.pointer (some ⟨p2, 0, none⟩)) (a4V O))) w2 fun _ w3 => Keeps [n1, n2, n3] w2 w3 ∧ K w3 := fun hs hK => tail hs.1 (fun e => by have := (List.nodup_cons.1 hs.2.1).1; simp at this; exact this e.symm) (hs.2.2 _ (by simp)) (hs.2.2 _ (by simp)) hK
      have t21 : ∀ {w1 p1 p2} {K : World → Prop}, St w1 [p1, p2] → (∀ w2, J w2 p1 p2 → K w2) → OpW Try.prog (skipS (Instr.storeAt 64 (.pointer (some ⟨p1, 0, none⟩)) (a4V S))) w1 fun _ w2 => Keeps [n1, n2, n3] w1 w2 ∧ OpW Try.prog (skipS (Instr.storeAt 64 (.pointer (some ⟨p2, 0, none⟩)) (a4V O))) w2 fun _ w3 => Keeps [n1, n2, n3] w2 w3 ∧ K w3 := fun hs hK => tail hs.1 (fun e => by have := (List.nodup_cons.1 hs.2.1).1; simp at this; exact this e) (hs.2.2 _ (by simp)) (hs.2.2 _ (by simp)) hK
      refine ⟨fun v W' => ∃ p1 p2, v.1 = ⟨p1, 0, none⟩ ∧ v.2.1 = ⟨p2, 0, none⟩ ∧ J W' p1 p2, ?_, ?_⟩
      · refine ⟨?_, ?_, ?_⟩
        all_goals
          intro w32 hb32 hu32
          have hst : St w32 [] := ⟨⟨(hA.call hb32).chg, hu32⟩, List.nodup_nil, fun _ h => by cases h⟩
          repeat' first
            | exact t12 (by assumption) fun w2 hJ => ⟨_, _, rfl, rfl, hJ⟩
            | exact t21 (by assumption) fun w2 hJ => ⟨_, _, rfl, rfl, hJ⟩
            | refine stA (by assumption) fun w2 h2 hk2 => ⟨_, _, _, _, rfl, hk2, ?_⟩
            | refine stB (by assumption) fun w2 h2 hk2 => ⟨_, _, _, _, rfl, hk2, ?_⟩
            | refine stC (by assumption) fun p w2 h2 hk2 => ⟨_, rfl, hk2, ?_⟩
            | refine ⟨?_, ?_⟩
      · rintro ad1 ad2 w235 ⟨p1, p2, ea, eb, hA, hb1, hb2⟩
        simp only at ea eb
        subst ea eb
        have hov : over most S O ↔ ∃ (j : Nat) (x y : Int), (s4L O)[j]? = some x ∧ (s4L S)[j]? = some y ∧ x > most - y := by
          unfold over
          constructor
          · rintro (h | h | h | h)
            · exact ⟨0, _, _, rfl, rfl, h⟩
            · exact ⟨1, _, _, rfl, rfl, h⟩
            · exact ⟨2, _, _, rfl, rfl, h⟩
            · exact ⟨3, _, _, rfl, rfl, h⟩
          · rintro ⟨j, x, y, h1, h2, h3⟩
            have hj : j < 4 := (List.getElem?_eq_some_iff.1 h1).1
            have hj' : j = 0 ∨ j = 1 ∨ j = 2 ∨ j = 3 := by omega
            rcases hj' with rfl | rfl | rfl | rfl
            all_goals
              simp only [List.getElem?_cons_zero, List.getElem?_cons_succ, Option.some.injEq] at h1 h2
              omega
        have refr : ∀ {t}, (if over most S O then (((false, 31), L.map plR) : (Bool × Int) × AgL) else if cap ≤ ((L.map plR).length : Int) then ((false, 32), L.map plR) else ((true, 0), withP (i, (V, V)) (L.map plR))) = t → refR cap most (L.map plR) i V = t := fun ht => by
          unfold refR
          rw [if_neg hr, e2]
          simp only
          rw [hS, hO]
          exact ht
        refine ⟨fun v W' => At W [n1, n2, n3] W' ∧ ¬ over most S O, ⟨fun v W' => At W [n1, n2, n3] W' ∧ Bel w235 W' ∧ ∃ k : Nat, v.1 = k ∧ k ≤ 4 ∧ ∀ (j : Nat) (x y : Int), j < k → (s4L O)[j]? = some x → (s4L S)[j]? = some y → ¬ x > most - y, fun v _ => (4 - v.1).toNat, ⟨hA, Bel.refl _, 0, rfl, by omega, fun j x y hj => by omega⟩, ?_⟩, ?_⟩
        · rintro x239 x240 x241 a242 n243 n244 w245 ⟨hA, hbb, k, hk, hk4, hall⟩
          simp only at hk
          subst hk
          refine brD (fun hlt => ?_) (fun hge => ⟨hA, fun ho => ?_⟩)
          · obtain ⟨x, hx⟩ : ∃ x, (s4L O)[k]? = some x := ⟨_, List.getElem?_eq_getElem (by simp; omega)⟩
            obtain ⟨y, hy⟩ : ∃ x, (s4L S)[k]? = some x := ⟨_, List.getElem?_eq_getElem (by simp; omega)⟩
            have hb1 := (hbb.block (Array.getElem?_eq_some_iff.1 hb1).1).trans hb1
            have hb2 := (hbb.block (Array.getElem?_eq_some_iff.1 hb2).1).trans hb2
            have hyb : 0 ≤ y ∧ y ≤ 1152921504606846976 := by
              unfold sR sumR at hSR
              have hj' : k = 0 ∨ k = 1 ∨ k = 2 ∨ k = 3 := by omega
              rcases hj' with rfl | rfl | rfl | rfl
              all_goals
                simp only [List.getElem?_cons_zero, List.getElem?_cons_succ, Option.some.injEq] at hy
                omega
            have hwr : IntKind.i64.wrap (most - y) = most - y := wrap_i64 (by omega) (by omega)
            rw [succ_i k (by omega)]
            refine ⟨_, gives_index_arr (n := 1) (m := 4) (e := 2) (by kernel_rfl) (by kernel_rfl) (by omega), _, (el4 hb2 hx).one (by kernel_rfl) (by simp), _, gives_index_arr (n := 1) (m := 4) (e := 2) (by kernel_rfl) (by kernel_rfl) (by omega), _, (el4 hb1 hy).one (by kernel_rfl) (by simp), brD (fun hgt w250 hev hu => out (refr (if_pos (hov.2 ⟨k, x, y, hx, hy, by rw [hwr] at hgt; exact hgt⟩))) (ev (gs' := [n1, n2, n3]) hA hev hu)) (fun hle w251 hb251 hu => ?_)⟩
            refine ⟨⟨⟨(hA.call hb251).chg, hu⟩, hbb.trans hb251, k + 1, rfl, by omega, fun j x' y' hj h1 h2 => ?_⟩, by simp only; omega⟩
            by_cases he : j = k
            · subst he
              rw [hx] at h1
              rw [hy] at h2
              cases h1; cases h2
              rw [hwr] at hle
              exact hle
            · exact hall j x' y' (by omega) h1 h2
          · obtain ⟨j, x, y, h1, h2, h3⟩ := hov.1 ho
            have hj : j < 4 := (List.getElem?_eq_some_iff.1 h1).1
            exact hall j x y (by omega) h1 h2 h3
        · rintro x252 x253 a254 n255 n256 w257 ⟨hA, hno⟩
          have hll : ((L.map plR).length : Int) = n := by rw [List.length_map]; omega
          refine brD (fun hge w258 hev hu => out (refr (by rw [if_neg hno, if_pos (by omega)])) (ev (gs' := [n1, n2, n3]) hA hev hu)) (fun hlt => ?_)
          have hrr := refr (t := ((true, 0), withP (i, (V, V)) (L.map plR))) (by rw [if_neg hno, if_neg (by omega)])
          refine at_callq hA (c107 cap most (i, (V, V), (s1, s1)) w257 (h.sl.call hA.below) hL) fun v w260 hA2 hk hb260 ⟨a', c', e, ho⟩ => ?_
          subst e
          refine ⟨_, _, _, _, _, rfl, hk, fun w266 hev hu => ?_⟩
          have h257 := hA.size
          have hu3 := hA.under n3 (by simp)
          have ho2 : OwnL W [n3] w260 89 3 agRE _ _ := ho.base (w' := W) (M' := noB) (gs' := [n3]) (fun k hk => .inl (by have := ho.mine k hk; simp only [noB, or_false] at this; omega)) (fun d hd he => by
            rw [List.mem_singleton] at hd
            subst hd
            have h1 := ho.mine _ he
            simp only [noB, or_false] at h1
            omega)
          exact hR _ _ (ev (gs' := [n1, n2, n3]) hA2 hev hu).below (.inr ⟨hrr, a', c', rfl, (ho2.evo (by simp) hev).more (by simp)⟩)
    · rw [e1]
      refine brD (fun _ => ?_) (fun hh => by omega)
      obtain ⟨ad, g1, el, _⟩ := elt_at (P := Try.prog) (k := .i64) (t := 81) (h.sl.call hA.below) e2 (e := 89) (by kernel_rfl) (by kernel_rfl)
      have hym := List.mem_of_getElem? e2
      refine ⟨ad, g1, _, _, _, (el.sub (o := 1) (by decide)).one (by kernel_rfl) (by simp), fun w25 hb25 hu => ?_⟩
      have hA : At W [n1, n2, n3] w25 := ⟨(hA.call hb25).chg, hu⟩
      refine at_callb hA (c82 w25 ((h.v1 y hym).call hA.below) (hV.call hA.below)) fun w27 hA hk hb27 => ⟨_, rfl, hk, brB (fun hy w29 hev hu => out ?_ (ev (gs' := [n1, n2, n3]) hA hev hu)) (fun hn w30 hev hu => out ?_ (ev (gs' := [n1, n2, n3]) hA hev hu))⟩
      · unfold refR
        rw [if_neg hr, e4]
        exact if_pos (of_decide_eq_true hy)
      · unfold refR
        rw [if_neg hr, e4]
        exact if_neg (of_decide_eq_false hn)
end Go.Vc.J

/- The reference's agents: Do. -/
set_option maxRecDepth 20000
set_option maxHeartbeats 2000000
namespace Go.Vc.J
open Go Go.Vc Go.Vc.V Go.RowKit Go.Proofs Vct

variable {w W W' W2 : World} {M N : Nat → Prop} {gs ds : List Nat} {g r : Nat} {cap most : Int}

/-- What Do's rows are: as they were, or a new row of vectors that P allows. -/
def RowsQ (P : Sl3 → Prop) (L : List AgR) (a : Option Addr) (n c : Nat) (W w' : World) (L' : List AgR) (a' : Option Addr) (n' c' : Nat) : Prop :=
  (L' = L ∧ a' = a ∧ n' = n ∧ c' = c) ∨ (OwnL W [] w' 89 3 agRE (.slice a' n' c') L' ∧ ∀ z ∈ L', (SlE w' 3 partE z.2.1.1 z.2.2.1.1 z.2.2.1.2.1 z.2.2.1.2.2 ∧ P z.2.2.1) ∧ (SlE w' 3 partE z.2.1.2 z.2.2.2.1 z.2.2.2.2.1 z.2.2.2.2.2 ∧ P z.2.2.2))
theorem mem_withF {x y : AgR} : ∀ {L : List AgR} {s : List AgR × Bool}, y ∈ (L.foldl (withS x) s).1 → y = x ∨ y ∈ L ∨ y ∈ s.1
  | [], s, h => .inr (.inr h)
  | z :: L, s, h => by
    rw [List.foldl_cons] at h
    rcases mem_withF h with h | h | h
    · exact .inl h
    · exact .inr (.inl (by simp [h]))
    · unfold withS at h
      split at h <;> split at h
      all_goals
        simp only [List.mem_cons]
        first
          | exact .inr (.inr h)
          | (simp only [List.mem_append, List.mem_singleton] at h; grind)
theorem mem_withF' {x y : AgR} {L : List AgR} (h : y ∈ withF x L) : y = x ∨ y ∈ L := by
  unfold withF at h
  split at h
  · rcases mem_withF h with h | h | h
    · exact .inl h
    · exact .inr h
    · cases h
  · rcases List.mem_append.1 h with h | h
    · rcases mem_withF h with h | h | h
      · exact .inl h
      · exact .inr h
      · cases h
    · exact .inl (by simpa using h)
theorem idx_isA {L : List AgR} (hs : SrtA (L.map plR)) {i : Int} {j t : Nat} {x y : AgR} (hj : L[j]? = some y) (hy : y.1 = i) (ht : L[t]? = some x) : t = j ↔ x.1 = i := by
  constructor
  · rintro rfl
    rw [hj] at ht
    cases ht
    exact hy
  · intro hx
    have hp := List.pairwise_iff_getElem.1 (List.pairwise_map.1 hs)
    have ⟨h1, e1⟩ := List.getElem?_eq_some_iff.1 hj
    have ⟨h2, e2⟩ := List.getElem?_eq_some_iff.1 ht
    rcases Nat.lt_trichotomy t j with h | h | h
    · have := hp t j h2 h1 h
      rw [e1, e2] at this
      simp only at this
      omega
    · exact h
    · have := hp j t h1 h2 h
      rw [e1, e2] at this
      simp only at this
      omega
theorem vn_evo {W0 : World} {l : List PartT} {s : Sl3} (h : SlE W 3 partE l s.1 s.2.1 s.2.2) (hev : Evo ds W W') (hd : ∀ ad, s.1 = some ad → ad.block ∉ ds) (_ : W0 = W0) : SlE W' 3 partE l s.1 s.2.1 s.2.2 := sle_chg h (Chg.of_evo hev) hd
theorem c53 {P : Sl3 → Prop} {L : List AgR} {a : Option Addr} {n c : Nat} {V Y : List PartT} {s1 s2 : Sl3} (k i : Int) (W : World) (h : RR W L a n c) (hL : L.length ≤ 1000) (hs : SrtA (L.map plR)) (hok : ∀ y ∈ L, vecB y.2.1.1 = true ∧ vecB y.2.1.2 = true) (hV : SlE W 3 partE V s1.1 s1.2.1 s1.2.2) (hY : SlE W 3 partE Y s2.1 s2.2.1 s2.2.2) (hm1 : 1 ≤ most) (hm2 : most ≤ 9007199254740992)
    (hPL : ∀ y ∈ L, P y.2.2.1 ∧ P y.2.2.2) (hP1 : P s1) (hPf : ∀ s : Sl3, (∀ ad, s.1 = some ad → W.heap.size ≤ ad.block) → P s) :
    RetQ Try.prog 53 #[m3V cap most a n c, .agg #[.int .i64 k, .int .i64 i, slV s1, slV s2]] W fun v w' =>
      ∃ L' a' n' c' b e, v = .tuple #[m3V cap most a' n' c', .bool b, .int .i64 e] ∧ refD cap most (L.map plR) k i V Y = ((b, e), L'.map plR) ∧ RowsQ P L a n c W w' L' a' n' c' := by
  intro R hR
  refine f53_calls cap most a n c k i s1.1 s1.2.1 s1.2.2 s2.1 s2.2.1 s2.2.2 W R ?_
  unfold f53_vc
  have hn := h.sl.len_le
  have hn0 := h.sl.1
  intro n1 hn1 n2 hn2 n3 hn3
  have ev : ∀ {w1 w2 gs gs'}, At W gs w1 → Evo [n3] w1 w2 → Under gs' w2 → At W gs' w2 := fun hA hev hu => hA.evo (by simp; omega) hev hu
  have same : ∀ {b : Bool} {e : Int} {gs w'}, refD cap most (L.map plR) k i V Y = ((b, e), L.map plR) → At W gs w' → R (.returned (.tuple #[m3V cap most a n c, .bool b, .int .i64 e])) w' := fun he hA => hR _ _ hA.below ⟨L, a, n, c, _, _, rfl, he, .inl ⟨rfl, rfl, rfl, rfl⟩⟩
  -- old vectors stay
  have old : ∀ {gs w' z}, z ∈ L → At W gs w' → (SlE w' 3 partE z.2.1.1 z.2.2.1.1 z.2.2.1.2.1 z.2.2.1.2.2 ∧ P z.2.2.1) ∧ (SlE w' 3 partE z.2.1.2 z.2.2.2.1 z.2.2.2.2.1 z.2.2.2.2.2 ∧ P z.2.2.2) := fun hz hA => ⟨⟨(h.v1 _ hz).call hA.below, (hPL _ hz).1⟩, (h.v2 _ hz).call hA.below, (hPL _ hz).2⟩
  refine brE (fun e0 w4 hb4 hu => ?_) (fun ne0 w15 hb15 hu => ?_)
  · have hA : At W [n1, n2, n3] w4 := ⟨((At.refl W).call hb4).chg, hu⟩
    have hrf : refD cap most (L.map plR) k i V Y = refR cap most (L.map plR) i V := if_pos e0
    refine at_callq hA (c103 (cap := cap) (most := most) (V := V) (s1 := s1) (s2 := s2) k i w4 (h.keep (KeepC.of_bel hA.below)) hL hs (hV.call hA.below) hm1 hm2) fun v w6 hA hk hb6 hq => ?_
    rcases hq with ⟨e, h1, h2⟩ | ⟨h1, a', c', h2, ho⟩
    · subst h2
      exact ⟨_, _, _, _, _, _, _, rfl, hk, fun w14 hev hu => same (hrf.trans h1) (ev hA hev hu)⟩
    · subst h2
      refine ⟨_, _, _, _, _, _, _, rfl, hk, fun w14 hev hu => ?_⟩
      have h4 := hb4.size
      have hu3 := hA.under
      have hn34 : n3 < w4.heap.size := by
        have := ‹Under [n1, n2, n3] w4› n3 (by simp)
        exact this
      have ho2 : OwnL W [n3] w6 89 3 agRE _ _ := ho.base (w' := W) (M' := noB) (gs' := [n3]) (fun k hk => .inl (by have := ho.mine k hk; simp only [noB, or_false] at this; omega)) (fun d hd he => by
        rw [List.mem_singleton] at hd
        subst hd
        have h1 := ho.mine _ he
        simp only [noB, or_false] at h1
        omega)
      have hA14 := ev (gs' := [n1, n2, n3]) hA hev hu
      refine hR _ _ hA14.below ⟨withF (i, (V, V), (s1, s1)) L, a', _, c', _, _, rfl, by rw [hrf, h1, withF_map], .inr ⟨(ho2.evo (by simp) hev).more (by simp), fun z hz => ?_⟩⟩
      rcases mem_withF' hz with rfl | hz
      · exact ⟨⟨hV.call hA14.below, hP1⟩, hV.call hA14.below, hP1⟩
      · exact old hz hA14
  · have hA : At W [n1, n2, n3] w15 := ⟨((At.refl W).call hb15).chg, hu⟩
    refine at_callb hA (c55 cap most i w15 (h.sl.call hA.below)) fun w17 hA hk hb17 => ⟨_, rfl, hk, ?_⟩
    refine brE (fun e1 n19 hn19 => ?_) (fun ne1 => ?_)
    · -- lost
      have hrf : refD cap most (L.map plR) k i V Y = (((mget i (L.map plR)).isSome, 0), (L.map plR).filter fun x => decide (x.1 ≠ i)) := by
        unfold refD
        rw [if_neg ne0, if_pos e1]
      have hfm : (L.map plR).filter (fun x => decide (x.1 ≠ i)) = (L.filter fun x => decide (x.1 ≠ i)).map plR := List.filter_map
      have h17 := hA.size
      have hidx : ∀ {t : Nat} {x : AgR}, L[t]? = some x → ((t : Int) = ixP (isA i) L 0 ↔ x.1 = i) := fun {t x} hx => by
        rcases getL hs i with ⟨e, e2⟩ | ⟨j, y, e, e2, e3, _⟩
        · rw [e]
          constructor
          · intro h; omega
          · intro hxi
            have := mget_none.1 e2
            exact absurd (List.mem_map.2 ⟨plR x, List.mem_map.2 ⟨x, List.mem_of_getElem? hx, rfl⟩, hxi⟩) this
        · rw [e]
          have := idx_isA hs e2 e3 hx
          omega
      have hsome : decide (ixP (isA i) L 0 ≥ 0) = (mget i (L.map plR)).isSome := by
        rcases getL hs i with ⟨e, e2⟩ | ⟨j, y, e, e2, e3, e4⟩
        · rw [e, e2]; rfl
        · rw [e, e4]; exact decide_eq_true (by omega)
      generalize hX : ixP (isA i) L 0 = X at hidx hsome
      refine ⟨fun v W' => At W [n1, n2, n3, n19] W' ∧ v.2.1 = cap ∧ v.2.2.1 = most ∧ ∃ t : Nat, v.1 = t ∧ t ≤ L.length ∧ OwnL W [n1, n2, n3, n19] W' 89 3 agRE (.slice v.2.2.2.1.1 v.2.2.2.1.2.1 v.2.2.2.1.2.2) ((L.take t).filter fun x => decide (x.1 ≠ i)), fun v _ => ((n : Int) - v.1).toNat, fun w22 hev hu => ⟨hA.evo (by simp; omega) hev hu, rfl, rfl, 0, rfl, Nat.zero_le _, OwnL.nil⟩, ?_⟩
      rintro x23 x24 x25 a26 n27 n28 w29 ⟨hA, hc1, hc2, t, ht, htl, ho⟩
      simp only at hc1 hc2 ht ho
      subst hc1 hc2 ht
      refine brD (fun hlt => ?_) (fun hge w50 hev hu => ?_)
      · obtain ⟨x, hx⟩ : ∃ x, L[t]? = some x := ⟨_, List.getElem?_eq_getElem (by omega)⟩
        have hix := hidx hx
        have hft : ((L.take t).filter fun x => decide (x.1 ≠ i)).length ≤ t := Nat.le_trans (List.length_filter_le ..) (by simp; omega)
        have htk : (L.take (t + 1)).filter (fun x => decide (x.1 ≠ i)) = (L.take t).filter (fun x => decide (x.1 ≠ i)) ++ (if x.1 = i then [] else [x]) := by
          rw [List.take_add_one, hx, List.filter_append]
          congr 1
          by_cases hq : x.1 = i
          · simp [hq]
          · simp [hq]
        rw [succ_i t (by omega)]
        refine brN (fun hne => ?_) (fun heq => ?_)
        · obtain ⟨ad, g1, el, _⟩ := elt_at (P := Try.prog) (k := .i64) (t := 81) (h.sl.call hA.below) hx (e := 89) (by kernel_rfl) (by kernel_rfl)
          refine ⟨ad, g1, _, _, _, _, _, _, _, el.agg 3 (by kernel_rfl) (by kernel_rfl) (by simp) (by simp), fun w38 hb38 hu => ?_⟩
          have hA : At W [n1, n2, n3, n19] w38 := ⟨(hA.call hb38).chg, hu⟩
          refine opw_push (f := agRE) (e' := 89) (bytes := 56) hA (ho.call hb38) x (by kernel_rfl) (by kernel_rfl) rfl (fun _ _ => rfl) (ag_one x) (by omega) (by decide) fun a47 c49 w46 hA ho3 _ _ w50 hev hu => ?_
          refine ⟨⟨hA.evo (by simp; omega) hev hu, rfl, rfl, t + 1, rfl, by omega, ?_⟩, by simp only; omega⟩
          simp only
          rw [htk, if_neg fun hh => hne (hix.2 hh)]
          exact ho3.evo (by intro d hd hd2; simp at hd hd2; omega) hev
        · refine ⟨⟨hA, rfl, rfl, t + 1, rfl, by omega, ?_⟩, by simp only; omega⟩
          simp only
          rw [htk, if_pos (hix.1 heq), List.append_nil]
          exact ho
      · rw [show t = L.length by omega, List.take_length] at ho
        have hA2 := ev (gs' := [n1, n2, n3, n19]) hA hev hu
        have ho2 := ho.evo (by intro d hd hd2; simp at hd hd2; omega) hev
        rw [hsome]
        refine hR _ _ hA2.below ⟨_, _, _, _, _, _, rfl, by rw [hrf, hfm], .inr ⟨ho2.more (by simp), fun z hz => old (List.mem_filter.1 hz).1 hA2⟩⟩
    · have hrf : refD cap most (L.map plR) k i V Y = refM (L.map plR) k i V Y := by
        unfold refD
        rw [if_neg ne0, if_neg ne1]
      rcases getL hs i with ⟨e1, e2⟩ | ⟨j, y, e1, e2, e3, e4⟩
      · rw [e1]
        refine brD (fun _ w51 hev hu => same ?_ (ev hA hev hu)) (fun hh => absurd (by decide) hh)
        rw [hrf]
        unfold refM
        rw [e2]
      · rw [e1]
        refine brD (fun hh => by omega) (fun _ => ?_)
        have hym := List.mem_of_getElem? e2
        obtain ⟨k1, k2⟩ := hok y hym
        obtain ⟨ad, g1, el, _⟩ := elt_at (P := Try.prog) (k := .i64) (t := 81) (h.sl.call hA.below) e2 (e := 89) (by kernel_rfl) (by kernel_rfl)
        have hrm : ∀ {t}, (if k = 2 then (if vecB V = true ∧ (vsub y.2.1.2 V).isSome = true then (((false, 0), withP (i, (y.2.1.1, vout (vsub y.2.1.2 V))) (L.map plR)) : (Bool × Int) × AgL) else ((false, 30), L.map plR))
            else if k = 3 then (if vecB V = true ∧ (vadd y.2.1.2 V).isSome = true then (if (vsub y.2.1.1 (vout (vadd y.2.1.2 V))).isSome = true then ((false, 0), withP (i, (y.2.1.1, vout (vadd y.2.1.2 V))) (L.map plR)) else ((false, 31), L.map plR)) else ((false, 31), L.map plR))
            else (if vecB Y = true ∧ (vadd y.2.1.2 Y).isSome = true then (if vecB V = true ∧ (vsub V (vout (vadd y.2.1.2 Y))).isSome = true then (if ofA V = ofA y.2.1.1 then ((false, 0), withP (i, (V, vout (vadd y.2.1.2 Y))) (L.map plR)) else ((false, 41), L.map plR)) else ((false, 41), L.map plR)) else ((false, 41), L.map plR))) = t → refD cap most (L.map plR) k i V Y = t := fun ht => by
          rw [hrf]
          unfold refM
          rw [e4]
          exact ht
        refine ⟨ad, g1, _, _, _, _, _, _, _, el.agg 3 (by kernel_rfl) (by kernel_rfl) (by simp) (by simp), fun n60 hn60 => ?_⟩
        have h17 := hA.size
        have hu17 := hA.under n3 (by simp)
        have hn60W : W.heap.size ≤ n60 := by omega
        have st : ∀ {w'}, Evo [n60] w17 w' → Under [n1, n2, n3, n60] w' → At W [n1, n2, n3, n60] w' := fun hev hu => hA.evo (by simp; omega) hev hu
        subst e3
        -- with a new vector
        have fin : ∀ {T F : List PartT} {sT sF : Sl3} {w1 : World} {K : Ending → World → Prop}, At W [n1, n2, n3, n60] w1 → (∀ w2 w3, Bel w1 w2 → Evo [n3] w2 w3 → At W [n1, n2, n3, n60] w3 → SlE w3 3 partE T sT.1 sT.2.1 sT.2.2) → (∀ w2 w3, Bel w1 w2 → Evo [n3] w2 w3 → At W [n1, n2, n3, n60] w3 → SlE w3 3 partE F sF.1 sF.2.1 sF.2.2) → P sT → P sF → refD cap most (L.map plR) k y.1 V Y = ((false, 0), withP (y.1, (T, F)) (L.map plR)) →
            (∀ (a' : Option Addr) (c' : Nat) (w2 : World), Keeps [n1, n2, n3, n60] w1 w2 → (∀ w3, Evo [n3] w2 w3 → Under [n1, n2, n3, n60] w3 → R (.returned (.tuple #[m3V cap most a' (withF (y.1, (T, F), (sT, sF)) L).length c', .bool false, .int .i64 0])) w3) → K (.returned (m3V cap most a' (withF (y.1, (T, F), (sT, sF)) L).length c')) w2) → Calls Try.prog 107 #[m3V cap most a n c, agRV (y.1, (T, F), (sT, sF))] w1 K := by
          intro T F sT sF w1 K hA hT hF pT pF href hK
          refine at_callq hA (c107 cap most (y.1, (T, F), (sT, sF)) w1 (h.sl.call hA.below) hL) fun v w2 hA2 hk hb2 ⟨a', c', e, ho⟩ => ?_
          subst e
          refine hK a' c' w2 hk fun w3 hev hu => ?_
          have hs1 := hA.size
          have hu3 := hA.under n3 (by simp)
          have ho2 : OwnL W [n3] w2 89 3 agRE _ _ := ho.base (w' := W) (M' := noB) (gs' := [n3]) (fun k hk => .inl (by have := ho.mine k hk; simp only [noB, or_false] at this; omega)) (fun d hd he => by
            rw [List.mem_singleton] at hd
            subst hd
            have h1 := ho.mine _ he
            simp only [noB, or_false] at h1
            omega)
          have hA3 := ev (gs' := [n1, n2, n3, n60]) hA2 hev hu
          refine hR _ _ hA3.below ⟨_, _, _, _, _, _, rfl, by rw [href, withF_map], .inr ⟨(ho2.evo (by simp) hev).more (by simp), fun z hz => ?_⟩⟩
          rcases mem_withF' hz with rfl | hz
          · exact ⟨⟨hT _ _ hb2 hev hA3, pT⟩, hF _ _ hb2 hev hA3, pF⟩
          · exact old hz hA3
        have oldT : ∀ w3, At W [n1, n2, n3, n60] w3 → SlE w3 3 partE y.2.1.1 y.2.2.1.1 y.2.2.1.2.1 y.2.2.1.2.2 := fun w3 hA => (h.v1 y hym).call hA.below
        have new : ∀ {F : List PartT} {af : Option Addr} {cf : Nat} {w1 : World}, OwnL W [n1, n2, n3, n60] w1 73 3 partE (.slice af F.length cf) F → (∀ w2 w3, Bel w1 w2 → Evo [n3] w2 w3 → At W [n1, n2, n3, n60] w3 → SlE w3 3 partE F af F.length cf) ∧ P (af, F.length, cf) := fun {F af cf w1} ho => ⟨fun w2 w3 hb hev _ => ((ho.call hb).evo (by intro d hd hd2; simp at hd hd2; omega) hev).sl fun _ _ => rfl, hPf _ fun ad hb => by
          have hv := VN.of_own (W0 := W) ho
          exact hv.2 ad hb⟩
        have e60 : ∀ {w1 w2 ds} {v : Value} {l : List PartT}, OwnL W [n1, n2, n3, n60] w1 73 3 partE v l → (∀ d ∈ ds, d = n60) → Evo ds w1 w2 → OwnL W [n1, n2, n3, n60] w2 73 3 partE v l := fun ho hd hev => ho.evo (by intro d hd1 hd2; exact absurd (by rw [hd d hd1]; simp) hd2) hev
        refine brE (fun ek2 w61 hev hu => ?_) (fun nk2 => brE (fun ek3 w78 hev hu => ?_) (fun nk3 w99 hev hu => ?_))
        · have hA := st hev hu
          have hc104 := c104 w61 ((h.v2 y hym).call hA.below) (hV.call hA.below)
          by_cases hc : vecB V = true ∧ (vsub y.2.1.2 V).isSome = true
          · obtain ⟨F', hF'⟩ := Option.isSome_iff_exists.1 hc.2
            rw [if_pos ⟨k2, hc.1⟩, decide_eq_true (⟨k2, hc.1⟩ : vecB y.2.1.2 = true ∧ vecB V = true), hF', vout_some] at hc104
            refine at_calllb hA hc104 (fun _ _ => rfl) fun a64 c66 w63 hA hk hb63 ho hsl => ⟨_, _, _, _, rfl, hk, brNB (fun e => by cases e) (fun _ w69 hev hu => ?_)⟩
            have hA69 : At W [n1, n2, n3, n60] w69 := hA.evo (by simp; omega) hev hu
            have ho69 := e60 ho (by simp) hev
            exact fin (T := y.2.1.1) (F := F') (sT := y.2.2.1) (sF := (a64, F'.length, c66)) hA69 (fun w2 w3 _ _ hA3 => oldT w3 hA3) (new ho69).1 (hPL y hym).1 (new ho69).2 (hrm (by rw [if_pos ek2, if_pos hc, hF', vout_some])) fun a' c' w2 hk hR3 => ⟨_, _, _, _, _, rfl, hk, hR3⟩
          · rw [vsub_no k2 hc] at hc104
            exact at_calllb hA hc104 (fun x _ => rfl) fun a64 c66 w63 hA hk hb63 ho hsl => ⟨_, _, _, _, rfl, hk, brNB (fun _ w68 hev hu => same (hrm (by rw [if_pos ek2, if_neg hc])) (ev (gs' := [n1, n2, n3, n60]) hA hev hu)) (fun e => by cases e)⟩
        · have hA := st hev hu
          have hc105 := c105 w78 ((h.v2 y hym).call hA.below) (hV.call hA.below)
          by_cases hc : vecB V = true ∧ (vadd y.2.1.2 V).isSome = true
          · obtain ⟨F', hF'⟩ := Option.isSome_iff_exists.1 hc.2
            have hF2 : vecB F' = true := (vadd_amt k2 hc.1 hF').1
            rw [if_pos ⟨k2, hc.1⟩, decide_eq_true (⟨k2, hc.1⟩ : vecB y.2.1.2 = true ∧ vecB V = true), hF', vout_some] at hc105
            refine at_calllb hA hc105 (fun _ _ => rfl) fun a64 c66 w80 hA hk hb80 ho hsl => ⟨_, _, _, _, rfl, hk, brNB (fun e => by cases e) (fun _ => ?_)⟩
            have hc106 := c106 w80 ((h.v1 y hym).call hA.below) hsl
            unfold holdsB at hc106
            rw [decide_eq_true (⟨k1, hF2⟩ : vecB y.2.1.1 = true ∧ vecB F' = true), Bool.true_and] at hc106
            refine at_callb hA hc106 fun w87 hA hk hb87 => ⟨_, rfl, hk, brNB (fun hno w89 hev hu => same (hrm (by rw [if_neg nk2, if_pos ek3, if_pos hc, hF', vout_some, if_neg (by rw [hno]; decide)])) (ev (gs' := [n1, n2, n3, n60]) hA hev hu)) (fun hyes w90 hev hu => ?_)⟩
            have hA90 : At W [n1, n2, n3, n60] w90 := hA.evo (by simp; omega) hev hu
            have ho90 := e60 (ho.call hb87) (by simp) hev
            exact fin (T := y.2.1.1) (F := F') (sT := y.2.2.1) (sF := (a64, F'.length, c66)) hA90 (fun w2 w3 _ _ hA3 => oldT w3 hA3) (new ho90).1 (hPL y hym).1 (new ho90).2 (hrm (by rw [if_neg nk2, if_pos ek3, if_pos hc, hF', vout_some, if_pos hyes])) fun a' c' w2 hk hR3 => ⟨_, _, _, _, _, rfl, hk, hR3⟩
          · rw [vadd_no k2 hc] at hc105
            exact at_calllb hA hc105 (fun x _ => rfl) fun a64 c66 w63 hA hk hb63 ho hsl => ⟨_, _, _, _, rfl, hk, brNB (fun _ w68 hev hu => same (hrm (by rw [if_neg nk2, if_pos ek3, if_neg hc])) (ev (gs' := [n1, n2, n3, n60]) hA hev hu)) (fun e => by cases e)⟩
        · have hA := st hev hu
          have hc105 := c105 w99 ((h.v2 y hym).call hA.below) (hY.call hA.below)
          by_cases hc : vecB Y = true ∧ (vadd y.2.1.2 Y).isSome = true
          · obtain ⟨F', hF'⟩ := Option.isSome_iff_exists.1 hc.2
            have hF2 : vecB F' = true := (vadd_amt k2 hc.1 hF').1
            rw [if_pos ⟨k2, hc.1⟩, decide_eq_true (⟨k2, hc.1⟩ : vecB y.2.1.2 = true ∧ vecB Y = true), hF', vout_some] at hc105
            refine at_calllb hA hc105 (fun _ _ => rfl) fun a64 c66 w101 hA hk hb101 ho hsl => ⟨_, _, _, _, rfl, hk, brNB (fun e => by cases e) (fun _ w107 hb107 hu => ?_)⟩
            have hA : At W [n1, n2, n3, n60] w107 := ⟨(hA.call hb107).chg, hu⟩
            have ho := ho.call hb107
            refine at_callb hA (c83 w107 (hV.call hA.below)) fun w109 hA hk hb109 => ⟨_, rfl, hk, brNB (fun hno w111 hev hu => same (hrm (by rw [if_neg nk2, if_neg nk3, if_pos hc, if_neg (fun hh => by rw [hno] at hh; cases hh.1)])) (ev (gs' := [n1, n2, n3, n60]) hA hev hu)) (fun hvV => ?_)⟩
            have ho := ho.call hb109
            refine at_callb hA (c89' w109 (hV.call hA.below)) fun w113 hA hk hb113 => ⟨_, _, _, _, rfl, hk, ?_⟩
            refine at_callb hA (c89' w113 (oldT w113 hA)) fun w119 hA hk hb119 => ⟨_, _, _, _, rfl, hk, brNB (fun hne w124 hev hu => same (hrm ?_) (ev (gs' := [n1, n2, n3, n60]) hA hev hu)) (fun heq => ?_)⟩
            · rw [if_neg nk2, if_neg nk3, if_pos hc]
              have hne' : ¬ ofA V = ofA y.2.1.1 := fun e => by rw [e] at hne; simp at hne
              by_cases hh : vecB V = true ∧ (vsub V (vout (vadd y.2.1.2 Y))).isSome = true
              · rw [if_pos hh, if_neg hne']
              · rw [if_neg hh]
            · have heq' := ar4_ext heq
              have ho := (ho.call hb113).call hb119
              have hc106 := c106 w119 (hV.call hA.below) (ho.sl fun _ _ => rfl)
              unfold holdsB at hc106
              rw [decide_eq_true (⟨hvV, hF2⟩ : vecB V = true ∧ vecB F' = true), Bool.true_and] at hc106
              refine at_callb hA hc106 fun w126 hA hk hb126 => ⟨_, rfl, hk, brNB (fun hno w128 hev hu => same (hrm (by rw [if_neg nk2, if_neg nk3, if_pos hc, hF', vout_some, if_neg (fun hh => by rw [hno] at hh; cases hh.2)])) (ev (gs' := [n1, n2, n3, n60]) hA hev hu)) (fun hyes w129 hev hu => ?_)⟩
              have hA129 : At W [n1, n2, n3, n60] w129 := hA.evo (by simp; omega) hev hu
              have ho129 := e60 (ho.call hb126) (by simp) hev
              exact fin (T := V) (F := F') (sT := s1) (sF := (a64, F'.length, c66)) hA129 (fun w2 w3 _ _ hA3 => hV.call hA3.below) (new ho129).1 hP1 (new ho129).2 (hrm (by rw [if_neg nk2, if_neg nk3, if_pos hc, hF', vout_some, if_pos ⟨hvV, hyes⟩, if_pos heq'])) fun a' c' w2 hk hR3 => ⟨_, _, _, _, _, rfl, hk, hR3⟩
          · rw [vadd_no k2 hc] at hc105
            exact at_calllb hA hc105 (fun x _ => rfl) fun a64 c66 w63 hA hk hb63 ho hsl => ⟨_, _, _, _, rfl, hk, brNB (fun _ w68 hev hu => same (hrm (by rw [if_neg nk2, if_neg nk3, if_neg hc])) (ev (gs' := [n1, n2, n3, n60]) hA hev hu)) (fun e => by cases e)⟩
end Go.Vc.J

/- The formulas of functions, printed by a program (VcTool.lean): each is what the generator's formula comes to, by the kernel's reckoning; whoever proves one has the function's contract. -/
set_option maxRecDepth 100000
set_option maxHeartbeats 1000000
set_option linter.unusedVariables false
namespace Vct
open Go Go.Vc Go.RowKit
/-! manciple/manciplelaw22.AgentsKeep -/
def h7 : Hints := ⟨[9], [51, 78, 92, 97, 108, 114], [33, 40, 72, 74, 81, 87, 119, 22, 26, 30, 61, 66, 102, 105, 129, 133, 139, 144, 149], [(22, [0, 1, 2, 3, 4, 5, 6, 7, 8, 9, 10, 11, 12, 13, 14, 15, 16, 17, 18, 19, 20, 21, 22, 23, 24, 25, 26, 27, 28, 29])], [], [(5, ⟨[(8, .int .i64)], []⟩), (14, ⟨[(12, .int .i64)], []⟩), (20, ⟨[(14, .int .i64)], []⟩)], [(9, ⟨[(10, .int .i64)], []⟩), (10, ⟨[], []⟩), (11, ⟨[(11, .addr)], []⟩), (13, ⟨[], []⟩), (26, ⟨[(16, .addr)], []⟩), (27, ⟨[(18, .int .i64)], []⟩)], [], []⟩
def f7_vc (cap : Int) (most : Int) (la : Option Addr) (ln : Nat) (lc : Nat) (w : World) (R : Ending → World → Prop) : Prop :=
 Calls Proofs.Try.prog 38 #[Value.slice la ln lc] w fun (e1 : Ending) (w2 : World) =>
 ∃ (b3 : Bool),
 e1 = Ending.returned (Value.bool b3) ∧
 ((!b3) = true → R (Ending.returned (Value.bool true)) w2) ∧
 ((!b3) = false →
 (decide (cap < 1) = true → R (Ending.returned (Value.bool true)) w2) ∧
 (decide (cap < 1) = false →
 (decide (most < 1) = true → R (Ending.returned (Value.bool true)) w2) ∧
 (decide (most < 1) = false →
 (decide (most > 9007199254740992) = true → R (Ending.returned (Value.bool true)) w2) ∧
 (decide (most > 9007199254740992) = false →
 Calls Proofs.Try.prog 39 #[Value.int IntKind.i64 cap, Value.int IntKind.i64 most] w2 fun (e4 : Ending) (w5 : World) =>
 ∃ (a6 : Option Addr),
 e4 = Ending.returned (Value.pointer a6) ∧
 ∃ (J7 : Int × Unit → World → Prop),
 ∃ (J8 : Int × Unit → World → Nat),
 J7 (0, ()) w5 ∧
 ∀ (x9 : Int) (w10 : World),
 J7 (x9, ()) w10 →
 (decide (x9 < (↑ln : Int)) = true →
 Calls Proofs.Try.prog 40 #[Value.pointer a6] w10 fun (e11 : Ending) (w12 : World) =>
 ∃ (x13 : Int),
 ∃ (x14 : Int),
 ∃ (x15 : Int),
 ∃ (x16 : Int),
 e11 = Ending.returned (Value.agg #[Value.int IntKind.i64 x13, Value.int IntKind.i64 x14, Value.int IntKind.i64 x15, Value.int IntKind.i64 x16]) ∧
 ∀ (n17 : Nat),
 w12.heap.size ≤ n17 →
 ∃ (J18 : Int × Unit → World → Prop),
 (∀ (w19 : World),
 Evo [n17] w12 w19 →
 Under [n17] w19 →
 Calls Proofs.Try.prog 41 #[Value.pointer a6] w19 fun (e20 : Ending) (w21 : World) =>
 ∃ (a22 : Option Addr), ∃ (n23 : Nat), ∃ (n24 : Nat), e20 = Ending.returned (Value.slice a22 n23 n24) ∧ Keeps [n17] w19 w21 ∧ J18 ((↑n23 : Int), ()) w21) ∧
 ∀ (x25 : Int) (w26 : World),
 J18 (x25, ()) w26 →
 ∃ (J27 : Unit → World → Prop),
 (∃ (ad28 : Addr),
 Gives Proofs.Try.prog (Instr.indexAt 76 (Value.slice la ln lc) (Value.int IntKind.i64 x9)) (Value.pointer (some ad28)) ∧
 ∃ (x29 : Int),
 ∃ (x30 : Int),
 ∃ (a31 : Option Addr),
 ∃ (n32 : Nat),
 ∃ (n33 : Nat),
 ∃ (a34 : Option Addr),
 ∃ (n35 : Nat),
 ∃ (n36 : Nat),
 Reads Proofs.Try.prog [] (Instr.loadAt 86 (Value.pointer (some ad28))) w26
 (Value.agg #[Value.int IntKind.i64 x29, Value.int IntKind.i64 x30, Value.slice a31 n32 n33, Value.slice a34 n35 n36]) ∧
 Calls Proofs.Try.prog 42
 #[Value.pointer a6, Value.agg #[Value.int IntKind.i64 x29, Value.int IntKind.i64 x30, Value.slice a31 n32 n33, Value.slice a34 n35 n36]] w26
 fun (e37 : Ending) (w38 : World) =>
 ∃ (b39 : Bool),
 ∃ (x40 : Int), e37 = Ending.returned (Value.tuple #[Value.bool b39, Value.int IntKind.i64 x40]) ∧ Keeps [n17] w26 w38 ∧ J27 () w38) ∧
 ∀ (w41 : World),
 J27 () w41 →
 ∃ (J42 : Addr × Unit → World → Prop),
 (Calls Proofs.Try.prog 40 #[Value.pointer a6] w41 fun (e43 : Ending) (w44 : World) =>
 ∃ (x45 : Int),
 ∃ (x46 : Int),
 ∃ (x47 : Int),
 ∃ (x48 : Int),
 e43 = Ending.returned (Value.agg #[Value.int IntKind.i64 x45, Value.int IntKind.i64 x46, Value.int IntKind.i64 x47, Value.int IntKind.i64 x48]) ∧
 Keeps [n17] w41 w44 ∧
 OpW Proofs.Try.prog (valueS (Instr.alloc 65 true (Value.tuple #[]))) w44 fun (v49 : Value) (w50 : World) =>
 ∃ (ad51 : Addr),
 v49 = Value.pointer (some ad51) ∧
 Keeps [n17] w44 w50 ∧
 OpW Proofs.Try.prog
 (skipS
 (Instr.storeAt 65 (Value.pointer (some ad51))
 (Value.agg #[Value.int IntKind.i64 x45, Value.int IntKind.i64 x46, Value.int IntKind.i64 x47, Value.int IntKind.i64 x48])))
 w50 fun (v52 : Value) (w53 : World) => Keeps [n17] w50 w53 ∧ J42 (ad51, ()) w53) ∧
 ∀ (ad54 : Addr) (w55 : World),
 J42 (ad54, ()) w55 →
 ∃ (J56 : Unit → World → Prop),
 (Calls Proofs.Try.prog 41 #[Value.pointer a6] w55 fun (e57 : Ending) (w58 : World) =>
 ∃ (a59 : Option Addr),
 ∃ (n60 : Nat),
 ∃ (n61 : Nat),
 e57 = Ending.returned (Value.slice a59 n60 n61) ∧
 Keeps [n17] w55 w58 ∧
 ((x25 == (↑n60 : Int)) = true →
 ∃ (x62 : Int),
 ∃ (x63 : Int),
 ∃ (x64 : Int),
 ∃ (x65 : Int),
 Reads Proofs.Try.prog [] (Instr.loadAt 65 (Value.pointer (some ad54))) w58
 (Value.agg #[Value.int IntKind.i64 x62, Value.int IntKind.i64 x63, Value.int IntKind.i64 x64, Value.int IntKind.i64 x65]) ∧
 ((!(x13 == x62 && (x14 == x63 && (x15 == x64 && (x16 == x65 && true))))) = true → R (Ending.returned (Value.bool false)) w58) ∧
 ((!(x13 == x62 && (x14 == x63 && (x15 == x64 && (x16 == x65 && true))))) = false →
 Calls Proofs.Try.prog 41 #[Value.pointer a6] w58 fun (e66 : Ending) (w67 : World) =>
 ∃ (a68 : Option Addr),
 ∃ (n69 : Nat),
 ∃ (n70 : Nat),
 e66 = Ending.returned (Value.slice a68 n69 n70) ∧
 Keeps [n17] w58 w67 ∧
 (decide ((↑n69 : Int) > cap) = true → R (Ending.returned (Value.bool false)) w67) ∧
 (decide ((↑n69 : Int) > cap) = false → J56 () w67))) ∧
 ((x25 == (↑n60 : Int)) = false →
 Calls Proofs.Try.prog 41 #[Value.pointer a6] w58 fun (e71 : Ending) (w72 : World) =>
 ∃ (a73 : Option Addr),
 ∃ (n74 : Nat),
 ∃ (n75 : Nat),
 e71 = Ending.returned (Value.slice a73 n74 n75) ∧
 Keeps [n17] w58 w72 ∧
 (decide ((↑n74 : Int) > cap) = true → R (Ending.returned (Value.bool false)) w72) ∧
 (decide ((↑n74 : Int) > cap) = false → J56 () w72))) ∧
 ∀ (w76 : World),
 J56 () w76 →
 ∃ (J77 : Int × Unit → World → Prop),
 ∃ (J78 : Int × Unit → World → Nat),
 J77 (0, ()) w76 ∧
 ∀ (x79 : Int) (w80 : World),
 J77 (x79, ()) w80 →
 (decide (x79 < 4) = true →
 ∃ (ad81 : Addr),
 Gives Proofs.Try.prog (Instr.indexAt 65 (Value.pointer (some ad54)) (Value.int IntKind.i64 x79)) (Value.pointer (some ad81)) ∧
 ∃ (x82 : Int),
 Reads Proofs.Try.prog [] (Instr.loadAt 2 (Value.pointer (some ad81))) w80 (Value.int IntKind.i64 x82) ∧
 (decide (x82 > most) = true → R (Ending.returned (Value.bool false)) w80) ∧
 (decide (x82 > most) = false →
 J77 (IntKind.i64.wrap (x79 + 1), ()) w80 ∧ J78 (IntKind.i64.wrap (x79 + 1), ()) w80 < J78 (x79, ()) w80)) ∧
 (decide (x79 < 4) = false → J7 (IntKind.i64.wrap (x9 + 1), ()) w80 ∧ J8 (IntKind.i64.wrap (x9 + 1), ()) w80 < J8 (x9, ()) w10)) ∧
 (decide (x9 < (↑ln : Int)) = false →
 Calls Proofs.Try.prog 41 #[Value.pointer a6] w10 fun (e83 : Ending) (w84 : World) =>
 ∃ (a85 : Option Addr),
 ∃ (n86 : Nat),
 ∃ (n87 : Nat),
 e83 = Ending.returned (Value.slice a85 n86 n87) ∧
 ∃ (J88 : Int × Unit → World → Prop),
 ∃ (J89 : Int × Unit → World → Nat),
 J88 (0, ()) w84 ∧
 ∀ (x90 : Int) (w91 : World),
 J88 (x90, ()) w91 →
 (decide (x90 < (↑n86 : Int)) = true →
 ∃ (ad92 : Addr),
 Gives Proofs.Try.prog (Instr.indexAt 81 (Value.slice a85 n86 n87) (Value.int IntKind.i64 x90)) (Value.pointer (some ad92)) ∧
 ∃ (a93 : Option Addr),
 ∃ (n94 : Nat),
 ∃ (n95 : Nat),
 Reads Proofs.Try.prog [] (Instr.loadAt 23 (Value.pointer (some (Addr.mk ad92.block (ad92.off + 1) none)))) w91 (Value.slice a93 n94 n95) ∧
 ∃ (ad96 : Addr),
 Gives Proofs.Try.prog (Instr.indexAt 81 (Value.slice a85 n86 n87) (Value.int IntKind.i64 x90)) (Value.pointer (some ad96)) ∧
 ∃ (a97 : Option Addr),
 ∃ (n98 : Nat),
 ∃ (n99 : Nat),
 Reads Proofs.Try.prog [] (Instr.loadAt 23 (Value.pointer (some (Addr.mk ad96.block (ad96.off + 2) none)))) w91 (Value.slice a97 n98 n99) ∧
 ∀ (w100 : World),
 Bel w91 w100 →
 Calls Proofs.Try.prog 43 #[Value.slice a93 n94 n95, Value.slice a97 n98 n99] w100 fun (e101 : Ending) (w102 : World) =>
 ∃ (b103 : Bool),
 e101 = Ending.returned (Value.bool b103) ∧
 ((!b103) = true → R (Ending.returned (Value.bool false)) w102) ∧
 ((!b103) = false →
 (decide (x90 > 0) = true →
 ∃ (ad104 : Addr),
 Gives Proofs.Try.prog (Instr.indexAt 81 (Value.slice a85 n86 n87) (Value.int IntKind.i64 x90)) (Value.pointer (some ad104)) ∧
 ∃ (x105 : Int),
 Reads Proofs.Try.prog [] (Instr.loadAt 2 (Value.pointer (some ad104))) w102 (Value.int IntKind.i64 x105) ∧
 ∃ (ad106 : Addr),
 Gives Proofs.Try.prog (Instr.indexAt 81 (Value.slice a85 n86 n87) (Value.int IntKind.i64 (IntKind.i64.wrap (x90 - 1))))
 (Value.pointer (some ad106)) ∧
 ∃ (x107 : Int),
 Reads Proofs.Try.prog [] (Instr.loadAt 2 (Value.pointer (some ad106))) w102 (Value.int IntKind.i64 x107) ∧
 (decide (x105 ≤ x107) = true → R (Ending.returned (Value.bool false)) w102) ∧
 (decide (x105 ≤ x107) = false →
 J88 (IntKind.i64.wrap (x90 + 1), ()) w102 ∧ J89 (IntKind.i64.wrap (x90 + 1), ()) w102 < J89 (x90, ()) w91)) ∧
 (decide (x90 > 0) = false →
 J88 (IntKind.i64.wrap (x90 + 1), ()) w102 ∧ J89 (IntKind.i64.wrap (x90 + 1), ()) w102 < J89 (x90, ()) w91))) ∧
 (decide (x90 < (↑n86 : Int)) = false →
 ∃ (J108 : Addr × Unit → World → Prop),
 (OpW Proofs.Try.prog (valueS (Instr.alloc 92 true (Value.tuple #[]))) w91 fun (v109 : Value) (w110 : World) =>
 ∃ (ad111 : Addr), v109 = Value.pointer (some ad111) ∧ J108 (ad111, ()) w110) ∧
 ∀ (ad112 : Addr) (w113 : World),
 J108 (ad112, ()) w113 →
 ∃ (J114 : Int × Unit → World → Prop),
 (OpW Proofs.Try.prog (valueS (Instr.buildSlice 23 1 #[(0, Value.agg #[Value.int IntKind.i64 0, Value.int IntKind.i64 0, Value.int IntKind.i64 1])])) w113
 fun (v115 : Value) (w116 : World) =>
 ∃ (a117 : Option Addr),
 ∃ (n118 : Nat),
 ∃ (n119 : Nat),
 v115 = Value.slice a117 n118 n119 ∧
 Calls Proofs.Try.prog 44 #[Value.pointer (some ad112), Value.int IntKind.i64 1, Value.slice a117 n118 n119] w116 fun (e120 : Ending) (w121 : World) =>
 ∃ (b122 : Bool), ∃ (x123 : Int), e120 = Ending.returned (Value.tuple #[Value.bool b122, Value.int IntKind.i64 x123]) ∧ J114 (x123, ()) w121) ∧
 ∀ (x124 : Int) (w125 : World),
 J114 (x124, ()) w125 →
 Calls Proofs.Try.prog 45 #[Value.pointer none, Value.int IntKind.i64 1, Value.slice none 0 0] w125 fun (e126 : Ending) (w127 : World) =>
 ∃ (x128 : Int),
 e126 = Ending.returned (Value.int IntKind.i64 x128) ∧
 ((x128 == 40) = true →
 ((x124 == 40) = true →
 Calls Proofs.Try.prog 41 #[Value.pointer none] w127 fun (e129 : Ending) (w130 : World) =>
 ∃ (a131 : Option Addr),
 ∃ (n132 : Nat),
 ∃ (n133 : Nat),
 e129 = Ending.returned (Value.slice a131 n132 n133) ∧
 (((↑n132 : Int) == 0) = true →
 Calls Proofs.Try.prog 40 #[Value.pointer (some ad112)] w130 fun (e134 : Ending) (w135 : World) =>
 ∃ (x136 : Int),
 ∃ (x137 : Int),
 ∃ (x138 : Int),
 ∃ (x139 : Int),
 e134 =
 Ending.returned
 (Value.agg
 #[Value.int IntKind.i64 x136, Value.int IntKind.i64 x137, Value.int IntKind.i64 x138,
 Value.int IntKind.i64 x139]) ∧
 ((x136 == 0 && (x137 == 0 && (x138 == 0 && (x139 == 0 && true)))) = true →
 Calls Proofs.Try.prog 46 #[Value.pointer none, Value.int IntKind.i64 1] w135 fun (e140 : Ending) (w141 : World) =>
 ∃ (b142 : Bool),
 e140 = Ending.returned (Value.bool b142) ∧
 ((!b142) = true →
 Calls Proofs.Try.prog 47 #[] w141 fun (e143 : Ending) (w144 : World) =>
 ∃ (b145 : Bool),
 e143 = Ending.returned (Value.bool b145) ∧ R (Ending.returned (Value.bool b145)) w144) ∧
 ((!b142) = false → R (Ending.returned (Value.bool false)) w141)) ∧
 ((x136 == 0 && (x137 == 0 && (x138 == 0 && (x139 == 0 && true)))) = false →
 R (Ending.returned (Value.bool false)) w135)) ∧
 (((↑n132 : Int) == 0) = false → R (Ending.returned (Value.bool false)) w130)) ∧
 ((x124 == 40) = false → R (Ending.returned (Value.bool false)) w127)) ∧
 ((x128 == 40) = false → R (Ending.returned (Value.bool false)) w127)))))))
theorem f7_eq (cap : Int) (most : Int) (la : Option Addr) (ln : Nat) (lc : Nat) (w : World) (R : Ending → World → Prop) : (fnF Go.Proofs.Try.prog h7 Go.Proofs.Try.f7 [Value.int IntKind.i64 cap, Value.int IntKind.i64 most, Value.slice la ln lc] w R).den = f7_vc cap most la ln lc w R := by kernel_rfl
theorem f7_calls (cap : Int) (most : Int) (la : Option Addr) (ln : Nat) (lc : Nat) (w : World) (R : Ending → World → Prop) (h : f7_vc cap most la ln lc w R) : Calls Go.Proofs.Try.prog 7 (List.toArray [Value.int IntKind.i64 cap, Value.int IntKind.i64 most, Value.slice la ln lc]) w R :=
 fn_sound (H := h7) (fn := Go.Proofs.Try.f7) (by kernel_rfl) (by kernel_rfl) (by kernel_rfl) ((f7_eq cap most la ln lc w R).mpr h)

end Vct

/- Agents: what holds whatever is done: the walk. -/
set_option maxRecDepth 20000
set_option maxHeartbeats 2000000
namespace Go.Vc.J
open Go Go.Vc Go.Vc.V Go.RowKit Go.Proofs Vct

variable {w W W' W2 : World} {M N : Nat → Prop} {gs ds : List Nat} {g r : Nat} {cap most : Int} {B : Nat → Prop} {q : AgQ} {D : AgL}

theorem doD_len (cap most : Int) (q : AgQ) (k i : Int) (V Y : List PartT) : (doD cap most q k i V Y).2.2.2.length ≤ q.2.2.length + 1 := by
  have hs : ∀ (D : AgL) (i : Int) (d : AgD), (setD D i d).length = D.length := fun D i d => by simp [setD]
  unfold doD
  split
  · unfold regD
    repeat' split
    all_goals first | (simp only [List.length_append, List.length_singleton]; omega) | omega
  split
  · unfold loseD
    split
    · simp only; omega
    · simp only
      rw [mdel_length]
      split <;> omega
  split
  · unfold takeD
    repeat' split
    all_goals first | (simp only [hs]; omega) | omega
  split
  · unfold giveD
    repeat' split
    all_goals first | (simp only [hs]; omega) | omega
  · unfold turnD
    repeat' split
    all_goals first | (simp only [hs]; omega) | omega
/-- How many All tells. -/
theorem at_all {K : Ending → World → Prop} (hA : AtF w M gs W) (h : AgX W B g cap most q) (hl : q.2.2.length ≤ 1000)
    (hK : ∀ w' (l : List AgR) a c, AtF w M gs w' → Keeps gs W w' → Bel W w' → AgX w' B g cap most q → OwnL W [] w' 89 3 agRE (.slice a q.2.2.length c) l → (∀ x ∈ l, AN W w' x) → (l.map plR).Perm q.2.2 → (l.Pairwise fun x y => ¬ y.1 < x.1) → K (.returned (.slice a q.2.2.length c)) w') : Calls Try.prog 41 #[ptr g] W K :=
  at_callq hA (c41 h hl) fun v w' hA' hk hb ⟨l, a, c, e, ho, hv, hp, hw⟩ => by
    have hll : l.length = q.2.2.length := by have := hp.length_eq; rwa [List.length_map] at this
    rw [hll] at e ho
    subst e
    exact hK w' l a c hA' hk hb (h.call hb) ho hv hp hw
theorem at_sum {K : Ending → World → Prop} (hA : AtF w M gs W) (h : AgX W B g cap most q) (hK : ∀ w', AtF w M gs w' → Keeps gs W w' → Bel W w' → AgX w' B g cap most q → K (.returned (a4V q.1)) w') : Calls Try.prog 40 #[ptr g] W K := by
  obtain ⟨r, m, hS, h2⟩ := h
  exact at_callb hA (c40 hS) fun w' hA hk hb => hK w' hA hk hb ⟨r, m, hS.call hb, h2⟩
theorem at_doG {K : Ending → World → Prop} (hA : At w gs W) (h : AgX W (fun b => w.heap.size ≤ b ∧ b ∉ gs) g cap most q) {L : List AcR} {a : Option Addr} {n c : Nat} (har : CR w L a n c) {x : AcR} (hx : x ∈ L)
    (hK : ∀ w', At w gs w' → Keeps gs W w' → AgX w' (fun b => w.heap.size ≤ b ∧ b ∉ gs) g cap most (doD cap most q x.1.1 x.1.2.1 x.1.2.2.1 x.1.2.2.2).2 → K (.returned (biV (doD cap most q x.1.1 x.1.2.1 x.1.2.2.1 x.1.2.2.2).1)) w') : Calls Try.prog 42 #[ptr g, .agg #[.int .i64 x.1.1, .int .i64 x.1.2.1, slV x.2.1, slV x.2.2]] W K := by
  have hc := c42 h x.1.1 x.1.2.1 (sle_keepC (har.v1 x hx) (KeepC.of_bel hA.below)) (sle_keepC (har.v2 x hx) (KeepC.of_bel hA.below)) fun W' hc => sle_keepC (har.v1 x hx) (KeepC.of_bel (hA.step hc fun b _ h => .inl h.1).below)
  refine at_callF hA hc (fun b _ e => .inl e.1) (fun _ hb hh => hh.2 hb) fun v w' hA' hk hch ⟨e, hX⟩ => ?_
  subst e
  refine hK w' hA' hk (hX.mono fun b _ hb => ?_)
  have := hA.size
  rcases hb with h | h
  · exact h
  · refine ⟨by omega, fun hm => ?_⟩
    have := hA.under b hm
    omega
theorem law7 {acts : List AcR} {a : Option Addr} {n c : Nat} (cap most : Int) (w : World) (har : CR w acts a n c) : Ret Try.prog 7 #[.int .i64 cap, .int .i64 most, .slice a n c] w (.bool true) := by
  intro R hR
  refine f7_calls cap most a n c w R ?_
  unfold f7_vc
  have hn := har.sl.len_le
  have hl0 := har.sl.1
  refine at_callq (At.refl w) (c38 w har) fun v w2 hA _ hb2 ⟨b, e, hfew⟩ => ?_
  subst e
  refine ⟨_, rfl, brNB (fun _ => leaf hR hA rfl) (fun hb => brD (fun _ => leaf hR hA rfl) (fun hcap => brD (fun _ => leaf hR hA rfl) (fun hmost => brD (fun _ => leaf hR hA rfl) (fun hmost2 => ?_))))⟩
  have hfew := hfew hb
  refine at_callq hA (c39 cap most w2) fun v w5 hA _ hb5 hq => ?_
  rcases hq with ⟨hlt, _⟩ | ⟨_, g, r, e, ht, hg, hr⟩
  · omega
  subst e
  have hs2 := hb2.size
  have hX : AgX w5 (fun b => w.heap.size ≤ b) g cap most (zA, zA, []) := ⟨r, [], ht, rfl, by
    rintro b (rfl | rfl | ⟨x, hx, _⟩)
    · omega
    · omega
    · cases hx⟩
  refine ⟨_, rfl, fun v W' => At w [] W' ∧ ∃ (i : Nat) (q : AgQ), v.1 = i ∧ i ≤ acts.length ∧ AgX W' (fun b => w.heap.size ≤ b) g cap most q ∧ Good cap most q ∧ q.2.2.length ≤ i, fun v _ => (n - v.1).toNat, ⟨hA, 0, _, rfl, Nat.zero_le _, hX, Good.new (by omega) (by omega) (by omega), Nat.le_refl _⟩, ?_⟩
  rintro x9 w10 ⟨hA, i, q, hi, hil, hX, hG, hlq⟩
  simp only at hi
  subst hi
  refine brD (fun hlt => ?_) (fun hge => ?_)
  · obtain ⟨x, hx⟩ : ∃ x, acts[i]? = some x := ⟨_, List.getElem?_eq_getElem (by omega)⟩
    have hsz10 := hA.size
    refine at_sum hA hX fun w12 hA hk hb12 hX => ⟨_, _, _, _, rfl, fun n17 hn17 => ?_⟩
    refine ⟨fun v W' => At w [n17] W' ∧ v.1 = (q.2.2.length : Int) ∧ AgX W' (fun b => w.heap.size ≤ b ∧ b ∉ [n17]) g cap most q, fun w19 hev hu => ?_, ?_⟩
    · have hb19 := hev.bel (by simpa using hn17)
      have hA := hA.evo (gs' := [n17]) (by have := hA.size; simp; omega) hev hu
      have hX : AgX w12 (fun b => w.heap.size ≤ b ∧ b ∉ [n17]) g cap most q := hX.mono fun b hb h => ⟨h, by simp; omega⟩
      refine at_all hA (hX.call hb19) (by omega) fun w21 l a' c' hA hk hb21 hX _ _ _ _ => ?_
      exact ⟨_, _, _, rfl, hk, hA, rfl, hX⟩
    · rintro x25 w26 ⟨hA, e25, hX⟩
      simp only at e25
      subst e25
      generalize hd : doD cap most q x.1.1 x.1.2.1 x.1.2.2.1 x.1.2.2.2 = d
      have hGd := hG.do x.1.1 x.1.2.1 x.1.2.2.1 x.1.2.2.2
      have hld := doD_len cap most q x.1.1 x.1.2.1 x.1.2.2.1 x.1.2.2.2
      rw [hd] at hGd hld
      refine ⟨fun _ W' => At w [n17] W' ∧ AgX W' (fun b => w.heap.size ≤ b ∧ b ∉ [n17]) g cap most d.2, ?_, ?_⟩
      · obtain ⟨ad, g1, el, _⟩ := elt_at (P := Try.prog) (k := .i64) (t := 76) (har.sl.call hA.below) hx (e := 86) (by kernel_rfl) (by kernel_rfl)
        refine ⟨ad, g1, _, _, _, _, _, _, _, _, el.agg 4 (by kernel_rfl) (by kernel_rfl) (by simp) (by simp), ?_⟩
        refine at_doG hA hX har (List.mem_of_getElem? hx) fun w38 hA hk hX => ⟨_, _, rfl, hk, hA, ?_⟩
        rw [hd] at hX
        exact hX
      · rintro w41 ⟨hA, hX⟩
        refine ⟨fun v W' => At w [n17] W' ∧ AgX W' (fun b => w.heap.size ≤ b ∧ b ∉ [n17]) g cap most d.2 ∧ ∃ p, v.1 = ⟨p, 0, none⟩ ∧ W'.heap[p]? = some (.cells ([.int .i64 d.2.1.1, .int .i64 d.2.1.2.1, .int .i64 d.2.1.2.2.1, .int .i64 d.2.1.2.2.2] : List Value).toArray 65 (0, 0)), ?_, ?_⟩
        · refine at_sum hA hX fun w44 hA hk hb44 hX => ⟨_, _, _, _, rfl, hk, ?_⟩
          have hsz := hA.size
          have hu17 := hA.under n17 (by simp)
          refine opw_allocS (zv := .agg #[.int .i64 0, .int .i64 0, .int .i64 0, .int .i64 0]) ([.int .i64 0, .int .i64 0, .int .i64 0, .int .i64 0] : List Value) (by kernel_rfl) (by kernel_rfl) hA fun p w50 hp hA hk hb50 hblk => ⟨_, rfl, hk, ?_⟩
          have hA50 := hA
          refine opw_storeF (off := 0) (cells' := [.int .i64 d.2.1.1, .int .i64 d.2.1.2.1, .int .i64 d.2.1.2.2.1, .int .i64 d.2.1.2.2.2]) hA hblk (.inl (by omega)) (by simp; omega) (by kernel_rfl) fun w53 hA hk hc53 hb53 => ⟨hk, hA, ?_, p, rfl, hb53⟩
          -- the table lies below the box
          have hbel : Bel w44 w53 := (((At.refl w44).call hb50).step hc53 fun b _ e => by subst e; exact .inl (by omega)).below
          exact hX.call hbel
        · rintro ad54 w55 ⟨hA, hX, p, e54, hblk⟩
          simp only at e54
          subst e54
          have hcs := hGd.1.lc
          refine ⟨fun _ W' => At w [n17] W' ∧ Bel w55 W' ∧ AgX W' (fun b => w.heap.size ≤ b ∧ b ∉ [n17]) g cap most d.2, ?_, ?_⟩
          · refine at_all hA hX (by omega) fun w58 l a' c' hA hk hb58 hX _ _ _ _ => ⟨_, _, _, rfl, hk, brE (fun he => ?_) (fun _ => ?_)⟩
            · have hblk := (hb58.block (Array.getElem?_eq_some_iff.1 hblk).1).trans hblk
              have hsu : d.2.1 = q.1 := hGd.2 (by omega)
              refine ⟨_, _, _, _, (elt_cells hblk).agg 4 (by kernel_rfl) (by kernel_rfl) (by simp) (by simp), brNB (fun e => ?_) (fun _ => ?_)⟩
              · rw [hsu] at e
                simp at e
              · refine at_all hA hX (by omega) fun w67 l a' c' hA hk hb67 hX _ _ _ _ => ⟨_, _, _, rfl, hk, brD (fun hh => by omega) (fun _ => ⟨hA, hb58.trans hb67, hX⟩)⟩
            · refine at_all hA hX (by omega) fun w72 l a' c' hA hk hb72 hX _ _ _ _ => ⟨_, _, _, rfl, hk, brD (fun hh => by omega) (fun _ => ⟨hA, hb58.trans hb72, hX⟩)⟩
          · rintro w76 ⟨hA, hb76, hX⟩
            have hsle := sle4 hblk
            refine ⟨fun v W' => At w [n17] W' ∧ Bel w55 W' ∧ AgX W' (fun b => w.heap.size ≤ b ∧ b ∉ [n17]) g cap most d.2 ∧ ∃ k : Nat, v.1 = k ∧ k ≤ 4, fun v _ => (4 - v.1).toNat, ⟨hA, hb76, hX, 0, rfl, by omega⟩, ?_⟩
            rintro x79 w80 ⟨hA, hb80, hX, k, hk, hk4⟩
            simp only at hk
            subst hk
            refine brD (fun hlt => ?_) (fun _ => ?_)
            · have hs80 := hsle.call hb80
              obtain ⟨y, hy⟩ : ∃ y, [d.2.1.1, d.2.1.2.1, d.2.1.2.2.1, d.2.1.2.2.2][k]? = some y := ⟨_, List.getElem?_eq_getElem (by simp; omega)⟩
              obtain ⟨ad, cs, e1, e2, e3, e4⟩ := hs80.at_ hy
              cases e1
              subst e4
              have el : Elt w80 ((⟨p, 0, none⟩ : Addr).add (k * 1)) (intE y) := fun j v hv => e3 j v hv
              have hyle : y ≤ most := by
                have hm := hGd.1.mo
                rw [hGd.1.su] at hy
                unfold all4 at hy
                have hk' : k = 0 ∨ k = 1 ∨ k = 2 ∨ k = 3 := by omega
                rcases hk' with rfl | rfl | rfl | rfl
                all_goals
                  simp only [List.getElem?_cons_zero, List.getElem?_cons_succ, Option.some.injEq] at hy
                  omega
              rw [succ_i k (by omega)]
              refine ⟨_, gives_index_arr (n := 1) (m := 4) (e := 2) (by kernel_rfl) (by kernel_rfl) (by omega), _, el.one (by kernel_rfl) (by simp), brD (fun hh => by omega) (fun _ => ⟨⟨hA, hb80, hX, k + 1, rfl, by omega⟩, by simp only; omega⟩)⟩
            · rw [succ_i i (by omega)]
              exact ⟨⟨hA.sub (by simp), i + 1, d.2, rfl, by omega, hX.mono fun b _ h => h.1, hGd.1, by omega⟩, by simp only; omega⟩
  · refine at_all hA hX (by omega) fun w84 l a' c' hA hk hb84 hX ho hv hp hw => ⟨_, _, _, rfl, ?_⟩
    have hrr := an_rr ho hv
    have hs := rows_srt hG.nd hp hw
    have hll := ho.len
    have hlm : ∀ x ∈ l, plR x ∈ q.2.2 := fun x hx => hp.mem_iff.1 (List.mem_map.2 ⟨x, hx, rfl⟩)
    refine ⟨fun v W' => At w [] W' ∧ Bel w84 W' ∧ ∃ i : Nat, v.1 = i ∧ i ≤ l.length, fun v _ => ((l.length : Int) - v.1).toNat, ⟨hA, Bel.refl _, 0, rfl, Nat.zero_le _⟩, ?_⟩
    rintro x90 w91 ⟨hA, hb91, i, hi, hil⟩
    simp only at hi
    subst hi
    refine brD (fun hlt => ?_) (fun hge => ?_)
    · obtain ⟨x, hx⟩ : ∃ x, l[i]? = some x := ⟨_, List.getElem?_eq_getElem (by omega)⟩
      have hxm := List.mem_of_getElem? hx
      obtain ⟨k1, k2, k3⟩ := hG.ok _ (hlm x hxm)
      have hr91 := hrr.keep (KeepC.of_bel hb91)
      obtain ⟨ad, g1, el, _⟩ := elt_at (P := Try.prog) (k := .i64) (t := 81) hr91.sl hx (e := 89) (by kernel_rfl) (by kernel_rfl)
      refine ⟨ad, g1, _, _, _, (el.sub (o := 1) (by decide)).one (by kernel_rfl) (by simp), ad, g1, _, _, _, (el.sub (o := 2) (by decide)).one (by kernel_rfl) (by simp), fun w100 hb100 => ?_⟩
      have hA := hA.call hb100
      have hc43 := c43ok w100 ((hr91.v1 x hxm).call hb100) ((hr91.v2 x hxm).call hb100) k1 k2
      rw [show (vsub x.2.1.1 x.2.1.2).isSome = true from k3] at hc43
      refine at_callb hA hc43 fun w102 hA hk hb102 => ⟨_, rfl, brNB (fun e => by cases e) (fun _ => ?_)⟩
      have hb102' := (hb91.trans hb100).trans hb102
      rw [succ_i i (by omega)]
      refine brD (fun hpos => ?_) (fun _ => ⟨⟨hA, hb102', i + 1, rfl, by omega⟩, by simp only; omega⟩)
      obtain ⟨y, hy⟩ : ∃ x, l[i - 1]? = some x := ⟨_, List.getElem?_eq_getElem (by omega)⟩
      have hr102 := hrr.keep (KeepC.of_bel hb102')
      obtain ⟨ad1, g1, el1, _⟩ := elt_at (P := Try.prog) (k := .i64) (t := 81) hr102.sl hx (e := 89) (by kernel_rfl) (by kernel_rfl)
      obtain ⟨ad2, g2, el2, _⟩ := elt_at (P := Try.prog) (k := .i64) (t := 81) hr102.sl hy (e := 89) (by kernel_rfl) (by kernel_rfl)
      have e2 : IntKind.i64.wrap ((i : Int) - 1) = ((i - 1 : Nat) : Int) := by rw [wrap_i64 (by omega) (by omega)]; omega
      rw [e2]
      have hyx : y.1 < x.1 := by
        have h' := List.pairwise_iff_getElem.1 (List.pairwise_map.1 hs)
        have hi' := (List.getElem?_eq_some_iff.1 hx)
        have hj' := (List.getElem?_eq_some_iff.1 hy)
        have := h' (i - 1) i hj'.1 hi'.1 (by omega)
        rw [hi'.2, hj'.2] at this
        exact this
      exact ⟨ad1, g1, _, el1.one (by kernel_rfl) (by simp), ad2, g2, _, el2.one (by kernel_rfl) (by simp), brD (fun hh => by omega) (fun _ => ⟨⟨hA, hb102', i + 1, rfl, by omega⟩, by simp only; omega⟩)⟩
    · refine ⟨fun v W' => At w [] W' ∧ NoA W' (some v.1), ?_, ?_⟩
      · refine opw_allocS (zv := .agg #[.int .i64 0, .int .i64 0, .map none, .int .i64 0, .int .i64 0, .int .i64 0, .int .i64 0, .int .i64 0, .int .i64 0, .int .i64 0, .int .i64 0]) ([.int .i64 0, .int .i64 0, .map none, .int .i64 0, .int .i64 0, .int .i64 0, .int .i64 0, .int .i64 0, .int .i64 0, .int .i64 0, .int .i64 0] : List Value) (by kernel_rfl) (by kernel_rfl) hA fun gp w110 hgp hA hk hb110 hblk => ⟨_, rfl, hA, .inr ⟨gp, rfl, hblk⟩⟩
      · rintro ad112 w113 ⟨hA, hno⟩
        refine ⟨fun v W' => At w [] W' ∧ NoA W' (some ad112) ∧ v.1 = 40, ?_, ?_⟩
        · refine opw_litL (e' := 73) (f := partE) (size := 3) (l := ([(0, 0, 1)] : List PartT)) hA rfl (fun _ _ => rfl) (by decide) (by kernel_rfl) fun gv w116 _ hA _ hb116 ho => ⟨_, _, _, rfl, ?_⟩
          refine at_callb hA (c44n 1 (hno.call hb116)) fun w121 hA hk hb121 => ⟨_, _, rfl, hA, (hno.call hb116).call hb121, rfl⟩
        · rintro x124 w125 ⟨hA, hno, e124⟩
          simp only at e124
          subst e124
          refine at_callb hA (c45n (t := none) 1 (.inl rfl)) fun w127 hA hk hb127 => ⟨_, rfl, brE (fun _ => brE (fun _ => ?_) (fun e => absurd rfl e)) (fun e => absurd rfl e)⟩
          refine at_callb hA (c41n (t := none) (.inl rfl)) fun w130 hA hk hb130 => ⟨_, _, _, rfl, brE (fun _ => ?_) (fun e => absurd rfl e)⟩
          refine at_callb hA (c40n (hno.call (hb127.trans hb130))) fun w135 hA hk hb135 => ⟨_, _, _, _, rfl, brB (fun _ => ?_) (fun e => by cases e)⟩
          refine at_callb hA (c46n (t := none) 1 (.inl rfl)) fun w141 hA hk hb141 => ⟨_, rfl, brNB (fun _ => ?_) (fun e => by cases e)⟩
          exact at_callb hA (c47 w141) fun w144 hA hk _ => ⟨_, rfl, leaf hR hA rfl⟩
end Go.Vc.J

/- The formulas of functions, printed by a program (VcTool.lean): each is what the generator's formula comes to, by the kernel's reckoning; whoever proves one has the function's contract. -/
set_option maxRecDepth 100000
set_option maxHeartbeats 1000000
set_option linter.unusedVariables false
namespace Vct
open Go Go.Vc Go.RowKit
/-! manciple/manciplelaw22.AgentsPlays -/
def h9 : Hints := ⟨[], [35, 52, 62, 80, 89, 107], [20, 33, 45, 74, 120, 26, 30, 36, 70, 97, 99, 112, 115, 126, 133, 140], [(16, [0, 1, 2, 3, 4, 5, 6, 7]), (17, [0, 1, 2, 3, 4, 5, 6, 7, 9, 10, 11, 12, 13, 14, 8, 15, 16, 17, 18, 19, 20, 21, 22, 23, 24, 25, 26, 27]), (19, [0, 2, 3, 1, 4, 5, 6, 8, 7, 9, 10, 11, 12, 13, 15, 14, 16, 17, 18, 19, 20, 21, 22])], [], [(8, ⟨[(9, .int .i64)], []⟩)], [(7, ⟨[(8, .addr)], []⟩), (11, ⟨[(10, .addr), (11, .bool), (12, .int .i64)], []⟩), (12, ⟨[(13, .bool), (14, .int .i64)], []⟩), (15, ⟨[], []⟩), (16, ⟨[(15, .addr), (16, .bool)], []⟩)], [], [(10, (.op 0 (.op 1 (.op 2 (.op 3 (.op 4 (.alt (.op 5 (.op 6 (.op 7 (.op 8 (.op 9 (.op 10 (.op 11 (.op 12 (.op 13 .nil))))))))) (.op 10 (.op 5 (.op 6 (.op 7 (.op 8 (.op 9 (.op 11 (.op 12 (.op 13 .nil))))))))))))))))]⟩
def f9_vc (cap : Int) (most : Int) (la : Option Addr) (ln : Nat) (lc : Nat) (w : World) (R : Ending → World → Prop) : Prop :=
 Calls Proofs.Try.prog 38 #[Value.slice la ln lc] w fun (e1 : Ending) (w2 : World) =>
 ∃ (b3 : Bool),
 e1 = Ending.returned (Value.bool b3) ∧
 ((!b3) = true → R (Ending.returned (Value.bool true)) w2) ∧
 ((!b3) = false →
 Calls Proofs.Try.prog 39 #[Value.int IntKind.i64 cap, Value.int IntKind.i64 most] w2 fun (e4 : Ending) (w5 : World) =>
 ∃ (a6 : Option Addr),
 e4 = Ending.returned (Value.pointer a6) ∧
 (decide (cap < 1) = true →
 ∃ (b7 : Bool),
 Gives Proofs.Try.prog (binOpS BinOp.eql 78 (Operand.tmp 34) (Operand.const (Value.pointer none)) (Value.pointer a6) (Value.pointer none)) (Value.bool b7) ∧
 (b7 = true → Calls Proofs.Try.prog 47 #[] w5 fun (e8 : Ending) (w9 : World) => ∃ (b10 : Bool), e8 = Ending.returned (Value.bool b10) ∧ R (Ending.returned (Value.bool b10)) w9) ∧
 (b7 = false → R (Ending.returned (Value.bool false)) w5)) ∧
 (decide (cap < 1) = false →
 (decide (most < 1) = true →
 ∃ (b11 : Bool),
 Gives Proofs.Try.prog (binOpS BinOp.eql 78 (Operand.tmp 34) (Operand.const (Value.pointer none)) (Value.pointer a6) (Value.pointer none)) (Value.bool b11) ∧
 (b11 = true → Calls Proofs.Try.prog 47 #[] w5 fun (e12 : Ending) (w13 : World) => ∃ (b14 : Bool), e12 = Ending.returned (Value.bool b14) ∧ R (Ending.returned (Value.bool b14)) w13) ∧
 (b11 = false → R (Ending.returned (Value.bool false)) w5)) ∧
 (decide (most < 1) = false →
 (decide (most > 9007199254740992) = true →
 ∃ (b15 : Bool),
 Gives Proofs.Try.prog (binOpS BinOp.eql 78 (Operand.tmp 34) (Operand.const (Value.pointer none)) (Value.pointer a6) (Value.pointer none)) (Value.bool b15) ∧
 (b15 = true → Calls Proofs.Try.prog 47 #[] w5 fun (e16 : Ending) (w17 : World) => ∃ (b18 : Bool), e16 = Ending.returned (Value.bool b18) ∧ R (Ending.returned (Value.bool b18)) w17) ∧
 (b15 = false → R (Ending.returned (Value.bool false)) w5)) ∧
 (decide (most > 9007199254740992) = false →
 ∃ (J19 : Addr × Unit → World → Prop),
 (OpW Proofs.Try.prog (valueS (Instr.alloc 104 true (Value.tuple #[]))) w5 fun (v20 : Value) (w21 : World) =>
 ∃ (ad22 : Addr),
 v20 = Value.pointer (some ad22) ∧
 OpW Proofs.Try.prog (skipS (Instr.storeAt 104 (Value.pointer (some ad22)) (Value.agg #[Value.int IntKind.i64 cap, Value.int IntKind.i64 most, Value.slice none 0 0]))) w21
 fun (v23 : Value) (w24 : World) => J19 (ad22, ()) w24) ∧
 ∀ (ad25 : Addr) (w26 : World),
 J19 (ad25, ()) w26 →
 ∃ (J27 : Int × Unit → World → Prop),
 ∃ (J28 : Int × Unit → World → Nat),
 J27 (0, ()) w26 ∧
 ∀ (x29 : Int) (w30 : World),
 J27 (x29, ()) w30 →
 (decide (x29 < (↑ln : Int)) = true →
 ∃ (J31 : Addr × Bool × Int × Unit → World → Prop),
 (∃ (x32 : Int),
 ∃ (x33 : Int),
 ∃ (a34 : Option Addr),
 ∃ (n35 : Nat),
 ∃ (n36 : Nat),
 Reads Proofs.Try.prog [] (Instr.loadAt 104 (Value.pointer (some ad25))) w30 (Value.agg #[Value.int IntKind.i64 x32, Value.int IntKind.i64 x33, Value.slice a34 n35 n36]) ∧
 ∃ (ad37 : Addr),
 Gives Proofs.Try.prog (Instr.indexAt 76 (Value.slice la ln lc) (Value.int IntKind.i64 x29)) (Value.pointer (some ad37)) ∧
 ∃ (x38 : Int),
 ∃ (x39 : Int),
 ∃ (a40 : Option Addr),
 ∃ (n41 : Nat),
 ∃ (n42 : Nat),
 ∃ (a43 : Option Addr),
 ∃ (n44 : Nat),
 ∃ (n45 : Nat),
 Reads Proofs.Try.prog [] (Instr.loadAt 86 (Value.pointer (some ad37))) w30
 (Value.agg #[Value.int IntKind.i64 x38, Value.int IntKind.i64 x39, Value.slice a40 n41 n42, Value.slice a43 n44 n45]) ∧
 (∀ (w46 : World),
 Bel w30 w46 →
 Calls Proofs.Try.prog 53
 #[Value.agg #[Value.int IntKind.i64 x32, Value.int IntKind.i64 x33, Value.slice a34 n35 n36],
 Value.agg #[Value.int IntKind.i64 x38, Value.int IntKind.i64 x39, Value.slice a40 n41 n42, Value.slice a43 n44 n45]]
 w46 fun (e47 : Ending) (w48 : World) =>
 ∃ (x49 : Int),
 ∃ (x50 : Int),
 ∃ (a51 : Option Addr),
 ∃ (n52 : Nat),
 ∃ (n53 : Nat),
 ∃ (b54 : Bool),
 ∃ (x55 : Int),
 e47 =
 Ending.returned
 (Value.tuple
 #[Value.agg #[Value.int IntKind.i64 x49, Value.int IntKind.i64 x50, Value.slice a51 n52 n53], Value.bool b54,
 Value.int IntKind.i64 x55]) ∧
 OpW Proofs.Try.prog (valueS (Instr.alloc 104 true (Value.tuple #[]))) w48 fun (v56 : Value) (w57 : World) =>
 ∃ (ad58 : Addr),
 v56 = Value.pointer (some ad58) ∧
 OpW Proofs.Try.prog
 (skipS
 (Instr.storeAt 104 (Value.pointer (some ad58))
 (Value.agg #[Value.int IntKind.i64 x49, Value.int IntKind.i64 x50, Value.slice a51 n52 n53])))
 w57 fun (v59 : Value) (w60 : World) => J31 (ad58, b54, x55, ()) w60) ∧
 ∀ (w61 : World),
 Bel w30 w61 →
 OpW Proofs.Try.prog (valueS (Instr.alloc 104 true (Value.tuple #[]))) w61 fun (v62 : Value) (w63 : World) =>
 ∃ (ad64 : Addr),
 v62 = Value.pointer (some ad64) ∧
 Reads Proofs.Try.prog [] (Instr.loadAt 86 (Value.pointer (some ad37))) w63
 (Value.agg #[Value.int IntKind.i64 x38, Value.int IntKind.i64 x39, Value.slice a40 n41 n42, Value.slice a43 n44 n45]) ∧
 Reads Proofs.Try.prog [] (Instr.loadAt 104 (Value.pointer (some ad25))) w63
 (Value.agg #[Value.int IntKind.i64 x32, Value.int IntKind.i64 x33, Value.slice a34 n35 n36]) ∧
 Calls Proofs.Try.prog 53
 #[Value.agg #[Value.int IntKind.i64 x32, Value.int IntKind.i64 x33, Value.slice a34 n35 n36],
 Value.agg #[Value.int IntKind.i64 x38, Value.int IntKind.i64 x39, Value.slice a40 n41 n42, Value.slice a43 n44 n45]]
 w63 fun (e65 : Ending) (w66 : World) =>
 ∃ (x67 : Int),
 ∃ (x68 : Int),
 ∃ (a69 : Option Addr),
 ∃ (n70 : Nat),
 ∃ (n71 : Nat),
 ∃ (b72 : Bool),
 ∃ (x73 : Int),
 e65 =
 Ending.returned
 (Value.tuple
 #[Value.agg #[Value.int IntKind.i64 x67, Value.int IntKind.i64 x68, Value.slice a69 n70 n71], Value.bool b72,
 Value.int IntKind.i64 x73]) ∧
 OpW Proofs.Try.prog
 (skipS
 (Instr.storeAt 104 (Value.pointer (some ad64))
 (Value.agg #[Value.int IntKind.i64 x67, Value.int IntKind.i64 x68, Value.slice a69 n70 n71])))
 w66 fun (v74 : Value) (w75 : World) => J31 (ad64, b72, x73, ()) w75) ∧
 ∀ (ad76 : Addr) (b77 : Bool) (x78 : Int) (w79 : World),
 J31 (ad76, b77, x78, ()) w79 →
 ∃ (J80 : Bool × Int × Unit → World → Prop),
 (∃ (ad81 : Addr),
 Gives Proofs.Try.prog (Instr.indexAt 76 (Value.slice la ln lc) (Value.int IntKind.i64 x29)) (Value.pointer (some ad81)) ∧
 ∃ (x82 : Int),
 ∃ (x83 : Int),
 ∃ (a84 : Option Addr),
 ∃ (n85 : Nat),
 ∃ (n86 : Nat),
 ∃ (a87 : Option Addr),
 ∃ (n88 : Nat),
 ∃ (n89 : Nat),
 Reads Proofs.Try.prog [] (Instr.loadAt 86 (Value.pointer (some ad81))) w79
 (Value.agg #[Value.int IntKind.i64 x82, Value.int IntKind.i64 x83, Value.slice a84 n85 n86, Value.slice a87 n88 n89]) ∧
 Calls Proofs.Try.prog 42
 #[Value.pointer a6, Value.agg #[Value.int IntKind.i64 x82, Value.int IntKind.i64 x83, Value.slice a84 n85 n86, Value.slice a87 n88 n89]] w79
 fun (e90 : Ending) (w91 : World) =>
 ∃ (b92 : Bool), ∃ (x93 : Int), e90 = Ending.returned (Value.tuple #[Value.bool b92, Value.int IntKind.i64 x93]) ∧ J80 (b92, x93, ()) w91) ∧
 ∀ (b94 : Bool) (x95 : Int) (w96 : World),
 J80 (b94, x95, ()) w96 →
 ((!b94 == b77) = true → R (Ending.returned (Value.bool false)) w96) ∧
 ((!b94 == b77) = false →
 ((x95 != x78) = true → R (Ending.returned (Value.bool false)) w96) ∧
 ((x95 != x78) = false →
 ∃ (J97 : Unit → World → Prop),
 (∃ (x98 : Int),
 ∃ (x99 : Int),
 ∃ (a100 : Option Addr),
 ∃ (n101 : Nat),
 ∃ (n102 : Nat),
 Reads Proofs.Try.prog [] (Instr.loadAt 104 (Value.pointer (some ad76))) w96
 (Value.agg #[Value.int IntKind.i64 x98, Value.int IntKind.i64 x99, Value.slice a100 n101 n102]) ∧
 OpW Proofs.Try.prog
 (skipS
 (Instr.storeAt 104 (Value.pointer (some ad25)) (Value.agg #[Value.int IntKind.i64 x98, Value.int IntKind.i64 x99, Value.slice a100 n101 n102])))
 w96 fun (v103 : Value) (w104 : World) => J97 () w104) ∧
 ∀ (w105 : World),
 J97 () w105 →
 ∃ (J106 : Addr × Bool × Unit → World → Prop),
 (∃ (ad107 : Addr),
 Gives Proofs.Try.prog (Instr.indexAt 76 (Value.slice la ln lc) (Value.int IntKind.i64 x29)) (Value.pointer (some ad107)) ∧
 ∃ (x108 : Int),
 Reads Proofs.Try.prog [] (Instr.loadAt 2 (Value.pointer (some (Addr.mk ad107.block (ad107.off + 1) none)))) w105 (Value.int IntKind.i64 x108) ∧
 Calls Proofs.Try.prog 54 #[Value.pointer a6, Value.int IntKind.i64 x108] w105 fun (e109 : Ending) (w110 : World) =>
 ∃ (x111 : Int),
 ∃ (a112 : Option Addr),
 ∃ (n113 : Nat),
 ∃ (n114 : Nat),
 ∃ (a115 : Option Addr),
 ∃ (n116 : Nat),
 ∃ (n117 : Nat),
 ∃ (b118 : Bool),
 e109 =
 Ending.returned
 (Value.tuple
 #[Value.agg #[Value.int IntKind.i64 x111, Value.slice a112 n113 n114, Value.slice a115 n116 n117], Value.bool b118]) ∧
 OpW Proofs.Try.prog (valueS (Instr.alloc 89 true (Value.tuple #[]))) w110 fun (v119 : Value) (w120 : World) =>
 ∃ (ad121 : Addr),
 v119 = Value.pointer (some ad121) ∧
 OpW Proofs.Try.prog
 (skipS
 (Instr.storeAt 89 (Value.pointer (some ad121))
 (Value.agg #[Value.int IntKind.i64 x111, Value.slice a112 n113 n114, Value.slice a115 n116 n117])))
 w120 fun (v122 : Value) (w123 : World) => J106 (ad121, b118, ()) w123) ∧
 ∀ (ad124 : Addr) (b125 : Bool) (w126 : World),
 J106 (ad124, b125, ()) w126 →
 ∃ (x127 : Int),
 ∃ (x128 : Int),
 ∃ (a129 : Option Addr),
 ∃ (n130 : Nat),
 ∃ (n131 : Nat),
 Reads Proofs.Try.prog [] (Instr.loadAt 104 (Value.pointer (some ad25))) w126
 (Value.agg #[Value.int IntKind.i64 x127, Value.int IntKind.i64 x128, Value.slice a129 n130 n131]) ∧
 ∃ (ad132 : Addr),
 Gives Proofs.Try.prog (Instr.indexAt 76 (Value.slice la ln lc) (Value.int IntKind.i64 x29)) (Value.pointer (some ad132)) ∧
 ∃ (x133 : Int),
 Reads Proofs.Try.prog [] (Instr.loadAt 2 (Value.pointer (some (Addr.mk ad132.block (ad132.off + 1) none)))) w126
 (Value.int IntKind.i64 x133) ∧
 ∀ (w134 : World),
 Bel w126 w134 →
 Calls Proofs.Try.prog 55
 #[Value.agg #[Value.int IntKind.i64 x127, Value.int IntKind.i64 x128, Value.slice a129 n130 n131],
 Value.int IntKind.i64 x133]
 w134 fun (e135 : Ending) (w136 : World) =>
 ∃ (x137 : Int),
 e135 = Ending.returned (Value.int IntKind.i64 x137) ∧
 ((!b125 == decide (x137 ≥ 0)) = true → ∀ (w138 : World), Bel w136 w138 → R (Ending.returned (Value.bool false)) w138) ∧
 ((!b125 == decide (x137 ≥ 0)) = false →
 (b125 = true →
 ∃ (x139 : Int),
 ∃ (a140 : Option Addr),
 ∃ (n141 : Nat),
 ∃ (n142 : Nat),
 ∃ (a143 : Option Addr),
 ∃ (n144 : Nat),
 ∃ (n145 : Nat),
 Reads Proofs.Try.prog [] (Instr.loadAt 89 (Value.pointer (some ad124))) w136
 (Value.agg
 #[Value.int IntKind.i64 x139, Value.slice a140 n141 n142, Value.slice a143 n144 n145]) ∧
 ∃ (a146 : Option Addr),
 ∃ (n147 : Nat),
 ∃ (n148 : Nat),
 Reads Proofs.Try.prog []
 (Instr.loadAt 81 (Value.pointer (some (Addr.mk ad25.block (ad25.off + 2) none)))) w136
 (Value.slice a146 n147 n148) ∧
 ∃ (a149 : Option Addr),
 ∃ (n150 : Nat),
 ∃ (n151 : Nat),
 Gives Proofs.Try.prog
 (Instr.sliceAt 81 (Value.slice a146 n147 n148)
 (some (Value.int IntKind.i64 x137))
 (some (Value.int IntKind.i64 (IntKind.i64.wrap (x137 + 1)))) none)
 (Value.slice a149 n150 n151) ∧
 ∀ (w152 : World),
 Bel w136 w152 →
 OpW Proofs.Try.prog
 (valueS
 (Instr.buildSlice 81 1
 #[(0,
 Value.agg
 #[Value.int IntKind.i64 x139, Value.slice a140 n141 n142,
 Value.slice a143 n144 n145])]))
 w152 fun (v153 : Value) (w154 : World) =>
 ∃ (a155 : Option Addr),
 ∃ (n156 : Nat),
 ∃ (n157 : Nat),
 v153 = Value.slice a155 n156 n157 ∧
 Reads Proofs.Try.prog []
 (Instr.loadAt 81
 (Value.pointer
 (some (Addr.mk ad25.block (ad25.off + 2) none))))
 w154 (Value.slice a146 n147 n148) ∧
 Calls Proofs.Try.prog 52
 #[Value.slice a155 n156 n157, Value.slice a149 n150 n151] w154
 fun (e158 : Ending) (w159 : World) =>
 ∃ (b160 : Bool),
 e158 = Ending.returned (Value.bool b160) ∧
 Reads Proofs.Try.prog []
 (Instr.loadAt 81
 (Value.pointer
 (some (Addr.mk ad25.block (ad25.off + 2) none))))
 w159 (Value.slice a146 n147 n148) ∧
 ((!b160) = true →
 R (Ending.returned (Value.bool false)) w159) ∧
 ((!b160) = false →
 ((!b125) = true →
 ∃ (x161 : Int),
 Reads Proofs.Try.prog []
 (Instr.loadAt 2
 (Value.pointer (some ad124)))
 w159 (Value.int IntKind.i64 x161) ∧
 ((x161 != 0) = true →
 R (Ending.returned (Value.bool false))
 w159) ∧
 ((x161 != 0) = false →
 J27 (IntKind.i64.wrap (x29 + 1), ())
 w159 ∧
 J28 (IntKind.i64.wrap (x29 + 1), ())
 w159 <
 J28 (x29, ()) w30)) ∧
 ((!b125) = false →
 J27 (IntKind.i64.wrap (x29 + 1), ()) w159 ∧
 J28 (IntKind.i64.wrap (x29 + 1), ()) w159 <
 J28 (x29, ()) w30))) ∧
 (b125 = false →
 ((!b125) = true →
 ∃ (x162 : Int),
 Reads Proofs.Try.prog [] (Instr.loadAt 2 (Value.pointer (some ad124))) w136 (Value.int IntKind.i64 x162) ∧
 ((x162 != 0) = true → ∀ (w163 : World), Bel w136 w163 → R (Ending.returned (Value.bool false)) w163) ∧
 ((x162 != 0) = false →
 ∀ (w164 : World),
 Bel w136 w164 →
 J27 (IntKind.i64.wrap (x29 + 1), ()) w164 ∧
 J28 (IntKind.i64.wrap (x29 + 1), ()) w164 < J28 (x29, ()) w30)) ∧
 ((!b125) = false →
 ∀ (w165 : World),
 Bel w136 w165 →
 J27 (IntKind.i64.wrap (x29 + 1), ()) w165 ∧
 J28 (IntKind.i64.wrap (x29 + 1), ()) w165 < J28 (x29, ()) w30)))))) ∧
 (decide (x29 < (↑ln : Int)) = false →
 ∃ (a166 : Option Addr),
 ∃ (n167 : Nat),
 ∃ (n168 : Nat),
 Reads Proofs.Try.prog [] (Instr.loadAt 81 (Value.pointer (some (Addr.mk ad25.block (ad25.off + 2) none)))) w30 (Value.slice a166 n167 n168) ∧
 ∀ (w169 : World),
 Bel w30 w169 →
 Calls Proofs.Try.prog 41 #[Value.pointer a6] w169 fun (e170 : Ending) (w171 : World) =>
 ∃ (a172 : Option Addr),
 ∃ (n173 : Nat),
 ∃ (n174 : Nat),
 e170 = Ending.returned (Value.slice a172 n173 n174) ∧
 Reads Proofs.Try.prog [] (Instr.loadAt 81 (Value.pointer (some (Addr.mk ad25.block (ad25.off + 2) none)))) w171 (Value.slice a166 n167 n168) ∧
 Calls Proofs.Try.prog 52 #[Value.slice a172 n173 n174, Value.slice a166 n167 n168] w171 fun (e175 : Ending) (w176 : World) =>
 ∃ (b177 : Bool),
 e175 = Ending.returned (Value.bool b177) ∧
 (b177 = true →
 ∃ (x178 : Int),
 ∃ (x179 : Int),
 ∃ (a180 : Option Addr),
 ∃ (n181 : Nat),
 ∃ (n182 : Nat),
 Reads Proofs.Try.prog [] (Instr.loadAt 104 (Value.pointer (some ad25))) w176
 (Value.agg #[Value.int IntKind.i64 x178, Value.int IntKind.i64 x179, Value.slice a180 n181 n182]) ∧
 Calls Proofs.Try.prog 40 #[Value.pointer a6] w176 fun (e183 : Ending) (w184 : World) =>
 ∃ (x185 : Int),
 ∃ (x186 : Int),
 ∃ (x187 : Int),
 ∃ (x188 : Int),
 e183 =
 Ending.returned
 (Value.agg #[Value.int IntKind.i64 x185, Value.int IntKind.i64 x186, Value.int IntKind.i64 x187, Value.int IntKind.i64 x188]) ∧
 Reads Proofs.Try.prog [] (Instr.loadAt 104 (Value.pointer (some ad25))) w184
 (Value.agg #[Value.int IntKind.i64 x178, Value.int IntKind.i64 x179, Value.slice a180 n181 n182]) ∧
 Calls Proofs.Try.prog 56
 #[Value.agg #[Value.int IntKind.i64 x178, Value.int IntKind.i64 x179, Value.slice a180 n181 n182], Value.bool false] w184
 fun (e189 : Ending) (w190 : World) =>
 ∃ (x191 : Int),
 ∃ (x192 : Int),
 ∃ (x193 : Int),
 ∃ (x194 : Int),
 e189 =
 Ending.returned
 (Value.agg
 #[Value.int IntKind.i64 x191, Value.int IntKind.i64 x192, Value.int IntKind.i64 x193,
 Value.int IntKind.i64 x194]) ∧
 ((x185 == x191 && (x186 == x192 && (x187 == x193 && (x188 == x194 && true)))) = true →
 ∃ (x195 : Int),
 ∃ (x196 : Int),
 ∃ (a197 : Option Addr),
 ∃ (n198 : Nat),
 ∃ (n199 : Nat),
 Reads Proofs.Try.prog [] (Instr.loadAt 104 (Value.pointer (some ad25))) w190
 (Value.agg #[Value.int IntKind.i64 x195, Value.int IntKind.i64 x196, Value.slice a197 n198 n199]) ∧
 Calls Proofs.Try.prog 48 #[Value.pointer a6] w190 fun (e200 : Ending) (w201 : World) =>
 ∃ (x202 : Int),
 ∃ (x203 : Int),
 ∃ (x204 : Int),
 ∃ (x205 : Int),
 e200 =
 Ending.returned
 (Value.agg
 #[Value.int IntKind.i64 x202, Value.int IntKind.i64 x203,
 Value.int IntKind.i64 x204, Value.int IntKind.i64 x205]) ∧
 Reads Proofs.Try.prog [] (Instr.loadAt 104 (Value.pointer (some ad25))) w201
 (Value.agg
 #[Value.int IntKind.i64 x195, Value.int IntKind.i64 x196,
 Value.slice a197 n198 n199]) ∧
 Calls Proofs.Try.prog 56
 #[Value.agg
 #[Value.int IntKind.i64 x195, Value.int IntKind.i64 x196,
 Value.slice a197 n198 n199],
 Value.bool true]
 w201 fun (e206 : Ending) (w207 : World) =>
 ∃ (x208 : Int),
 ∃ (x209 : Int),
 ∃ (x210 : Int),
 ∃ (x211 : Int),
 e206 =
 Ending.returned
 (Value.agg
 #[Value.int IntKind.i64 x208, Value.int IntKind.i64 x209,
 Value.int IntKind.i64 x210, Value.int IntKind.i64 x211]) ∧
 ((x202 == x208 &&
 (x203 == x209 && (x204 == x210 && (x205 == x211 && true)))) =
 true →
 Calls Proofs.Try.prog 47 #[] w207 fun (e212 : Ending) (w213 : World) =>
 ∃ (b214 : Bool),
 e212 = Ending.returned (Value.bool b214) ∧
 R (Ending.returned (Value.bool b214)) w213) ∧
 ((x202 == x208 &&
 (x203 == x209 && (x204 == x210 && (x205 == x211 && true)))) =
 false →
 R (Ending.returned (Value.bool false)) w207)) ∧
 ((x185 == x191 && (x186 == x192 && (x187 == x193 && (x188 == x194 && true)))) = false →
 R (Ending.returned (Value.bool false)) w190)) ∧
 (b177 = false → R (Ending.returned (Value.bool false)) w176))))))
theorem f9_eq (cap : Int) (most : Int) (la : Option Addr) (ln : Nat) (lc : Nat) (w : World) (R : Ending → World → Prop) : (fnF Go.Proofs.Try.prog h9 Go.Proofs.Try.f9 [Value.int IntKind.i64 cap, Value.int IntKind.i64 most, Value.slice la ln lc] w R).den = f9_vc cap most la ln lc w R := by kernel_rfl
theorem f9_calls (cap : Int) (most : Int) (la : Option Addr) (ln : Nat) (lc : Nat) (w : World) (R : Ending → World → Prop) (h : f9_vc cap most la ln lc w R) : Calls Go.Proofs.Try.prog 9 (List.toArray [Value.int IntKind.i64 cap, Value.int IntKind.i64 most, Value.slice la ln lc]) w R :=
 fn_sound (H := h9) (fn := Go.Proofs.Try.f9) (by kernel_rfl) (by kernel_rfl) (by kernel_rfl) ((f9_eq cap most la ln lc w R).mpr h)

end Vct

/- Slices of slices: what Instr.sliceAt gives. -/
namespace Go.Vc
open Go Go.RowKit
section
variable {P : Program}
theorem gives_slice_lh {t e : TypeId} {n len cap l h : Nat} {a : Option Addr} {k k2 : IntKind} (ht : P.underlying t = some (.slice e)) (hs : pureRun P (sizeOf e) = some n) (h1 : l ≤ h) (h2 : h ≤ cap) :
    Gives P (Instr.sliceAt t (.slice a len cap) (some (.int k (l : Int))) (some (.int k2 (h : Int))) none) (.slice (if cap = l then a else a.map (·.add (l * n))) (h - l) (cap - l)) := by
  intro W
  have he : P.elem t = e := by simp [Program.elem, ht]
  have ht' : P.underlying t = some (.slice (P.elem t)) := by rw [he]; exact ht
  have hh := run_slice_lh (P := P) W t a len cap ht' k k2 (l : Int) (h : Int) (by omega) (by omega) (by omega)
  rw [run_sliceAt_slice (P := P) W t _ _ _ _ ht', hh, he, pureRun_run hs W]
  simp only [Result.andThen, sliced, Int.toNat_natCast]
theorem gives_slice_h {t e : TypeId} {n len cap h : Nat} {a : Option Addr} {k2 : IntKind} (ht : P.underlying t = some (.slice e)) (hs : pureRun P (sizeOf e) = some n) (h2 : h ≤ cap) :
    Gives P (Instr.sliceAt t (.slice a len cap) none (some (.int k2 (h : Int))) none) (.slice (if cap = 0 then a else a.map (·.add (0 * n))) h cap) := by
  intro W
  have he : P.elem t = e := by simp [Program.elem, ht]
  have ht' : P.underlying t = some (.slice (P.elem t)) := by rw [he]; exact ht
  have hh := run_slice_h (P := P) W t a len cap ht' k2 (h : Int) (by omega) (by omega)
  rw [run_sliceAt_slice (P := P) W t _ _ _ _ ht', hh, he, pureRun_run hs W]
  simp only [Result.andThen, sliced, Int.toNat_natCast, Nat.sub_zero]
end
end Go.Vc

/- Agents: rows of the reference beside a table. -/
set_option maxRecDepth 20000
set_option maxHeartbeats 2000000
namespace Go.Vc.J
open Go Go.Vc Go.Vc.V Go.RowKit Go.Proofs Vct

variable {w W W' W2 : World} {M N : Nat → Prop} {gs ds : List Nat} {g r : Nat} {cap most : Int} {B : Nat → Prop} {q : AgQ}

/-- A vector's slice that neither the table nor the hidden box can touch. -/
def PV (w W : World) (h : Nat) (B : Nat → Prop) (s : Sl3) : Prop := s.2.1 = 0 ∨ ∀ ad, s.1 = some ad → ad.block < w.heap.size ∨ (ad.block ≠ h ∧ ¬ B ad.block ∧ ad.block < W.heap.size)
theorem PV.up {h : Nat} {s : Sl3} (hp : PV w W h B s) (hs : W.heap.size ≤ W'.heap.size) : PV w W' h B s := hp.imp id fun hp ad hb => (hp ad hb).imp id fun ⟨h1, h2, h3⟩ => ⟨h1, h2, by omega⟩
theorem PV.mono {h : Nat} {s : Sl3} {B' : Nat → Prop} (hp : PV w W h B s) (hB : ∀ b, b < W.heap.size → B' b → B b) : PV w W h B' s := hp.imp id fun hp ad hb => (hp ad hb).imp id fun ⟨h1, h2, h3⟩ => ⟨h1, fun hh => h2 (hB _ h3 hh), h3⟩
theorem PV.chg {h : Nat} {s : Sl3} {l : List PartT} (hp : PV w W h B s) (hv : SlE W 3 partE l s.1 s.2.1 s.2.2) (hc : Chg N W W') (hN : ∀ b, b < W.heap.size → N b → w.heap.size ≤ b ∧ (b = h ∨ B b)) : SlE W' 3 partE l s.1 s.2.1 s.2.2 := by
  by_cases h0 : s.2.1 = 0
  · obtain ⟨h1, h2, h3, h4, h5⟩ := hv
    have hl : l = [] := List.eq_nil_of_length_eq_zero (by omega)
    subst hl
    exact ⟨h1, h2, h3, h4, fun i x hx => by simp at hx⟩
  · rcases hp with hp | hp
    · exact absurd hp h0
    · obtain ⟨h1, h2, h3, h4, h6⟩ := hv
      refine ⟨h1, h2, h3, h4, fun i x hx => ?_⟩
      obtain ⟨ad, cs, ha, hl, hcs, hr⟩ := h6 i x hx
      refine ⟨ad, cs, ha, hl, fun j v hv => ?_, hr⟩
      have hlt := World.block_lt_of_cell? W _ (hcs j v hv)
      rw [World.cell?_of_block (hc.block _ hlt fun hn => ?_)]
      · exact hcs j v hv
      · rw [add_block, add_block] at hn hlt
        have h7 := hN _ hlt hn
        rcases hp ad ha with h8 | ⟨h8, h9, _⟩
        · omega
        · rcases h7.2 with h7 | h7
          · exact h8 h7
          · exact h9 h7
/-- A row of the reference. -/
structure RG (w W : World) (h : Nat) (B : Nat → Prop) (L : List AgR) (a : Option Addr) (n c : Nat) : Prop where
  own : OwnL w [h] W 89 3 agRE (.slice a n c) L
  nb : ∀ k, (Value.slice a n c).ownBlock = some k → ¬ B k
  vs : ∀ z ∈ L, (SlE W 3 partE z.2.1.1 z.2.2.1.1 z.2.2.1.2.1 z.2.2.1.2.2 ∧ PV w W h B z.2.2.1) ∧ (SlE W 3 partE z.2.1.2 z.2.2.2.1 z.2.2.2.2.1 z.2.2.2.2.2 ∧ PV w W h B z.2.2.2)
theorem RG.rr {h : Nat} {L : List AgR} {a : Option Addr} {n c : Nat} (hg : RG w W h B L a n c) : RR W L a n c := ⟨hg.own.sl fun _ _ => rfl, fun z hz => (hg.vs z hz).1.1, fun z hz => (hg.vs z hz).2.1⟩
theorem RG.mono {h : Nat} {L : List AgR} {a : Option Addr} {n c : Nat} {B' : Nat → Prop} (hg : RG w W h B L a n c) (hB : ∀ b, b < W.heap.size → B' b → B b) : RG w W h B' L a n c :=
  ⟨hg.own, fun k hk hb => hg.nb k hk (hB k (hg.own.lt k hk) hb), fun z hz => ⟨⟨(hg.vs z hz).1.1, (hg.vs z hz).1.2.mono hB⟩, (hg.vs z hz).2.1, (hg.vs z hz).2.2.mono hB⟩⟩
theorem RG.chg {h : Nat} {L : List AgR} {a : Option Addr} {n c : Nat} (hg : RG w W h B L a n c) (hc : Chg N W W') (hN : ∀ b, b < W.heap.size → N b → w.heap.size ≤ b ∧ (b = h ∨ B b)) : RG w W' h B L a n c :=
  ⟨hg.own.chg hc fun k hk hn => by
    rcases (hN k (hg.own.lt k hk) hn).2 with h1 | h1
    · exact hg.own.apart h (by simp) (h1 ▸ hk)
    · exact hg.nb k hk h1, hg.nb, fun z hz => ⟨⟨(hg.vs z hz).1.2.chg (hg.vs z hz).1.1 hc hN, (hg.vs z hz).1.2.up hc.size⟩, (hg.vs z hz).2.2.chg (hg.vs z hz).2.1 hc hN, (hg.vs z hz).2.2.up hc.size⟩⟩
theorem RG.call {h : Nat} {L : List AgR} {a : Option Addr} {n c : Nat} (hg : RG w W h B L a n c) (hb : Bel W W') : RG w W' h B L a n c := hg.chg (N := noB) (Chg.of_below hb) fun _ _ e => e.elim
/-- An element of a row, as a row. -/
theorem one_rowA {gs : List Nat} {l : List AgR} {a : Option Addr} {n c i : Nat} {x : AgR} (ho : OwnF w M gs W 89 3 agRE (.slice a n c) l) (hx : l[i]? = some x) :
    ∃ a', Gives Try.prog (Instr.sliceAt 81 (.slice a n c) (some (.int .i64 (i : Int))) (some (.int .i64 ((i + 1 : Nat) : Int))) none) (.slice a' 1 (c - i)) ∧ (∀ W', SlE W' 3 agRE l a n c → SlE W' 3 agRE [x] a' 1 (c - i)) := by
  have hi := (List.getElem?_eq_some_iff.1 hx).1
  have hn := ho.len
  obtain ⟨g, cur, rfl, _, _, hlc, _⟩ := ho.ptr (by omega)
  have hg := gives_slice_lh (P := Try.prog) (t := 81) (e := 89) (n := 3) (len := n) (cap := c) (l := i) (h := i + 1) (a := some ⟨g, 0, none⟩) (k := .i64) (k2 := .i64) (by kernel_rfl) (by kernel_rfl) (by omega) (by omega)
  rw [if_neg (by omega), show i + 1 - i = 1 by omega] at hg
  refine ⟨_, hg, fun W' hs => ?_⟩
  obtain ⟨h1, h2, h3, h4, h6⟩ := hs
  refine ⟨rfl, by omega, by omega, fun h => (by cases h), fun j y hy => ?_⟩
  have hj : j = 0 := by have := (List.getElem?_eq_some_iff.1 hy).1; simp at this; omega
  subst hj
  simp at hy
  subst hy
  obtain ⟨ad, cs, ha, hl, hcs, hr⟩ := h6 i _ hx
  cases ha
  refine ⟨_, cs, rfl, hl, fun q v hv => ?_, hr⟩
  have := hcs q v hv
  rw [Nat.zero_mul]
  have h0 : ((⟨g, 0, none⟩ : Addr).add (i * 3)).add 0 = (⟨g, 0, none⟩ : Addr).add (i * 3) := by
    rw [addr_add]
    unfold Addr.add
    simp
  rw [h0]
  exact this
end Go.Vc.J

/- Agents: the table and the reference, side by side. -/
set_option maxRecDepth 20000
set_option maxHeartbeats 2000000
namespace Go.Vc.J
open Go Go.Vc Go.Vc.V Go.RowKit Go.Proofs Vct

variable {w W W' W2 : World} {M N : Nat → Prop} {gs ds : List Nat} {g r : Nat} {cap most : Int} {su fr : Ar4} {m : AgM} {B : Nat → Prop} {q : AgQ}

theorem AgS.far (h : AgS W g r cap most su fr m) (hc : Chg N W W') (h1 : ∀ b, N b → ¬ Bk g r m b) (h2 : ∀ b cur, N b → W.heap[b]? ≠ some (.cells cur 73 (0, 0))) : AgS W' g r cap most su fr m :=
  ⟨(hc.block g h.glt fun hn => h1 g hn (.inl rfl)).trans h.tb, OwnM.re h.mp (hc.block r h.rlt fun hn => h1 r hn (.inr (.inl rfl))) (.inr rfl) (by simp), h.nd, fun x hx => (hc.block _ (h.alt hx) fun hn => h1 _ hn (.inr (.inr ⟨x, hx, rfl⟩))).trans (h.ag x hx), fun x hx => (h.vT x hx).chg hc h2, fun x hx => (h.vF x hx).chg hc h2, h.ok⟩
theorem AgX.far (h : AgX W B g cap most q) (hc : Chg N W W') (h1 : ∀ b, N b → ¬ B b) (h2 : ∀ b cur, N b → W.heap[b]? ≠ some (.cells cur 73 (0, 0))) : AgX W' B g cap most q := by
  obtain ⟨r, m, hS, hm, hB⟩ := h
  exact ⟨r, m, hS.far hc (fun b hn hb => h1 b hn (hB b hb)) h2, hm, hB⟩
abbrev m3C (cap most : Int) (a : Option Addr) (n c : Nat) : List Value := [.int .i64 cap, .int .i64 most, .slice a n c]
/-- The table and the reference's rows, the reference's struct in the block p. -/
structure S9 (w W : World) (p : Nat) (B : Nat → Prop) (g : Nat) (cap most : Int) (q : AgQ) (L : List AgR) (a : Option Addr) (n c : Nat) : Prop where
  bw : ∀ b, B b → w.heap.size ≤ b
  bp : ¬ B p
  ax : AgX W B g cap most q
  gd : Good cap most q
  bo : BothA q.2.2 (L.map plR)
  rg : RG w W p B L a n c
  blk : W.heap[p]? = some (.cells (m3C cap most a n c).toArray 104 (0, 0))
  pw : w.heap.size ≤ p
theorem S9.call {p : Nat} {L : List AgR} {a : Option Addr} {n c : Nat} (h : S9 w W p B g cap most q L a n c) (hb : Bel W W') : S9 w W' p B g cap most q L a n c :=
  ⟨h.bw, h.bp, h.ax.call hb, h.gd, h.bo, h.rg.call hb, (hb.block (Array.getElem?_eq_some_iff.1 h.blk).1).trans h.blk, h.pw⟩
theorem S9.mono {p : Nat} {L : List AgR} {a : Option Addr} {n c : Nat} {B' : Nat → Prop} (h : S9 w W p B g cap most q L a n c) (h1 : ∀ b, B' b → B b) (h2 : ∀ b, b < W.heap.size → B b → B' b) : S9 w W p B' g cap most q L a n c :=
  ⟨fun b hb => h.bw b (h1 b hb), fun hb => h.bp (h1 p hb), h.ax.mono h2, h.gd, h.bo, h.rg.mono fun b _ hb => h1 b hb, h.blk, h.pw⟩
theorem S9.rd {p : Nat} {L : List AgR} {a : Option Addr} {n c : Nat} (h : S9 w W p B g cap most q L a n c) : Reads Try.prog [] (Instr.loadAt 104 (ptr p)) W (m3V cap most a n c) := (elt_cells h.blk).agg 3 (by kernel_rfl) (by kernel_rfl) (by simp) (by simp)
end Go.Vc.J

/- Agents: the reference's next rows beside the table. -/
set_option maxRecDepth 20000
set_option maxHeartbeats 2000000
namespace Go.Vc.J
open Go Go.Vc Go.Vc.V Go.RowKit Go.Proofs Vct

variable {w W W' W2 : World} {M N : Nat → Prop} {gs ds : List Nat} {g r : Nat} {cap most : Int} {B : Nat → Prop} {q : AgQ}

/-- What slices the next rows may hold. -/
def PN (w W0 : World) (p : Nat) (B : Nat → Prop) (s : Sl3) : Prop := PV w W0 p B s ∨ ∀ ad, s.1 = some ad → W0.heap.size ≤ ad.block
theorem PN.pv {W0 : World} {p : Nat} {s : Sl3} {l : List PartT} (h : PN w W0 p B s) (hp : p < W0.heap.size) (hs : W0.heap.size ≤ W'.heap.size) (hv : SlE W' 3 partE l s.1 s.2.1 s.2.2) : PV w W' p (fun b => B b ∧ b < W0.heap.size) s := by
  rcases h with h | h
  · exact (h.mono (B' := fun b => B b ∧ b < W0.heap.size) fun b _ hb => hb.1).up hs
  · by_cases h0 : s.2.1 = 0
    · exact .inl h0
    · refine .inr fun ad ha => .inr ?_
      have h1 := h ad ha
      obtain ⟨e1, e2, e3, e4, e5⟩ := hv
      obtain ⟨x, hx⟩ : ∃ x, l[0]? = some x := ⟨_, List.getElem?_eq_getElem (by omega)⟩
      obtain ⟨ad', cs, ha', hl, hcs, hr⟩ := e5 0 x hx
      rw [ha] at ha'
      cases ha'
      have hcl : 0 < cs.length := by omega
      have hlt := World.block_lt_of_cell? W' _ (hcs 0 cs[0] (List.getElem?_eq_getElem hcl))
      rw [add_block, add_block] at hlt
      exact ⟨by omega, fun hh => by have := hh.2; omega, hlt⟩
theorem RowsQ.rg {W0 W1 : World} {p : Nat} {L L' : List AgR} {a a' : Option Addr} {n c n' c' : Nat} (h : RowsQ (PN w W0 p B) L a n c W1 W' L' a' n' c') (hg : RG w W0 p B L a n c) (h01 : Bel W0 W1) (h1 : Bel W1 W') (hp : p < W0.heap.size) (hw : w.heap.size ≤ W0.heap.size) : RG w W' p (fun b => B b ∧ b < W0.heap.size) L' a' n' c' := by
  have hs0 := h01.size
  have hs1 := h1.size
  rcases h with ⟨rfl, rfl, rfl, rfl⟩ | ⟨ho, hv⟩
  · exact (hg.call (h01.trans h1)).mono fun b _ hb => hb.1
  · refine ⟨ho.base (w' := w) (M' := noB) (gs' := [p]) (fun k hk => .inl ?_) (fun d hd he => ?_), fun k hk hb => ?_, fun z hz => ⟨⟨(hv z hz).1.1, (hv z hz).1.2.pv hp (by omega) (hv z hz).1.1⟩, (hv z hz).2.1, (hv z hz).2.2.pv hp (by omega) (hv z hz).2.1⟩⟩
    · have := ho.mine k hk
      simp only [noB, or_false] at this
      omega
    · rw [List.mem_singleton] at hd
      subst hd
      have := ho.mine _ he
      simp only [noB, or_false] at this
      omega
    · have h2 := ho.mine k hk
      have := hb.2
      simp only [noB, or_false] at h2
      omega
end Go.Vc.J

/- Agents: each act as the reference does: the walk. -/
set_option maxRecDepth 20000
set_option maxHeartbeats 2000000
namespace Go.Vc.J
open Go Go.Vc Go.Vc.V Go.RowKit Go.Proofs Vct

variable {w W W' W2 : World} {M N : Nat → Prop} {gs ds : List Nat} {g r : Nat} {cap most : Int} {B : Nat → Prop} {q : AgQ}

theorem law9 {acts : List AcR} {a : Option Addr} {n c : Nat} (cap most : Int) (w : World) (har : CR w acts a n c) : Ret Try.prog 9 #[.int .i64 cap, .int .i64 most, .slice a n c] w (.bool true) := by
  intro R hR
  refine f9_calls cap most a n c w R ?_
  unfold f9_vc
  have hn := har.sl.len_le
  have hl0 := har.sl.1
  refine at_callq (At.refl w) (c38 w har) fun v w2 hA _ hb2 ⟨b, e, hfew⟩ => ?_
  subst e
  refine ⟨_, rfl, brNB (fun _ => leaf hR hA rfl) (fun hb => ?_)⟩
  have hfew := hfew hb
  refine at_callq hA (c39 cap most w2) fun v w5 hA _ hb5 hq => ?_
  have nil : ∀ {w5 : World}, At w [] w5 → Calls Try.prog 47 #[] w5 fun e w' => ∃ b, e = .returned (.bool b) ∧ R (.returned (.bool b)) w' := fun hA => at_callb hA (c47 _) fun w9 hA _ _ => ⟨_, rfl, leaf hR hA rfl⟩
  rcases hq with ⟨hlt, e⟩ | ⟨⟨hc1, hm1, hm2⟩, g, r, e, ht, hg, hr⟩
  · subst e
    refine ⟨_, rfl, brD (fun _ => ⟨true, (fun W => rfl), brB (fun _ => nil hA) (fun e => by cases e)⟩) (fun h1 => brD (fun _ => ⟨true, (fun W => rfl), brB (fun _ => nil hA) (fun e => by cases e)⟩) (fun h2 => brD (fun _ => ⟨true, (fun W => rfl), brB (fun _ => nil hA) (fun e => by cases e)⟩) (fun h3 => by omega)))⟩
  subst e
  have hs2 := hb2.size
  refine ⟨_, rfl, brD (fun hh => by omega) (fun _ => brD (fun hh => by omega) (fun _ => brD (fun hh => by omega) (fun _ => ?_)))⟩
  refine ⟨fun v W' => At w [] W' ∧ ∃ p, v.1 = ⟨p, 0, none⟩ ∧ ∃ B, S9 w W' p B g cap most (zA, zA, []) [] none 0 0, ?_, ?_⟩
  · have hsz := hA.size
    refine opw_allocS (zv := .agg #[.int .i64 0, .int .i64 0, .slice none 0 0]) ([.int .i64 0, .int .i64 0, .slice none 0 0] : List Value) (by kernel_rfl) (by kernel_rfl) hA fun p w21 hp hA hk hb21 hblk => ⟨_, rfl, ?_⟩
    refine opw_storeF (off := 0) (cells' := m3C cap most none 0 0) hA hblk (.inl (by omega)) (by simp) (by kernel_rfl) fun w24 hA hk hc24 hb24 => ⟨hA, p, rfl, fun b => w.heap.size ≤ b ∧ b < w5.heap.size, ?_⟩
    have hbel : Bel w5 w24 := (((At.refl w5).call hb21).step hc24 fun b _ e => by subst e; exact .inl (by omega)).below
    refine ⟨fun b h => h.1, fun h => by omega, AgX.call (W := w5) ⟨r, [], ht, rfl, ?_⟩ hbel, Good.new hc1 hm1 hm2, ⟨List.Pairwise.nil, fun _ => Iff.rfl, List.nodup_nil⟩, ⟨OwnL.nil, fun _ h => (by cases h), fun _ h => by cases h⟩, hb24, by omega⟩
    rintro b (rfl | rfl | ⟨x, hx, _⟩)
    · have := ht.glt; exact ⟨by omega, this⟩
    · have := ht.rlt; exact ⟨by omega, this⟩
    · cases hx
  · rintro ad25 w26 ⟨hA, p, e25, B0, hS0⟩
    simp only at e25
    subst e25
    refine ⟨fun v W' => At w [] W' ∧ ∃ (i : Nat) (q : AgQ) (L : List AgR) (B : Nat → Prop) (ra : Option Addr) (rn rc : Nat), v.1 = i ∧ i ≤ acts.length ∧ S9 w W' p B g cap most q L ra rn rc ∧ q.2.2.length ≤ i, fun v _ => ((n : Int) - v.1).toNat, ⟨hA, 0, _, _, _, _, _, _, rfl, Nat.zero_le _, hS0, Nat.le_refl _⟩, ?_⟩
    rintro x29 w30 ⟨hA, i, q, L, B, ra, rn, rc, hi, hil, hS, hlq⟩
    simp only at hi
    subst hi
    have hLq := hS.bo.len
    rw [List.length_map] at hLq
    have rd2 : ∀ {w' : World} {q : AgQ} {L : List AgR} {B : Nat → Prop} {ra : Option Addr} {rn rc : Nat}, S9 w w' p B g cap most q L ra rn rc → Reads Try.prog [] (Instr.loadAt 81 (.pointer (some (Addr.mk p (0 + 2) none)))) w' (.slice ra rn rc) := fun hS => rd_f 1 hS.blk rfl (by kernel_rfl) nod
    refine brD (fun hlt => ?_) (fun hge => ⟨_, _, _, rd2 hS, fun w169 hb169 => ?_⟩)
    · obtain ⟨x, hx⟩ : ∃ x, acts[i]? = some x := ⟨_, List.getElem?_eq_getElem (by omega)⟩
      have hxm := List.mem_of_getElem? hx
      have act : ∀ {gs : List Nat} {w' : World}, At w gs w' → ∃ ad, Gives Try.prog (Instr.indexAt 76 (.slice a n c) (.int .i64 (i : Int))) (.pointer (some ad)) ∧ Elt w' ad (acE x) := fun hA => by
        obtain ⟨ad, g1, el, _⟩ := elt_at (P := Try.prog) (k := .i64) (t := 76) (har.sl.call hA.below) hx (e := 86) (by kernel_rfl) (by kernel_rfl)
        exact ⟨ad, g1, el⟩
      have hact := act_same hS.gd hS.bo x.1.1 x.1.2.1 x.1.2.2.1 x.1.2.2.2
      have hGd := hS.gd.do x.1.1 x.1.2.1 x.1.2.2.1 x.1.2.2.2
      have hld := doD_len cap most q x.1.1 x.1.2.1 x.1.2.2.1 x.1.2.2.2
      generalize hd : doD cap most q x.1.1 x.1.2.1 x.1.2.2.1 x.1.2.2.2 = d at hact hGd hld
      have hpl := (Array.getElem?_eq_some_iff.1 hS.blk).1
      have hsz30 := hA.size
      have hA30 := hA
      have h53 : ∀ {w46 : World} {B0 : Nat → Prop}, Bel w30 w46 → RG w w46 p B0 L ra rn rc → RetQ Try.prog 53 #[m3V cap most ra rn rc, .agg #[.int .i64 x.1.1, .int .i64 x.1.2.1, slV x.2.1, slV x.2.2]] w46 fun v w' => ∃ L' a' n' c' b e, v = .tuple #[m3V cap most a' n' c', .bool b, .int .i64 e] ∧ refD cap most (L.map plR) x.1.1 x.1.2.1 x.1.2.2.1 x.1.2.2.2 = ((b, e), L'.map plR) ∧ RowsQ (PN w w46 p B0) L ra rn rc w46 w' L' a' n' c' := fun {w46 B0} hb hg => by
        have hA46 := hA30.call hb
        refine c53 (P := PN w w46 p B0) x.1.1 x.1.2.1 w46 hg.rr (by omega) hS.bo.srt (fun y hy => ?_) (sle_keepC (har.v1 x hxm) (KeepC.of_bel hA46.below)) (sle_keepC (har.v2 x hxm) (KeepC.of_bel hA46.below)) hm1 hm2 (fun y hy => ⟨.inl (hg.vs y hy).1.2, .inl (hg.vs y hy).2.2⟩) ?_ fun s hs => .inr fun ad ha => hs ad ha
        · have := hS.gd.ok (plR y) ((hS.bo.mem _).1 (List.mem_map.2 ⟨y, hy, rfl⟩))
          exact ⟨this.1, this.2.1⟩
        · by_cases h0 : x.2.1.2.1 = 0
          · exact .inl (.inl h0)
          · refine .inl (.inr fun ad ha => .inl ?_)
            obtain ⟨e1, e2, e3, e4, e5⟩ := har.v1 x hxm
            obtain ⟨y, hy⟩ : ∃ y, x.1.2.2.1[0]? = some y := ⟨_, List.getElem?_eq_getElem (by omega)⟩
            obtain ⟨ad', cs, ha', hl, hcs, hr⟩ := e5 0 y hy
            rw [ha] at ha'
            cases ha'
            have hcl : 0 < cs.length := by omega
            have hlt := World.block_lt_of_cell? w _ (hcs 0 cs[0] (List.getElem?_eq_getElem hcl))
            rw [add_block, add_block] at hlt
            exact hlt
      have hgB : ∀ {pn : Nat}, w30.heap.size ≤ pn → RG w w30 p (fun b => B b ∨ b = pn) L ra rn rc := fun {pn} hpn => hS.rg.mono fun b hb h => h.elim id fun e => by omega
      have hax30 : AgX w30 (fun b => B b ∧ b < w30.heap.size) g cap most q := hS.ax.mono fun b hb h => ⟨h, hb⟩
      refine ⟨fun v W' => At w [] W' ∧ w30.heap.size ≤ W'.heap.size ∧ ∃ (pn : Nat) (L' : List AgR) (a' : Option Addr) (n' c' : Nat), v.1 = ⟨pn, 0, none⟩ ∧ (v.2.1, v.2.2.1) = d.1 ∧ BothA d.2.2.2 (L'.map plR) ∧ AgX W' (fun b => B b ∧ b < w30.heap.size) g cap most q ∧ RG w W' p (fun b => B b ∧ b < w30.heap.size) L' a' n' c' ∧ W'.heap[pn]? = some (.cells (m3C cap most a' n' c').toArray 104 (0, 0)) ∧ w30.heap.size ≤ pn ∧ W'.heap[p]? = some (.cells (m3C cap most ra rn rc).toArray 104 (0, 0)), ?_, ?_⟩
      · obtain ⟨ad37, g1, el⟩ := act hA
        refine ⟨_, _, _, _, _, hS.rd, ad37, g1, _, _, _, _, _, _, _, _, el.agg 4 (by kernel_rfl) (by kernel_rfl) (by simp) (by simp), fun w46 hb46 => ?_, fun w61 hb61 => ?_⟩
        · refine at_callq (hA.call hb46) (h53 hb46 (hS.rg.call hb46)) fun v w48 hA _ hb48 ⟨L', a', n', c', b, e, ev, hrf, hq⟩ => ?_
          subst ev
          refine ⟨_, _, _, _, _, _, _, rfl, ?_⟩
          have hs46 := hb46.size
          have hs48 := (hb46.trans hb48).size
          refine opw_allocS (zv := .agg #[.int .i64 0, .int .i64 0, .slice none 0 0]) ([.int .i64 0, .int .i64 0, .slice none 0 0] : List Value) (by kernel_rfl) (by kernel_rfl) hA fun pn w57 hp hA hk hb57 hblk => ⟨_, rfl, ?_⟩
          refine opw_storeF (off := 0) (cells' := m3C cap most a' n' c') hA hblk (.inl (by omega)) (by simp) (by kernel_rfl) fun w60 hA hk hc60 hb60 => ?_
          have hbel : Bel w48 w60 := (((At.refl w48).call hb57).step hc60 fun b _ e => by subst e; exact .inl (by omega)).below
          have hb := (hb46.trans hb48).trans hbel
          rw [hrf] at hact
          have hg48 := hq.rg (hS.rg.call hb46) (Bel.refl _) hb48 (by omega) (by omega)
          exact ⟨hA, hb.size, pn, L', a', n', c', rfl, hact.1, hact.2, hax30.call hb, (hg48.mono fun b _ h => ⟨h.1, by omega⟩).call hbel, hb60, by omega, (hb.block hpl).trans hS.blk⟩
        · have hs61 := hb61.size
          refine opw_allocS (zv := .agg #[.int .i64 0, .int .i64 0, .slice none 0 0]) ([.int .i64 0, .int .i64 0, .slice none 0 0] : List Value) (by kernel_rfl) (by kernel_rfl) (hA.call hb61) fun pn w63 hp hA hk hb63 hblk => ⟨_, rfl, ?_⟩
          have hb3063 := hb61.trans hb63
          have hs63 := hb63.size
          refine ⟨(el.below hb3063).agg 4 (by kernel_rfl) (by kernel_rfl) (by simp) (by simp), (hS.call hb3063).rd, ?_⟩
          have hgp := (hgB (pn := pn) (by omega)).call hb3063
          refine at_callq hA (h53 hb3063 hgp) fun v w66 hA _ hb66 ⟨L', a', n', c', b, e, ev, hrf, hq⟩ => ?_
          subst ev
          refine ⟨_, _, _, _, _, _, _, rfl, ?_⟩
          have hpw63 := (Array.getElem?_eq_some_iff.1 hblk).1
          have hblk66 := (hb66.block hpw63).trans hblk
          have hs66 := hb66.size
          refine opw_storeF (off := 0) (cells' := m3C cap most a' n' c') hA hblk66 (.inl (by omega)) (by simp) (by kernel_rfl) fun w75 hA hk hc75 hb75 => ?_
          rw [hrf] at hact
          have hg66 := hq.rg hgp (Bel.refl _) hb66 (by omega) (by omega)
          have hg75 := hg66.chg hc75 fun b _ e => ⟨by omega, .inr ⟨.inr e, by omega⟩⟩
          have hp66 := (((hb3063.trans hb66).block hpl).trans hS.blk)
          have hax66 := hax30.call (hb3063.trans hb66)
          exact ⟨hA, by have := hc75.size; omega, pn, L', a', n', c', rfl, hact.1, hact.2, hax66.far hc75 (fun b e h => by have := h.2; omega) (fun b cur e => by subst e; exact fun he => cells_ne hblk66 he (by decide) rfl), hg75.mono fun b _ h => ⟨.inl h.1, by have := h.2; omega⟩, hb75, by omega, (hc75.block p (by omega) (by omega)).trans hp66⟩
      · rintro ad76 b77 x78 w79 ⟨hA, hs79, pn, L', a', n', c', e76, ed, hbo, hax, hrg, hpn, hge, hp79⟩
        simp only at e76 ed
        subst e76
        have hS79 := hA.size
        have hpn79 := (Array.getElem?_eq_some_iff.1 hpn).1
        refine ⟨fun v W' => At w [] W' ∧ w79.heap.size ≤ W'.heap.size ∧ (v.1, v.2.1) = d.1 ∧ AgX W' (fun b => (B b ∧ b < w30.heap.size) ∨ w79.heap.size ≤ b) g cap most d.2 ∧ RG w W' p (fun b => (B b ∧ b < w30.heap.size) ∨ w79.heap.size ≤ b) L' a' n' c' ∧ W'.heap[pn]? = some (.cells (m3C cap most a' n' c').toArray 104 (0, 0)) ∧ W'.heap[p]? = some (.cells (m3C cap most ra rn rc).toArray 104 (0, 0)), ?_, ?_⟩
        · obtain ⟨ad81, g1, el⟩ := act hA
          refine ⟨ad81, g1, _, _, _, _, _, _, _, _, el.agg 4 (by kernel_rfl) (by kernel_rfl) (by simp) (by simp), ?_⟩
          have hc := c42 hax x.1.1 x.1.2.1 (sle_keepC (har.v1 x hxm) (KeepC.of_bel hA.below)) (sle_keepC (har.v2 x hxm) (KeepC.of_bel hA.below)) fun W' hc => sle_keepC (har.v1 x hxm) (KeepC.of_bel (hA.step hc fun b _ h => .inl (hS.bw b h.1)).below)
          rw [hd] at hc
          refine at_callF hA hc (fun b _ e => .inl (hS.bw b e.1)) (fun _ hb => by cases hb) fun v w91 hA hk hch ⟨e, hX⟩ => ?_
          subst e
          refine ⟨_, _, rfl, hA, hch.size, rfl, hX, ?_, (hch.block pn hpn79 fun h => by have := h.2; omega).trans hpn, (hch.block p (by omega) fun h => hS.bp h.1).trans hp79⟩
          exact (hrg.mono fun b hb h => h.elim id fun h => by omega).chg hch fun b _ h => ⟨hS.bw b h.1, .inr (.inl h)⟩
        · rintro b94 x95 w96 ⟨hA, hs96, ed2, hax, hrg, hpn, hp96⟩
          simp only at ed2
          rw [← ed2] at ed
          obtain ⟨rfl, rfl⟩ := Prod.mk.inj ed
          have hS96 := hA.size
          refine brB (fun hh => absurd hh (by simp)) (fun _ => brB (fun hh => absurd hh (by simp)) (fun _ => ?_))
          refine ⟨fun _ W' => At w [] W' ∧ S9 w W' p (fun b => (B b ∧ b < w30.heap.size) ∨ w79.heap.size ≤ b) g cap most d.2 L' a' n' c', ?_, ?_⟩
          · refine ⟨_, _, _, _, _, (elt_cells hpn).agg 3 (by kernel_rfl) (by kernel_rfl) (by simp) (by simp), ?_⟩
            refine opw_storeF (off := 0) (cells' := m3C cap most a' n' c') hA hp96 (.inl hS.pw) (by simp) (by kernel_rfl) fun w104 hA hk hc104 hb104 => ?_
            have hnb : ¬ ((B p ∧ p < w30.heap.size) ∨ w79.heap.size ≤ p) := fun h => h.elim (fun h => hS.bp h.1) fun h => by omega
            refine ⟨hA, fun b h => h.elim (fun h => hS.bw b h.1) fun h => by omega, hnb, hax.far hc104 (fun b e h => by subst e; exact hnb h) (fun b cur e => by subst e; exact fun he => cells_ne hp96 he (by decide) rfl), hGd.1, hbo, hrg.chg hc104 fun b _ e => ⟨by rw [e]; exact hS.pw, .inl e⟩, hb104, hS.pw⟩
          · rintro w105 ⟨hA, hS⟩
            refine ⟨fun v W' => At w [] W' ∧ S9 w W' p (fun b => (B b ∧ b < w30.heap.size) ∨ w79.heap.size ≤ b) g cap most d.2 L' a' n' c' ∧ ∃ (pa : Nat) (z : AgR), v.1 = ⟨pa, 0, none⟩ ∧ W'.heap[pa]? = some (.cells (agRE z).toArray 89 (0, 0)) ∧ ((v.2.1 = false ∧ mget x.1.2.1 d.2.2.2 = none ∧ z.1 = 0) ∨ (v.2.1 = true ∧ mget x.1.2.1 d.2.2.2 = some z.2.1 ∧ z.1 = x.1.2.1 ∧ SlE W' 3 partE z.2.1.1 z.2.2.1.1 z.2.2.1.2.1 z.2.2.1.2.2 ∧ SlE W' 3 partE z.2.1.2 z.2.2.2.1 z.2.2.2.2.1 z.2.2.2.2.2)), ?_, ?_⟩
            · obtain ⟨ad107, g1, el⟩ := act hA
              refine ⟨ad107, g1, _, (el.sub (o := 1) (by decide)).one (by kernel_rfl) (by simp), ?_⟩
              refine at_callq hA (c54 hS.ax x.1.2.1) fun v w110 hA hk hb110 hget => ?_
              have hS := hS.call hb110
              have hget' : ∃ (z : AgR) (b : Bool), v = .tuple #[agRV z, .bool b] ∧ ((b = false ∧ mget x.1.2.1 d.2.2.2 = none ∧ z.1 = 0) ∨ (b = true ∧ mget x.1.2.1 d.2.2.2 = some z.2.1 ∧ z.1 = x.1.2.1 ∧ SlE w110 3 partE z.2.1.1 z.2.2.1.1 z.2.2.1.2.1 z.2.2.1.2.2 ∧ SlE w110 3 partE z.2.1.2 z.2.2.2.1 z.2.2.2.2.1 z.2.2.2.2.2)) := by
                unfold getA at hget
                cases hm : mget x.1.2.1 d.2.2.2 with
                | none => rw [hm] at hget; exact ⟨zAgR, false, hget, .inl ⟨rfl, rfl, rfl⟩⟩
                | some dd =>
                  rw [hm] at hget
                  obtain ⟨s, e, han⟩ := hget
                  exact ⟨(x.1.2.1, dd, s), true, e, .inr ⟨rfl, rfl, rfl, han.1.1.1, han.2.1.1⟩⟩
              obtain ⟨z, b, e, hz⟩ := hget'
              subst e
              refine ⟨_, _, _, _, _, _, _, _, rfl, ?_⟩
              have hs110 := hA.size
              refine opw_allocS (zv := .agg #[.int .i64 0, .slice none 0 0, .slice none 0 0]) ([.int .i64 0, .slice none 0 0, .slice none 0 0] : List Value) (by kernel_rfl) (by kernel_rfl) hA fun pa w120 hp hA hk hb120 hblk => ⟨_, rfl, ?_⟩
              refine opw_storeF (off := 0) (cells' := agRE z) hA hblk (.inl (by omega)) (by simp) (by kernel_rfl) fun w123 hA hk hc123 hb123 => ?_
              have hbel : Bel w110 w123 := (((At.refl w110).call hb120).step hc123 fun b _ e => by subst e; exact .inl (by omega)).below
              exact ⟨hA, hS.call hbel, pa, z, rfl, hb123, hz.imp id fun ⟨h1, h2, h3, h4, h5⟩ => ⟨h1, h2, h3, h4.call hbel, h5.call hbel⟩⟩
            · rintro ad124 b125 w126 ⟨hA, hS, pa, z, e124, hpa, hz⟩
              simp only at e124 hz
              subst e124
              have hpalt := (Array.getElem?_eq_some_iff.1 hpa).1
              obtain ⟨ad132, g1, el⟩ := act hA
              refine ⟨_, _, _, _, _, hS.rd, ad132, g1, _, (el.sub (o := 1) (by decide)).one (by kernel_rfl) (by simp), fun w134 hb134 => ?_⟩
              have hA := hA.call hb134
              refine at_callb hA (c55 cap most x.1.2.1 w134 (hS.call hb134).rg.rr.sl) fun w136 hA hk hb136 => ⟨_, rfl, ?_⟩
              have hb2 := hb134.trans hb136
              have hS := hS.call hb2
              have hpa := (hb2.block hpalt).trans hpa
              have hget := hS.bo.get x.1.2.1
              rw [succ_i i (by omega)]
              have next : ∀ {W' : World}, At w [] W' → Bel w136 W' → (At w [] W' ∧ ∃ (j : Nat) (q : AgQ) (L : List AgR) (B : Nat → Prop) (ra : Option Addr) (rn rc : Nat), ((i + 1 : Nat) : Int) = j ∧ j ≤ acts.length ∧ S9 w W' p B g cap most q L ra rn rc ∧ q.2.2.length ≤ j) ∧ ((n : Int) - ((i + 1 : Nat) : Int)).toNat < ((n : Int) - (i : Int)).toNat := fun hA hb => ⟨⟨hA, i + 1, _, _, _, _, _, _, rfl, by omega, hS.call hb, by omega⟩, by omega⟩
              rcases getL hS.bo.srt x.1.2.1 with ⟨e1, e2⟩ | ⟨j, y, e1, e2, e3, e4⟩
              · rw [e1]
                rcases hz with ⟨rfl, hz2, hz3⟩ | ⟨rfl, hz2, hz3⟩
                · refine brB (fun hh => absurd hh (by decide)) (fun _ => brB (fun hh => absurd hh (by decide)) (fun _ => brB (fun _ => ?_) (fun hh => absurd hh (by decide))))
                  refine ⟨_, (elt_cells hpa).one (by kernel_rfl) (by simp), brB (fun hh => ?_) (fun _ w164 hb164 => next (hA.call hb164) hb164)⟩
                  rw [hz3] at hh
                  exact absurd hh (by decide)
                · rw [hz2, e2] at hget
                  cases hget
              · rw [e1]
                rcases hz with ⟨rfl, hz2, hz3⟩ | ⟨rfl, hz2, hz3, hz4, hz5⟩
                · rw [hz2, e4] at hget
                  cases hget
                · have hj0 : decide ((j : Int) ≥ 0) = true := decide_eq_true (by omega)
                  have hrl := hS.rg.own.len
                  have hjl := (List.getElem?_eq_some_iff.1 e2).1
                  rw [hj0, succ_i j (by have := hS.bo.len; rw [List.length_map] at this; omega)]
                  obtain ⟨a149, g149, hsl⟩ := one_rowA hS.rg.own e2
                  refine brB (fun hh => absurd hh (by decide)) (fun _ => brB (fun _ => ?_) (fun hh => absurd hh (by decide)))
                  refine ⟨_, _, _, _, _, _, _, (elt_cells hpa).agg 3 (by kernel_rfl) (by kernel_rfl) (by simp) (by simp), _, _, _, rd2 hS, _, _, _, g149, fun w152 hb152 => ?_⟩
                  refine opw_litL (e' := 89) (f := agRE) (size := 3) (l := [z]) (hA.call hb152) rfl (fun _ _ => rfl) (by decide) (by kernel_rfl) fun gv w154 _ hA _ hb154 ho => ⟨_, _, _, rfl, ?_⟩
                  have hb3 := hb152.trans hb154
                  have hS4 := hS.call hb3
                  refine ⟨rd2 hS4, ?_⟩
                  have hyL := List.mem_of_getElem? e2
                  have r1 : RR w154 [z] (some ⟨gv, 0, none⟩) 1 1 := ⟨ho.sl fun _ _ => rfl, fun u hu => by
                    rw [List.mem_singleton] at hu
                    subst hu
                    exact (hz4.call hb2).call hb3, fun u hu => by
                    rw [List.mem_singleton] at hu
                    subst hu
                    exact (hz5.call hb2).call hb3⟩
                  have r2 : RR w154 [y] a149 1 (c' - j) := ⟨hsl w154 hS4.rg.rr.sl, fun u hu => by
                    rw [List.mem_singleton] at hu
                    subst hu
                    exact hS4.rg.rr.v1 _ hyL, fun u hu => by
                    rw [List.mem_singleton] at hu
                    subst hu
                    exact hS4.rg.rr.v2 _ hyL⟩
                  have hzy : [z].map plR = [y].map plR := by
                    rw [hz2, e4] at hget
                    have h2 := Option.some.inj hget
                    show [(z.1, z.2.1)] = [(y.1, y.2.1)]
                    rw [hz3, e3, h2]
                  refine at_callb hA (c52 w154 r1 r2) fun w159 hA hk hb159 => ⟨_, rfl, rd2 (hS4.call hb159), ?_⟩
                  rw [decide_eq_true hzy]
                  exact brB (fun hh => absurd hh (by decide)) (fun _ => brB (fun hh => absurd hh (by decide)) (fun _ => next hA (hb3.trans hb159)))
    · have hA := hA.call hb169
      have hS := hS.call hb169
      refine at_all hA hS.ax (by omega) fun w171 l a' c' hA hk hb171 hX ho hv hp hw => ⟨_, _, _, rfl, ?_⟩
      have hS := hS.call hb171
      refine ⟨rd2 hS, ?_⟩
      have hsame : l.map plR = L.map plR := rows_eq (rows_srt hS.gd.nd hp hw) hS.bo.srt (hp.trans hS.bo.perm.symm)
      refine at_callb hA (c52 w171 (an_rr ho hv) hS.rg.rr) fun w176 hA hk hb176 => ⟨_, rfl, brB (fun _ => ?_) (fun hh => absurd hsame (of_decide_eq_false hh))⟩
      have hS := hS.call hb176
      refine ⟨_, _, _, _, _, hS.rd, ?_⟩
      refine at_sum hA hS.ax fun w184 hA hk hb184 _ => ⟨_, _, _, _, rfl, ?_⟩
      have hS := hS.call hb184
      refine ⟨hS.rd, ?_⟩
      have h56 := c56 cap most false w184 hS.rg.rr
      have e56 : (L.map fun x => if (false : Bool) = true then x.2.1.2 else x.2.1.1) = (L.map plR).map (·.2.1) := by rw [List.map_map]; rfl
      rw [e56, hS.gd.sumT hS.bo] at h56
      refine at_callb hA h56 fun w190 hA hk hb190 => ⟨_, _, _, _, rfl, brB (fun _ => ?_) (fun hh => by simp at hh)⟩
      have hS := hS.call hb190
      refine ⟨_, _, _, _, _, hS.rd, ?_⟩
      obtain ⟨r', m', hS', hX'⟩ := hS.ax
      refine at_callb hA (c48 hS') fun w201 hA hk hb201 => ⟨_, _, _, _, rfl, ?_⟩
      have hS := hS.call hb201
      refine ⟨hS.rd, ?_⟩
      have h57 := c56 cap most true w201 hS.rg.rr
      have e57 : (L.map fun x => if (true : Bool) = true then x.2.1.2 else x.2.1.1) = (L.map plR).map (·.2.2) := by rw [List.map_map]; rfl
      rw [e57, hS.gd.sumF hS.bo] at h57
      refine at_callb hA h57 fun w207 hA hk hb207 => ⟨_, _, _, _, rfl, brB (fun _ => ?_) (fun hh => by simp at hh)⟩
      exact at_callb hA (c47 w207) fun w213 hA hk _ => ⟨_, rfl, leaf hR hA rfl⟩
end Go.Vc.J

