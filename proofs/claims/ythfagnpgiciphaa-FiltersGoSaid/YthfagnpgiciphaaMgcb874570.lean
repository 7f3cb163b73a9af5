/- Own texts of this claim, laid together: Fy1, FArg, Fy2, Fy3. -/
import Derived.Test.YthfagnpgiciphaaMg948fb4ad

/- Tables of filters: acts, the next one, no table, works; what one more blocks. -/
set_option maxRecDepth 20000
set_option maxHeartbeats 2000000
namespace Go.Vc.J
open Go Go.Vc Go.Vc.V Go.RowKit Go.Proofs Vct

variable {w W W' W2 : World} {M N : Nat → Prop} {gs ds : List Nat} {g r : Nat} {cap long : Int} {m : FlM} {B : Nat → Prop} {D : FlD}

/-- Acts in memory. -/
structure CF (W : World) (L : List AcF) (a : Option Addr) (n c : Nat) : Prop where
  sl : SlE W 6 acfE L a n c
  vs : ∀ x ∈ L, VecR W x.2.2
theorem CF.call {L : List AcF} {a : Option Addr} {n c : Nat} (h : CF W L a n c) (hb : Bel W W') : CF W' L a n c := ⟨h.sl.call hb, fun x hx => SlR.call (h.vs x hx) hb⟩
theorem c12 {L : List AcF} {a : Option Addr} {n c : Nat} (w : World) (h : CF w L a n c) : RetQ Try.prog 12 #[.slice a n c] w fun v _ => ∃ b : Bool, v = .bool b ∧ (b = true → L.length ≤ 100) := by
  intro R hR
  refine f12_calls a n c w R ?_
  unfold f12_vc
  have hn := h.sl.len_le
  refine ⟨fun v W' => At w [] W' ∧ ∃ k : Nat, v.2.1 = k ∧ k ≤ L.length, fun v _ => (n - v.2.1).toNat, ⟨At.refl w, 0, rfl, Nat.zero_le _⟩, ?_⟩
  rintro x3 x4 w5 ⟨hA, k, hk, hkl⟩
  simp only at hk
  subst hk
  refine brD (fun hlt => ?_) (fun hge => brD (fun hle => hR _ _ hA.below ⟨_, rfl, fun _ => by omega⟩) (fun hgt => hR _ _ hA.below ⟨_, rfl, fun e => by cases e⟩))
  obtain ⟨x, hx⟩ : ∃ x, L[k]? = some x := ⟨_, List.getElem?_eq_getElem (by omega)⟩
  obtain ⟨ad, g1, el, _⟩ := elt_at (P := Try.prog) (k := .i64) (t := 22) (h.sl.call hA.below) hx (e := 31) (by kernel_rfl) (by kernel_rfl)
  rw [succ_i k (by omega)]
  exact ⟨ad, g1, _, _, _, ((el.sub (o := 2) (by decide)).sub (o := 3) (by decide)).one (by kernel_rfl) (by simp), ⟨hA, k + 1, rfl, by omega⟩, by simp only; omega⟩
/-- The least time of all. -/
def minF (l : List TkT) (n : Int) : Prop := (∃ x ∈ l, x.2.2.1 = n) ∧ ∀ y ∈ l, n ≤ y.2.2.1
theorem c62 (h : FlX W B g cap D) (hG : GoodF D) (hl : lenD D ≤ 1000) : RetQ Try.prog 62 #[ptr g] W fun v _ => (allF D = [] ∧ v = .tuple #[.int .i64 0, .bool false]) ∨ ∃ n, v = .tuple #[.int .i64 n, .bool true] ∧ minF (allF D) n := by
  intro R hR
  refine f62_calls _ W R ?_
  unfold f62_vc
  refine at_callq (At.refl W) (c57 h hG hl) fun v w2 hA _ hb2 ⟨l, a, c, e, ho, hv, hs, hm⟩ => ?_
  subst e
  refine ⟨_, _, _, rfl, brE (fun h0 => hR _ _ hA.below (.inl ⟨?_, rfl⟩)) (fun h0 => ?_)⟩
  · have hl0 : l = [] := List.eq_nil_of_length_eq_zero (by omega)
    subst hl0
    exact List.eq_nil_iff_forall_not_mem.2 fun y hy => by have := (hm y).2 hy; cases this
  · refine at_callq hA (c114 (ho.sl fun _ _ => rfl) (by omega)) fun v w7 hA _ _ ⟨x, hx, e, hmin⟩ => ?_
    subst e
    refine ⟨_, _, _, _, _, _, rfl, hR _ _ hA.below (.inr ⟨_, rfl, ⟨x.1, (hm _).1 (List.mem_map.2 ⟨x, hx, rfl⟩), rfl⟩, fun y hy => ?_⟩)⟩
    obtain ⟨z, hz, rfl⟩ := List.mem_map.1 ((hm y).2 hy)
    exact hmin z hz
/-! ### No table -/
theorem c18n {t : Option Addr} (f0 f1 f2 : Int) (s : Sl3) (h : NoF W t) : Ret Try.prog 18 #[.pointer t, .agg #[.int .i64 f0, .int .i64 f1, .int .i64 f2, slW s]] W (.int .i64 40) := by
  intro R hR
  refine f18_calls _ _ _ _ _ _ _ W R ?_
  unfold f18_vc
  intro n1 hn1 w2 hb2 hu2
  have hA : At W [n1] w2 := ⟨((At.refl W).call hb2).chg, hu2⟩
  exact at_callb hA (c69n (h.call hb2)) fun w4 hA hk hb4 => ⟨_, rfl, hk, brNB (fun _ => leaf hR hA rfl) (fun e => by cases e)⟩
theorem c59n {t : Option Addr} (n : Int) (h : NoF W t) : Ret Try.prog 59 #[.pointer t, .int .i64 n] W (.int .i64 0) := by
  intro R hR
  refine f59_calls _ _ W R ?_
  unfold f59_vc
  refine opw_boxS (At.refl W) fun b w2 hb0 hA _ hb2 hblk => ⟨_, rfl, ?_⟩
  have : Ret Try.prog 110 #[.pointer t, .func (.func 111) #[] #[.pointer (some ⟨b, 0, none⟩)]] w2 (.int .i64 0) := by
    intro R hR
    refine f110_calls _ _ w2 R ?_
    unfold f110_vc
    exact at_callb (At.refl w2) (c69n (h.call hb2)) fun w4 hA hb4 _ => ⟨_, rfl, brNB (fun _ => leaf hR hA rfl) (fun e => by cases e)⟩
  exact at_callb hA this fun w5 hA _ _ => ⟨_, rfl, leaf hR hA rfl⟩
/-! ### Works -/
theorem fl_put {f : TR} {c : Int} {D' : FlD} {K : Ending → World → Prop} (hA : At w gs W) (h : FlX W B g cap D) (hB : ∀ b, B b → w.heap.size ≤ b) (hgs : ∀ b ∈ gs, ¬ B b) (hG : GoodF D) (hl : lenD D ≤ 1000) (hV : VecR W f) (hp : putD cap D f.1 = (c, D'))
    (hK : ∀ w', At w gs w' → Keeps gs W w' → Chg B W w' → FlX w' (fun b => B b ∨ W.heap.size ≤ b) g cap D' → K (.returned (.int .i64 c)) w') : Calls Try.prog 18 #[ptr g, trV f] W K :=
  at_callF hA (c18 h hG hl hV) (fun b _ hb => .inl (hB b hb)) hgs fun v w' hA hk hc ⟨e, hX⟩ => by
    rw [hp] at e hX
    subst e
    exact hK w' hA hk hc hX
theorem fl_exp {n c : Int} {D' : FlD} {K : Ending → World → Prop} (hA : At w gs W) (h : FlX W B g cap D) (hB : ∀ b, B b → w.heap.size ≤ b) (hgs : ∀ b ∈ gs, ¬ B b) (hG : GoodF D) (hl : lenD D ≤ 1000) (hp : ∀ res D2, goneR (goneP 3 n) D res D2 → res = c ∧ D2 = D')
    (hK : ∀ w', At w gs w' → Keeps gs W w' → Chg B W w' → FlX w' (fun b => B b ∨ W.heap.size ≤ b) g cap D' → K (.returned (.int .i64 c)) w') : Calls Try.prog 68 #[ptr g, .int .i64 n] W K :=
  at_callF hA (c68 h hG hl n) (fun b _ hb => .inl (hB b hb)) hgs fun v w' hA hk hc ⟨res, D2, e, hg, hX⟩ => by
    obtain ⟨rfl, rfl⟩ := hp _ _ hg
    subst e
    exact hK w' hA hk hc hX
theorem fl_blk {V : List PartT} {b : Bool} {f a : Int} {s : Sl3} {K : Ending → World → Prop} (hA : At w gs W) (h : FlX W B g cap D) (hV : SlE W 3 partE V s.1 s.2.1 s.2.2) (hb : blocksD D (f, a) V = b)
    (hK : ∀ w', At w gs w' → Keeps gs W w' → Bel W w' → K (.returned (.bool b)) w') : Calls Try.prog 15 #[ptr g, .int .i64 f, .int .i64 a, slW s] W K := by
  have := c15 h f a hV
  rw [hb] at this
  exact at_callb hA this hK
theorem c19 (w : World) : Ret Try.prog 19 #[] w (.bool true) := by
  intro R hR
  refine f19_calls w R ?_
  unfold f19_vc
  refine at_callq (At.refl w) (c13 2 w) fun v w2 hA _ hb2 hq => ?_
  rcases hq with ⟨hlt, _⟩ | ⟨_, g, e, hX⟩
  · omega
  subst e
  refine ⟨_, rfl, ?_⟩
  have hs2 := hb2.size
  refine opw_litL (e' := 73) (f := partE) (size := 3) (l := ([(0, 0, 2), (1, 0, 4)] : List PartT)) hA rfl (fun _ _ => rfl) (by decide) (by kernel_rfl) fun gv w5 hgv2 hA _ hb5 ho => ⟨_, _, _, rfl, ?_⟩
  have hX5 : FlX w5 (fun b => w.heap.size ≤ b ∧ b < w2.heap.size) g 2 [] := (hX.mono fun b hb h => ⟨h, hb⟩).call hb5
  intro n9 hn9 w10 hev hu
  have hb10 := hev.bel (by simpa using hn9)
  have hs5 := hb5.size
  have hs10 := hb10.size
  have hX10 := hX5.call hb10
  have hA10 : At w [n9] w10 := ⟨(hA.call hb10).chg, hu⟩
  have hn9' := hA10.under n9 (by simp)
  have hgv : SlE w10 3 partE ([(0, 0, 2), (1, 0, 4)] : List PartT) (some ⟨gv, 0, none⟩) 2 2 := SlR.call (ho.sl fun _ _ => rfl) hb10
  let f0 : TkT := (1, 5, 9, [(0, 0, 2), (1, 0, 4)])
  let D1 : FlD := [((1, 5), [f0])]
  have e1 : putD 2 [] f0 = (0, D1) := by kernel_rfl
  have e2 : putD 2 D1 f0 = (0, D1) := by kernel_rfl
  have hG1 : GoodF D1 := by
    have := GoodF.nil.put 2 f0
    rw [e1] at this
    exact this
  have hl1 : lenD D1 ≤ 1000 := by decide
  have hgv5 : gv < w5.heap.size := ho.lt gv rfl
  have hp8 : ∀ res D2, goneR (goneP 3 8) D1 res D2 → res = 0 ∧ D2 = D1 := by
    rintro res D2 ⟨Dp, hp, rfl, rfl⟩
    rw [List.perm_singleton.1 hp]
    exact ⟨by decide, by kernel_rfl⟩
  have hp9 : ∀ res D2, goneR (goneP 3 9) D1 res D2 → res = 1 ∧ D2 = [] := by
    rintro res D2 ⟨Dp, hp, rfl, rfl⟩
    rw [List.perm_singleton.1 hp]
    exact ⟨by decide, by kernel_rfl⟩
  refine fl_put (f := (f0, (some ⟨gv, 0, none⟩, 2, 2))) hA10 hX10 (fun b h => h.1) (fun b hb h => by simp at hb; have := h.2; omega) GoodF.nil (by decide) hgv e1 fun w12 hA12 hk12 hc12 hX12 => ⟨_, rfl, hk12, ?_⟩
  have hs12 := hc12.size
  have hgv12 : SlE w12 3 partE ([(0, 0, 2), (1, 0, 4)] : List PartT) (some ⟨gv, 0, none⟩) 2 2 := SlR.chg hgv hc12 fun b hb hn => by
    cases hb
    have := hn.2
    simp only at this
    omega
  have hB12 : ∀ b, ((w.heap.size ≤ b ∧ b < w2.heap.size) ∨ w10.heap.size ≤ b) → w.heap.size ≤ b := fun b h => h.elim And.left fun h => by omega
  refine fl_put (f := (f0, (some ⟨gv, 0, none⟩, 2, 2))) hA12 hX12 hB12 (fun b hb h => by simp at hb; rcases h with h | h <;> omega) hG1 hl1 hgv12 e2 fun w15 hA15 hk15 hc15 hX15 => ⟨_, rfl, hk15, ?_⟩
  have hs15 := hc15.size
  refine brE (fun _ => brE (fun _ => ?_) (fun e => absurd rfl e)) (fun e => absurd rfl e)
  refine at_callb hA15 (c65 hX15) fun w18 hA18 hk18 hb18 => ⟨_, rfl, hk18, brE (fun _ => ?_) (fun e => absurd rfl e)⟩
  have hX18 := hX15.call hb18
  refine opw_litL (e' := 73) (f := partE) (size := 3) (l := ([(0, 0, 2), (1, 0, 3)] : List PartT)) hA18 rfl (fun _ _ => rfl) (by decide) (by kernel_rfl) fun g2 w21 _ hA21 hk21 hb21 ho2 => ⟨_, _, _, rfl, hk21, ?_⟩
  have hX21 := hX18.call hb21
  refine fl_blk (s := (some ⟨g2, 0, none⟩, 2, 2)) hA21 hX21 (ho2.sl fun _ _ => rfl) (b := true) (by kernel_rfl) fun w26 hA26 hk26 hb26 => ⟨_, rfl, hk26, brB (fun _ => ?_) (fun e => by cases e)⟩
  have hX26 := hX21.call hb26
  refine opw_litL (e' := 73) (f := partE) (size := 3) (l := ([(0, 0, 3)] : List PartT)) hA26 rfl (fun _ _ => rfl) (by decide) (by kernel_rfl) fun g3 w29 _ hA29 hk29 hb29 ho3 => ⟨_, _, _, rfl, hk29, ?_⟩
  have hX29 := hX26.call hb29
  refine fl_blk (s := (some ⟨g3, 0, none⟩, 1, 1)) hA29 hX29 (ho3.sl fun _ _ => rfl) (b := false) (by kernel_rfl) fun w34 hA34 hk34 hb34 => ⟨_, rfl, hk34, brNB (fun _ => ?_) (fun e => by cases e)⟩
  have hX34 := hX29.call hb34
  have hB15 : ∀ b, (((w.heap.size ≤ b ∧ b < w2.heap.size) ∨ w10.heap.size ≤ b) ∨ w12.heap.size ≤ b) → w.heap.size ≤ b := fun b h => h.elim (hB12 b) fun h => by omega
  have hn15 : ∀ b ∈ [n9], ¬ (((w.heap.size ≤ b ∧ b < w2.heap.size) ∨ w10.heap.size ≤ b) ∨ w12.heap.size ≤ b) := fun b hb h => by simp at hb; rcases h with (h | h) | h <;> omega
  have hs18 := hb18.size
  have hs21 := hb21.size
  have hs26 := hb26.size
  have hs29 := hb29.size
  have hs34 := hb34.size
  refine fl_exp hA34 hX34 hB15 hn15 hG1 hl1 hp8 fun w37 hA37 hk37 hc37 hX37 => ⟨_, rfl, hk37, brE (fun _ => ?_) (fun e => absurd rfl e)⟩
  refine fl_exp hA37 hX37 (fun b h => h.elim (hB15 b) fun h => by omega) (fun b hb h => h.elim (hn15 b hb) fun h => by simp at hb; omega) hG1 hl1 hp9 fun w40 hA40 hk40 hc40 hX40 => ⟨_, rfl, hk40, leaf hR hA40 rfl⟩
/-! ### Acts -/
theorem do_one {x : AcF} {K : Ending → World → Prop} (hA : At w gs W) (h : FlX W B g cap D) (hB : ∀ b, B b → w.heap.size ≤ b) (hgs : ∀ b ∈ gs, ¬ B b) (hG : GoodF D) (hl : lenD D ≤ 1000) (hV : VecR W x.2.2)
    (hK : ∀ w' res D', At w gs w' → Keeps gs W w' → Chg B W w' → doneR cap D x.1 x.2.1 x.2.2.1 res D' → FlX w' (fun b => B b ∨ W.heap.size ≤ b) g cap D' → K (.returned (.int .i64 res)) w') : Calls Try.prog 14 #[ptr g, .agg #[.int .i64 x.1, .int .i64 x.2.1, .int .i64 x.2.2.1.1, .int .i64 x.2.2.1.2.1, .int .i64 x.2.2.1.2.2.1, slW x.2.2.2]] W K :=
  at_callF hA (c14 h hG hl x.1 x.2.1 hV) (fun b _ hb => .inl (hB b hb)) hgs fun v w' hA hk hc ⟨res, D', e, hd, hX⟩ => by
    subst e
    exact hK w' res D' hA hk hc hd hX
theorem doneR_good {kind n : Int} {f : TkT} {res : Int} {D' : FlD} (hG : GoodF D) (h : doneR cap D kind n f res D') : GoodF D' ∧ lenD D' ≤ lenD D + 1 := by
  unfold doneR at h
  split at h
  · have e : D' = (putD cap D f).2 := congrArg Prod.snd h
    subst e
    refine ⟨hG.put cap f, ?_⟩
    by_cases h1 : okF f
    · by_cases h2 : f ∈ allF D
      · unfold putD
        rw [if_neg fun hh => hh h1, if_pos (hG.mem_all.1 h2)]
        exact Nat.le_succ _
      · by_cases h3 : cap ≤ lenD D
        · unfold putD
          rw [if_neg fun hh => hh h1, if_neg fun hh => h2 (hG.mem_all.2 hh), if_pos h3]
          exact Nat.le_succ _
        · rw [hG.put_len h1 h2 h3]
          exact Nat.le_refl _
    · unfold putD
      rw [if_pos h1]
      exact Nat.le_succ _
  · obtain ⟨D1, hp, _, rfl⟩ := h
    refine ⟨hG.drop hp _, ?_⟩
    have h1 := lenD_drop_le (goneP kind n) D1
    rw [lenD_perm hp] at h1
    omega
/-! ### What one more blocks -/
theorem blocksD_iff {k : KyT} {V : List PartT} : blocksD D k V = true ↔ ∃ y ∈ rowD D k, holdsB y.2.2.2 V = true := by
  unfold blocksD
  rw [List.any_eq_true]
  rfl
theorem blocksD_mono {D' : FlD} {k : KyT} {V U : List PartT} (h : blocksD D k V = true) (hs : ∀ y ∈ rowD D k, y ∈ rowD D' k) (hv : holdsB V U = true) : blocksD D' k U = true := by
  obtain ⟨y, hy, hh⟩ := blocksD_iff.1 h
  exact blocksD_iff.2 ⟨y, hs y hy, holds_trans hh hv⟩
theorem least_l {a b : List PartT} (ha : vecB a = true) : holdsB a (leastL a b) = true := by
  by_cases hb : vecB b = true
  · obtain ⟨h1, h2⟩ := leastL_vec ha hb
    refine holds_iff.2 ⟨ha, h1, fun s => ?_⟩
    rw [h2]
    unfold mn
    split <;> omega
  · unfold leastL
    rw [if_neg fun hh => hb hh.2]
    exact holds_iff.2 ⟨ha, rfl, fun s => (amt_nonneg (vecB_iff.1 ha).1).1⟩
theorem least_r {a b : List PartT} (ha : vecB a = true) (hb : vecB b = true) : holdsB b (leastL a b) = true := by
  rw [least_comm ha hb]
  exact least_l hb
theorem put_rows {f : TkT} {k : KyT} : ∀ y ∈ rowD D k, y ∈ rowD (putD cap D f).2 k := fun y hy => by
  unfold putD
  split
  · exact hy
  · split
    · exact hy
    · split
      · exact hy
      · simp only
        rw [rowD_mset]
        split
        · rename_i h
          subst h
          exact insF_mem.2 (.inr hy)
        · exact hy
theorem put_in {f : TkT} (h : (putD cap D f).1 = 0) : okF f ∧ f ∈ rowD (putD cap D f).2 (keyK f) := by
  unfold putD at *
  split at h
  · cases h
  · rename_i hok
    refine ⟨Decidable.not_not.1 hok, ?_⟩
    rw [if_neg hok]
    split at h
    · rename_i hin
      rw [if_pos hin]
      exact hin
    · rename_i hin
      rw [if_neg hin]
      split at h
      · cases h
      · rename_i hc
        rw [if_neg hc]
        simp only
        rw [rowD_mset, if_pos rfl]
        exact insF_mem.2 (.inl rfl)
end Go.Vc.J

/- The arguments of filters' laws, read: acts, a filter. -/
set_option maxRecDepth 20000
namespace Go.Vc.J
open Go Go.Vc Go.Vc.V Go.RowKit
abbrev iG : GT := .int .i64
abbrev ptG : GT := .st (.pair iG (.pair iG (.pair iG .unit)))
abbrev PtA := Int × Int × Int × Unit
def ptOf (x : PtA) : PartT := (x.1, x.2.1, x.2.2.1)
theorem row_M {α β : Type} {w : World} {n : Nat} {R : α → List Value → Prop} {R' : β → List Value → Prop} {k : α → β} {l : List α} {a : Option Addr} {len c : Nat} (hs : SlR w n R l a len c) (hR : ∀ x cs, R x cs → R' (k x) cs) : SlR w n R' (l.map k) a len c := by
  refine ⟨by rw [List.length_map]; exact hs.1, hs.2.1, hs.2.2.1, hs.2.2.2.1, fun i y hy => ?_⟩
  rw [List.getElem?_map] at hy
  cases hx : l[i]? with
  | none => rw [hx] at hy; cases hy
  | some x =>
    rw [hx] at hy
    simp only [Option.map_some, Option.some.injEq] at hy
    subst hy
    obtain ⟨ad, cs, ha, hl, hcs, hr⟩ := hs.at_ hx
    exact ⟨ad, cs, ha, hl, hcs, hR _ _ hr⟩
theorem pt_R {w : World} {x : PtA} {cs : List Value} (h : ptG.R w x cs) : cs = partE (ptOf x) := by
  obtain ⟨c1, c2, rfl, ⟨rfl, _, _⟩, c3, c4, rfl, ⟨rfl, _, _⟩, c5, c6, rfl, ⟨rfl, _, _⟩, rfl⟩ := h
  rfl
theorem pts_V {w : World} {l : List PtA} {v : Value} (h : GT.V w (.sl ptG) l v) : ∃ a n c, v = .slice a n c ∧ SlE w 3 partE (l.map ptOf) a n c := by
  obtain ⟨a, n, c, hv, hs⟩ := h
  simp at hv
  exact ⟨a, n, c, hv, row_M hs fun _ _ => pt_R⟩
/-- A row, as a row of what its elements are. -/
theorem row_C {α β : Type} {w : World} {n : Nat} {R : α → List Value → Prop} {R' : β → List Value → Prop} {Q : β → Prop} {l : List α} {a : Option Addr} {len c : Nat} (hs : SlR w n R l a len c) (hR : ∀ x cs, R x cs → ∃ y, R' y cs ∧ Q y) : ∃ L, SlR w n R' L a len c ∧ ∀ y ∈ L, Q y := by
  have h : ∀ i : Fin l.length, ∃ y, (∃ ad cs, a = some ad ∧ cs.length = n ∧ (∀ (j : Nat) (v : Value), cs[j]? = some v → w.cell? ((ad.add (i.1 * n)).add j) = some v) ∧ R' y cs) ∧ Q y := fun i => by
    obtain ⟨ad, cs, ha, hl, hcs, hr⟩ := hs.at_ (List.getElem?_eq_getElem i.2)
    obtain ⟨y, hy, hq⟩ := hR _ _ hr
    exact ⟨y, ⟨ad, cs, ha, hl, hcs, hy⟩, hq⟩
  refine ⟨List.ofFn fun i => Classical.choose (h i), ⟨by rw [List.length_ofFn]; exact hs.1, hs.2.1, hs.2.2.1, hs.2.2.2.1, fun i y hy => ?_⟩, fun y hy => ?_⟩
  · obtain ⟨hi, rfl⟩ := List.getElem?_eq_some_iff.1 hy
    rw [List.getElem_ofFn]
    rw [List.length_ofFn] at hi
    exact (Classical.choose_spec (h ⟨i, hi⟩)).1
  · obtain ⟨i, hi, rfl⟩ := List.getElem_of_mem hy
    rw [List.getElem_ofFn]
    exact (Classical.choose_spec (h _)).2
abbrev flG : GT := .st (.pair iG (.pair iG (.pair iG (.pair (.sl ptG) .unit))))
abbrev afG : GT := .st (.pair iG (.pair iG (.pair flG .unit)))
theorem af_R {w : World} {x : afG.T} {cs : List Value} (h : afG.R w x cs) : ∃ y : AcF, cs = acfE y ∧ VecR w y.2.2 := by
  obtain ⟨c1, c2, rfl, ⟨rfl, _, _⟩, c3, c4, rfl, ⟨rfl, _, _⟩, c5, c6, rfl, hm, rfl⟩ := h
  obtain ⟨d1, d2, rfl, ⟨rfl, _, _⟩, d3, d4, rfl, ⟨rfl, _, _⟩, d5, d6, rfl, ⟨rfl, _, _⟩, d7, d8, rfl, ⟨a, n, c, rfl, hs⟩, rfl⟩ := hm
  exact ⟨(x.1, x.2.1, ((x.2.2.1.1, x.2.2.1.2.1, x.2.2.1.2.2.1, x.2.2.1.2.2.2.1.map ptOf), (a, n, c))), rfl, row_M hs fun _ _ => pt_R⟩
theorem afs_V {w : World} {l : (GT.sl afG).T} {v : Value} (h : GT.V w (.sl afG) l v) : ∃ L a n c, v = .slice a n c ∧ CF w L a n c := by
  obtain ⟨a, n, c, hv, hs⟩ := h
  simp at hv
  obtain ⟨L, h1, h2⟩ := row_C hs (R' := fun y cs => cs = acfE y) (Q := fun y => VecR w y.2.2) fun _ _ => af_R
  exact ⟨L, a, n, c, hv, h1, h2⟩
theorem fl_V {w : World} {x : flG.T} {v : Value} (h : GT.V w flG x v) : ∃ y : TR, v = trV y ∧ VecR w y := by
  obtain ⟨cs, rfl, d1, d2, rfl, ⟨rfl, _, _⟩, d3, d4, rfl, ⟨rfl, _, _⟩, d5, d6, rfl, ⟨rfl, _, _⟩, d7, d8, rfl, ⟨a, n, c, rfl, hs⟩, rfl⟩ := h
  exact ⟨((x.1, x.2.1, x.2.2.1, x.2.2.2.1.map ptOf), (a, n, c)), rfl, row_M hs fun _ _ => pt_R⟩
end Go.Vc.J

/- Filters: what one more blocks: the walk. -/
set_option maxRecDepth 20000
set_option maxHeartbeats 2000000
namespace Go.Vc.J
open Go Go.Vc Go.Vc.V Go.RowKit Go.Proofs Vct

variable {w W W' W2 : World} {M N : Nat → Prop} {gs ds : List Nat} {g r : Nat} {cap long : Int} {m : FlM} {B : Nat → Prop} {D : FlD}

theorem law3 {L : List AcF} {a : Option Addr} {n c : Nat} {f : TR} {V : List PartT} {s : Sl3} (w : World) (har : CF w L a n c) (hf : VecR w f) (hV : SlE w 3 partE V s.1 s.2.1 s.2.2) : Ret Try.prog 3 #[.slice a n c, trV f, slW s] w (.bool true) := by
  intro R hR
  refine f3_calls a n c _ _ _ _ _ _ _ _ _ w R ?_
  unfold f3_vc
  have hn := har.sl.len_le
  intro n1 hn1 w2 hb2 hu2
  have hA : At w [n1] w2 := ⟨((At.refl w).call hb2).chg, hu2⟩
  refine at_callq hA (c12 w2 (har.call hb2)) fun v w4 hA hk hb4 ⟨b, e, hfew⟩ => ?_
  subst e
  refine ⟨_, rfl, hk, brNB (fun _ => leaf hR hA rfl) (fun hb => brD (fun _ => leaf hR hA rfl) (fun hv150 => brD (fun _ => leaf hR hA rfl) (fun hf150 => ?_)))⟩
  have hfew := hfew hb
  refine at_callq hA (c13 1000 w4) fun v w7 hA hk hb7 hq => ?_
  rcases hq with ⟨hlt, _⟩ | ⟨_, g, e, hX⟩
  · omega
  subst e
  have hs4 := (hb2.trans hb4).size
  have hn17 := hA.under n1 (by simp)
  refine ⟨_, rfl, hk, fun v W' => At w [n1] W' ∧ ∃ (i : Nat) (D : FlD) (B : Nat → Prop), v.1 = i ∧ i ≤ L.length ∧ FlX W' B g 1000 D ∧ GoodF D ∧ lenD D ≤ i ∧ (∀ b, B b → w.heap.size ≤ b) ∧ ¬ B n1, fun v _ => ((n : Int) - v.1).toNat, ⟨hA, 0, [], fun b => w.heap.size ≤ b ∧ b ≠ n1, rfl, Nat.zero_le _, hX.mono fun b _ hh => ⟨by omega, ?_⟩, GoodF.nil, Nat.zero_le _, fun b h => h.1, fun h => h.2 rfl⟩, ?_⟩
  · have := (show At w [n1] w4 from ⟨(((At.refl w).call hb2).call hb4).chg, fun q hq => Nat.lt_of_lt_of_le (hu2 q hq) hb4.size⟩).under n1 (by simp)
    omega
  rintro x11 w12 ⟨hA, i, D, B, hi, hil, hX, hG, hlD, hB, hBn⟩
  simp only at hi
  subst hi
  have hn12 := hA.under n1 (by simp)
  refine brD (fun hlt => ?_) (fun hge => ?_)
  · obtain ⟨x, hx⟩ : ∃ x, L[i]? = some x := ⟨_, List.getElem?_eq_getElem (by omega)⟩
    obtain ⟨ad, g1, el, _⟩ := elt_at (P := Try.prog) (k := .i64) (t := 22) (har.sl.call hA.below) hx (e := 31) (by kernel_rfl) (by kernel_rfl)
    refine ⟨ad, g1, _, _, _, _, _, _, _, _, el.agg 6 (by kernel_rfl) (by kernel_rfl) (by simp) (by simp), ?_⟩
    refine do_one hA hX hB (fun b hb hh => by rw [List.mem_singleton] at hb; exact hBn (hb ▸ hh)) hG (by omega) (SlR.call (har.vs x (List.mem_of_getElem? hx)) hA.below) fun w23 res D' hA hk hc hd hX => ⟨_, rfl, hk, ?_⟩
    obtain ⟨hG', hl'⟩ := doneR_good hG hd
    have hsz := (show w.heap.size ≤ w12.heap.size by omega)
    rw [succ_i i (by omega)]
    exact ⟨⟨hA, i + 1, D', _, rfl, by omega, hX, hG', by omega, fun b h => h.elim (hB b) fun h => by omega, fun h => h.elim hBn fun h => by omega⟩, by simp only; omega⟩
  · have hl1000 : lenD D ≤ 1000 := by omega
    have hwas := c15 hX f.1.1 f.1.2.1 (SlR.call hV hA.below)
    generalize hw : blocksD D (f.1.1, f.1.2.1) V = was at hwas
    refine at_callb hA hwas fun w26 hA hk26 hb26 => ⟨_, rfl, hk26, ?_⟩
    have hX26 := hX.call hb26
    refine (c16 w26 (SlR.call hV hA.below) (SlR.call hf hA.below)) _ fun v w29 hb29 hrow => ?_
    have ho29 : OwnF w noB [n1] w29 73 3 partE v (leastL V f.1.2.2.2) := OwnF.ret hA hrow rfl rfl
    obtain ⟨a30, c32, rfl, hs30⟩ := ho29.slice fun _ _ => rfl
    have hfresh : ∀ ad, a30 = some ad → w26.heap.size ≤ ad.block := fun ad he => (hrow.lt ad.block (by rw [he]; rfl)).1
    have hA29 := hA.call hb29
    have hX29 : FlX w29 (fun b => B b ∧ b < w26.heap.size) g 1000 D := (hX26.mono fun b hb h => ⟨h, hb⟩).call hb29
    have hsz26 := hA.size
    have hBn' : ∀ b ∈ [n1], ¬ (B b ∧ b < w26.heap.size) := fun b hb hh => by rw [List.mem_singleton] at hb; exact hBn (hb ▸ hh.1)
    have hVv : ∀ {W1}, At w [n1] W1 → Ret Try.prog 17 #[slW s] W1 (.bool (vecB V)) := fun hA => c17 _ (SlR.call hV hA.below)
    refine ⟨_, _, _, rfl, hA.keeps hb29, fun _ W' => At w [n1] W' ∧ Bel w29 W', ⟨fun hwt => ?_, fun _ => ⟨hA29, Bel.refl _⟩⟩, ?_⟩
    · refine at_callb hA29 (hVv hA29) fun w35 hA35 hk35 hb35 => ⟨_, rfl, hk35, fun hvv => ?_, fun _ => ⟨hA35, hb35⟩⟩
      have hc15 := c15 (hX29.call hb35) f.1.1 f.1.2.1 (s := (a30, (leastL V f.1.2.2.2).length, c32)) (hs30.call hb35)
      have hbl : blocksD D (f.1.1, f.1.2.1) (leastL V f.1.2.2.2) = true := blocksD_mono (by rw [hw]; exact hwt) (fun _ h => h) (least_l hvv)
      rw [hbl] at hc15
      exact at_callb hA35 hc15 fun w38 hA38 hk38 hb38 => ⟨_, rfl, hk38, brNB (fun e => by cases e) (fun _ => ⟨hA38, hb35.trans hb38⟩)⟩
    · rintro w40 ⟨hA40, hb40⟩
      have hX40 := hX29.call hb40
      refine fl_put hA40 hX40 (fun b h => hB b h.1) hBn' hG hl1000 (SlR.call hf hA40.below) (c := (putD 1000 D f.1).1) (D' := (putD 1000 D f.1).2) rfl fun w42 hA42 hk42 hc42 hX42 => ⟨_, rfl, hk42, ?_⟩
      have hs42 : SlE w42 3 partE (leastL V f.1.2.2.2) a30 (leastL V f.1.2.2.2).length c32 := SlR.chg (hs30.call hb40) hc42 fun ad he hn => by
        have := hfresh ad he
        have := hn.2
        omega
      generalize he0 : (putD 1000 D f.1).1 = e0
      have hb1 : was = true → blocksD (putD 1000 D f.1).2 (f.1.1, f.1.2.1) V = true := fun h => by
        obtain ⟨y, hy, hh⟩ := blocksD_iff.1 (hw.trans h)
        exact blocksD_iff.2 ⟨y, put_rows y hy, hh⟩
      have hb2 : e0 = 0 → blocksD (putD 1000 D f.1).2 (f.1.1, f.1.2.1) f.1.2.2.2 = true := fun h => by
        obtain ⟨h1, h2⟩ := put_in (he0.trans h)
        exact blocksD_iff.2 ⟨_, h2, by rw [holds_self]; exact h1.2.2.2.2⟩
      have hb3 : e0 = 0 → vecB V = true → blocksD (putD 1000 D f.1).2 (f.1.1, f.1.2.1) (leastL V f.1.2.2.2) = true := fun h hv => by
        obtain ⟨h1, h2⟩ := put_in (he0.trans h)
        exact blocksD_iff.2 ⟨_, h2, least_r hv h1.2.2.2.2⟩
      generalize (putD 1000 D f.1).2 = D' at hX42 hb1 hb2 hb3
      have kk : ∀ {W1 : World} {U : List PartT} {t : Sl3} {K : World → Prop}, At w [n1] W1 → Bel w42 W1 → SlE w42 3 partE U t.1 t.2.1 t.2.2 → blocksD D' (f.1.1, f.1.2.1) U = true → (∀ W2, At w [n1] W2 → Bel w42 W2 → K W2) →
          Calls Try.prog 15 #[ptr g, .int .i64 f.1.1, .int .i64 f.1.2.1, slW t] W1 fun e w' => ∃ b, e = .returned (.bool b) ∧ Keeps [n1] W1 w' ∧ ((!b) = true → R (.returned (.bool false)) w') ∧ ((!b) = false → K w') := fun hA hb hU hbl hK =>
        fl_blk hA (hX42.call hb) (SlR.call hU hb) hbl fun W2 hA2 hk2 hb2 => ⟨_, rfl, hk2, brNB (fun e => by cases e) (fun _ => hK W2 hA2 (hb.trans hb2))⟩
      have hbw42 := hA42.below
      have t3 : ∀ {W1 : World}, At w [n1] W1 → Bel w42 W1 → e0 = 0 → Calls Try.prog 17 #[slW s] W1 fun e51 w52 => ∃ b53, e51 = .returned (.bool b53) ∧ Keeps [n1] W1 w52 ∧ (b53 = true → Calls Try.prog 15 #[ptr g, .int .i64 f.1.1, .int .i64 f.1.2.1, .slice a30 (leastL V f.1.2.2.2).length c32] w52 fun e54 w55 => ∃ b56, e54 = .returned (.bool b56) ∧ Keeps [n1] w52 w55 ∧ ((!b56) = true → R (.returned (.bool false)) w55) ∧ ((!b56) = false → At w [n1] w55)) ∧ (b53 = false → At w [n1] w52) := fun hA hb he =>
        at_callb hA (hVv hA) fun w52 hA52 hk52 hb52 => ⟨_, rfl, hk52, fun hv => kk (t := (a30, (leastL V f.1.2.2.2).length, c32)) hA52 (hb.trans hb52) hs42 (hb3 he hv) fun _ h _ => h, fun _ => hA52⟩
      have t2 : ∀ {W1 : World}, At w [n1] W1 → Bel w42 W1 → e0 = 0 → _ := fun {W1} hA hb he => kk (W1 := W1) (t := f.2) hA hb (SlR.call hf hbw42) (hb2 he) fun W2 hA2 hb2 => brE (x := e0) (y := 0) (fun he => t3 hA2 hb2 he) (fun _ => hA2)
      refine ⟨fun _ W' => At w [n1] W', ⟨fun hwt => ?_, fun hwf => ?_⟩, ?_⟩
      · refine kk (t := s) hA42 (Bel.refl _) (SlR.call hV hbw42) (hb1 hwt) fun W2 hA2 hb2 => brE (fun he => t2 hA2 hb2 he) (fun hne => brE (fun he => absurd he hne) (fun _ => hA2))
      · exact brE (fun he => t2 hA42 (Bel.refl _) he) (fun hne => brE (fun he => absurd he hne) (fun _ => hA42))
      · rintro w78 hA78
        exact at_callb hA78 (c19 w78) fun w80 hA80 hk80 _ => ⟨_, rfl, hk80, leaf hR hA80 rfl⟩
end Go.Vc.J

/- Filters: those that go: the walk. -/
set_option maxRecDepth 20000
set_option maxHeartbeats 2000000
namespace Go.Vc.J
open Go Go.Vc Go.Vc.V Go.RowKit Go.Proofs Vct

variable {w W W' W2 : World} {M N : Nat → Prop} {gs ds : List Nat} {g r : Nat} {cap long : Int} {m : FlM} {B : Nat → Prop} {D : FlD}

def goK (kind n : Int) (y : TkT) : Prop := (kind ≤ 1 ∧ y.1 = n) ∨ (kind = 2 ∧ y.2.1 = n) ∨ (3 ≤ kind ∧ y.2.2.1 ≤ n)
instance (kind n : Int) (y : TkT) : Decidable (goK kind n y) := by unfold goK; infer_instance
def cl3 (kind : Int) : Int := if (if kind < 3 then kind else 3) > 1 then (if kind < 3 then kind else 3) else 1
theorem goK_iff (kind n : Int) (y : TkT) : goK kind n y ↔ (kind ≤ 1 ∧ y.1 = n) ∨ (kind = 2 ∧ y.2.1 = n) ∨ (3 ≤ kind ∧ y.2.2.1 ≤ n) := Iff.rfl
theorem cl3_go (kind n : Int) (y : TkT) : goneP (cl3 kind) n y = decide (goK kind n y) := by
  rw [Bool.eq_iff_iff, decide_eq_true_iff, goK_iff]
  by_cases h1 : kind ≤ 1
  · have e : cl3 kind = 1 := by unfold cl3; rw [if_pos (show kind < 3 by omega), if_neg (by omega)]
    unfold goneP
    rw [e, if_pos rfl, decide_eq_true_iff]
    omega
  · by_cases h2 : kind = 2
    · have e : cl3 kind = 2 := by subst h2; rfl
      unfold goneP
      rw [e, if_neg (by decide), if_pos rfl, decide_eq_true_iff]
      omega
    · have e : cl3 kind = 3 := by unfold cl3; rw [if_neg (show ¬ kind < 3 by omega), if_pos (by decide)]
      unfold goneP
      rw [e, if_neg (by decide), if_neg (by decide), decide_eq_true_iff]
      omega
theorem cl3_ne (kind : Int) : cl3 kind ≠ 0 := by
  unfold cl3
  split <;> (try split at *) <;> omega
theorem filter_pre {p : TkT → Bool} {l : List TkT} {i : Nat} {x : TkT} (hx : l[i]? = some x) (hp : p x = true) : (l.filter p)[((l.take i).filter p).length]? = some x := by
  have h1 : l = l.take i ++ x :: l.drop (i + 1) := by
    rw [← drop_cons hx, List.take_append_drop]
  have h2 : l.filter p = (l.take i).filter p ++ x :: (l.drop (i + 1)).filter p := by
    conv => lhs; rw [h1]
    rw [List.filter_append, List.filter_cons, if_pos hp]
  rw [h2, List.getElem?_append_right (Nat.le_refl _), Nat.sub_self]
  rfl
theorem filter_two (p : TkT → Bool) : ∀ l : List TkT, (l.filter p).length + (l.filter fun y => !p y).length = l.length
  | [] => rfl
  | x :: l => by
    have := filter_two p l
    rw [List.filter_cons, List.filter_cons]
    cases h : p x <;> simp <;> omega
theorem law10 {L : List AcF} {a : Option Addr} {n c : Nat} (kind k0 : Int) (w : World) (har : CF w L a n c) : Ret Try.prog 10 #[.slice a n c, .int .i64 kind, .int .i64 k0] w (.bool true) := by
  intro R hR
  refine f10_calls a n c kind k0 w R ?_
  unfold f10_vc
  have hn := har.sl.len_le
  refine at_callq (At.refl w) (c12 w har) fun v w2 hA _ hb2 ⟨b, e, hfew⟩ => ?_
  subst e
  refine ⟨_, rfl, brNB (fun _ => leaf hR hA rfl) (fun hb => ?_)⟩
  have hfew := hfew hb
  refine at_callq hA (c13 1000 w2) fun v w5 hA _ hb5 hq => ?_
  rcases hq with ⟨hlt, _⟩ | ⟨_, g, e, hX⟩
  · omega
  subst e
  have hs2 := hb2.size
  refine ⟨_, rfl, fun v W' => At w [] W' ∧ ∃ (i : Nat) (D : FlD) (B : Nat → Prop), v.1 = i ∧ i ≤ L.length ∧ FlX W' B g 1000 D ∧ GoodF D ∧ lenD D ≤ i ∧ (∀ b, B b → w.heap.size ≤ b), fun v _ => ((n : Int) - v.1).toNat, ⟨hA, 0, [], fun b => w.heap.size ≤ b, rfl, Nat.zero_le _, hX.mono fun b _ hh => by omega, GoodF.nil, Nat.zero_le _, fun b h => h⟩, ?_⟩
  rintro x9 w10 ⟨hA, i, D, B, hi, hil, hX, hG, hlD, hB⟩
  simp only at hi
  subst hi
  refine brD (fun hlt => ?_) (fun hge => ?_)
  · obtain ⟨x, hx⟩ : ∃ x, L[i]? = some x := ⟨_, List.getElem?_eq_getElem (by omega)⟩
    obtain ⟨ad, g1, el, _⟩ := elt_at (P := Try.prog) (k := .i64) (t := 22) (har.sl.call hA.below) hx (e := 31) (by kernel_rfl) (by kernel_rfl)
    refine ⟨ad, g1, _, _, _, _, _, _, _, _, el.agg 6 (by kernel_rfl) (by kernel_rfl) (by simp) (by simp), ?_⟩
    have hsz := hA.size
    refine do_one hA hX hB (fun b hb => by cases hb) hG (by omega) (SlR.call (har.vs x (List.mem_of_getElem? hx)) hA.below) fun w23 res D' hA hk hc hd hX => ⟨_, rfl, ?_⟩
    obtain ⟨hG', hl'⟩ := doneR_good hG hd
    rw [succ_i i (by omega)]
    exact ⟨⟨hA, i + 1, D', _, rfl, by omega, hX, hG', by omega, fun b h => h.elim (hB b) fun h => by omega⟩, by simp only; omega⟩
  · have hl1000 : lenD D ≤ 1000 := by omega
    have hsz10 := hA.size
    refine at_callq hA (c57 hX hG hl1000) fun v w24 hA _ hb24 ⟨l1, a25, c27, e, ho1, hv1, hs1, hm1⟩ => ⟨_, _, _, congrArg Ending.returned e, ?_⟩
    have hX24 : FlX w24 (fun b => B b ∧ b < w10.heap.size) g 1000 D := (hX.mono fun b hb h => ⟨h, hb⟩).call hb24
    refine do_one (x := (cl3 kind, k0, ((0, 0, 0, []), (none, 0, 0)))) hA hX24 (fun b h => hB b h.1) (fun b hb => by cases hb) hG hl1000 ⟨rfl, Nat.le_refl _, Nat.zero_le _, fun _ => rfl, fun i x hx => by simp at hx⟩ fun w29 res D' hA hk hc29 hd hX29 => ⟨_, rfl, ?_⟩
    obtain ⟨hG', hl'⟩ := doneR_good hG hd
    have hsz24 := hb24.size
    have ho29 := ho1.chg hc29 fun k hk hn => by
      have h1 := (ho1.mine k hk).resolve_right id
      have := hn.2
      omega
    have hv29 : ∀ x ∈ l1, VX w10 w29 x := fun x hx => (hv1 x hx).far hc29 fun b hn => hn.2
    refine at_callq hA (c57 hX29 hG' (by omega)) fun v w32 hA _ hb32 ⟨l2, a33, c35, e, ho2, hv2, hs2', hm2⟩ => ⟨_, _, _, congrArg Ending.returned e, ?_⟩
    have sl1 : SlE w32 4 trE l1 a25 l1.length c27 := (ho29.sl fun _ _ => rfl).call hb32
    have vv1 : ∀ x ∈ l1, VecR w32 x := fun x hx => ((hv29 x hx).call hb32).1.1
    have sl2 : SlE w32 4 trE l2 a33 l2.length c35 := ho2.sl fun _ _ => rfl
    have vv2 : ∀ x ∈ l2, VecR w32 x := fun x hx => (hv2 x hx).1.1
    obtain ⟨hgone, hL2⟩ : res = (lenD D : Int) - lenD D' ∧ l2.map (·.1) = (l1.map (·.1)).filter fun y => !decide (goK kind k0 y) := by
      unfold doneR at hd
      rw [if_neg (cl3_ne kind)] at hd
      obtain ⟨D1, hp, hres, hD'⟩ := hd
      refine ⟨by rw [hres, hD'], srtF_ext hs2' (hs1.sublist List.filter_sublist) fun y => ?_⟩
      rw [hm2, hD', drop_all hp, List.mem_filter, hm1]
      rw [show goneP (cl3 kind, k0, (((0, 0, 0, []) : TkT), ((none, 0, 0) : Sl3))).1 (cl3 kind, k0, (((0, 0, 0, []) : TkT), ((none, 0, 0) : Sl3))).2.1 y = decide (goK kind k0 y) from cl3_go kind k0 y]
      simp
    have hlen1 : l1.length = lenD D := by
      have hp : (l1.map (·.1)).Perm (allF D) := (List.perm_ext_iff_of_nodup hs1.nodup hG.nodup).2 hm1
      have := hp.length_eq
      rwa [List.length_map, ← lenD_all] at this
    have hlen2 : l2.length = lenD D' := by
      have hp : (l2.map (·.1)).Perm (allF D') := (List.perm_ext_iff_of_nodup hs2'.nodup hG'.nodup).2 hm2
      have := hp.length_eq
      rwa [List.length_map, ← lenD_all] at this
    have h2len := congrArg List.length hL2
    rw [List.length_map] at h2len
    have htwo := filter_two (fun y => decide (goK kind k0 y)) (l1.map (·.1))
    rw [List.length_map] at htwo
    have hw32 := hA.size
    refine ⟨fun v W' => At w [] W' ∧ Bel w32 W' ∧ ∃ (i : Nat), v.2.2.1 = i ∧ i ≤ l1.length ∧ v.2.1 = (((l1.map (·.1)).take i).filter fun y => !decide (goK kind k0 y)).length ∧ v.1 = res - (((l1.map (·.1)).take i).filter fun y => decide (goK kind k0 y)).length, fun v _ => ((l1.length : Int) - v.2.2.1).toNat, ⟨hA, Bel.refl _, 0, rfl, Nat.zero_le _, by simp, by simp⟩, ?_⟩
    rintro x38 x39 x40 w41 ⟨hA, hb41, i, e40, hil1, e39, e38⟩
    simp only at e40 e39 e38
    subst e40
    refine brD (fun hlt => ?_) (fun hge => ?_)
    · obtain ⟨y, hy⟩ : ∃ y, l1[i]? = some y := ⟨_, List.getElem?_eq_getElem (by omega)⟩
      have hym := List.mem_of_getElem? hy
      have hyp : (l1.map (·.1))[i]? = some y.1 := by rw [List.getElem?_map, hy]; rfl
      have tk : ∀ p : TkT → Bool, ((l1.map (·.1)).take (i + 1)).filter p = ((l1.map (·.1)).take i).filter p ++ (if p y.1 = true then [y.1] else []) := fun p => by
        rw [List.take_add_one, hyp, List.filter_append]
        cases hpy : p y.1 <;> simp [hpy]
      have hcl := List.length_filter_le (fun y => decide (goK kind k0 y)) ((l1.map (·.1)).take i)
      rw [List.length_take, List.length_map] at hcl
      have hcl2 := List.length_filter_le (fun y => !decide (goK kind k0 y)) ((l1.map (·.1)).take i)
      rw [List.length_take, List.length_map] at hcl2
      obtain ⟨ad, g1, el, _⟩ := elt_at (P := Try.prog) (k := .i64) (t := 111) (sl1.call hb41) hy (e := 25) (by kernel_rfl) (by kernel_rfl)
      refine ⟨fun v W' => At w [] W' ∧ Bel w32 W' ∧ v.2.1 = (((l1.map (·.1)).take (i + 1)).filter fun y => !decide (goK kind k0 y)).length ∧ v.1 = res - (((l1.map (·.1)).take (i + 1)).filter fun y => decide (goK kind k0 y)).length, ?_, ?_⟩
      · refine ⟨ad, g1, _, _, _, _, _, _, el.agg 4 (by kernel_rfl) (by kernel_rfl) (by simp) (by simp), fun n50 hn50 => ?_⟩
        have evA : ∀ {w52 : World}, Evo [n50] w41 w52 → Under [n50] w52 → At w [n50] w52 ∧ Bel w32 w52 := fun hev hu => by
          have hb := hev.bel (by simpa using hn50)
          exact ⟨⟨(hA.call hb).chg, hu⟩, hb41.trans hb⟩
        have skip : ∀ {w52 : World}, Evo [n50] w41 w52 → Under [n50] w52 → goK kind k0 y.1 → (At w [] w52 ∧ Bel w32 w52 ∧ x39 = (((l1.map (·.1)).take (i + 1)).filter fun y => !decide (goK kind k0 y)).length ∧ IntKind.i64.wrap (x38 - 1) = res - (((l1.map (·.1)).take (i + 1)).filter fun y => decide (goK kind k0 y)).length) := fun hev hu hg => by
          obtain ⟨h1, h2⟩ := evA hev hu
          refine ⟨h1.sub (by simp), h2, ?_, ?_⟩
          · rw [tk, if_neg (by simp [hg]), List.append_nil, e39]
          · rw [tk, if_pos (by simp [hg]), List.length_append, List.length_singleton, e38, wrap_i64 (by omega) (by omega)]
            omega
        refine ⟨fun v W' => At w [n50] W' ∧ Bel w32 W' ∧ ¬ goK kind k0 y.1 ∧ v.1 = x38, ?_, ?_⟩
        · have keep : ∀ {w52 : World}, Evo [n50] w41 w52 → Under [n50] w52 → ¬ goK kind k0 y.1 → (At w [n50] w52 ∧ Bel w32 w52 ∧ ¬ goK kind k0 y.1 ∧ x38 = x38) := fun hev hu hg => ⟨(evA hev hu).1, (evA hev hu).2, hg, rfl⟩
          unfold goK at skip keep
          exact brD (fun k1 => brE (fun e1 w52 hev hu => skip hev hu (by omega)) (fun e1 => brE (fun k2 => brE (fun e2 w52 hev hu => skip hev hu (by omega)) (fun e2 => brD (fun k3 => brD (fun e3 w52 hev hu => skip hev hu (by omega)) (fun e3 w52 hev hu => keep hev hu (by omega))) (fun k3 w52 hev hu => keep hev hu (by omega)))) (fun k2 => brD (fun k3 => brD (fun e3 w52 hev hu => skip hev hu (by omega)) (fun e3 w52 hev hu => keep hev hu (by omega))) (fun k3 w52 hev hu => keep hev hu (by omega))))) (fun k1 => brE (fun k2 => brE (fun e2 w52 hev hu => skip hev hu (by omega)) (fun e2 => brD (fun k3 => brD (fun e3 w52 hev hu => skip hev hu (by omega)) (fun e3 w52 hev hu => keep hev hu (by omega))) (fun k3 w52 hev hu => keep hev hu (by omega)))) (fun k2 => brD (fun k3 => brD (fun e3 w52 hev hu => skip hev hu (by omega)) (fun e3 w52 hev hu => keep hev hu (by omega))) (fun k3 w52 hev hu => keep hev hu (by omega))))
        · rintro x67 w68 ⟨hA68, hb68, hng, e67⟩
          simp only at e67
          subst e67
          have hk := filter_pre (p := fun y => !decide (goK kind k0 y)) hyp (by simp [hng])
          rw [← hL2] at hk
          have hkl := (List.getElem?_eq_some_iff.1 hk).1
          rw [List.length_map] at hkl
          generalize hkk : (((l1.map (·.1)).take i).filter fun y => !decide (goK kind k0 y)).length = kk at hk hkl e39
          subst e39
          obtain ⟨z, hz, hze⟩ : ∃ z, l2[kk]? = some z ∧ z.1 = y.1 := by
            rw [List.getElem?_map] at hk
            cases hz : l2[kk]? with
            | none => rw [hz] at hk; cases hk
            | some z => rw [hz] at hk; exact ⟨z, rfl, Option.some.inj hk⟩
          refine brD (fun hh => by omega) (fun _ => ?_)
          obtain ⟨ad2, g2, el2, _⟩ := elt_at (P := Try.prog) (k := .i64) (t := 111) (sl2.call hb68) hz (e := 25) (by kernel_rfl) (by kernel_rfl)
          rw [show trE z = [.int .i64 y.1.1, .int .i64 y.1.2.1, .int .i64 y.1.2.2.1, slW z.2] from by rw [← hze]] at el2
          refine ⟨ad2, g2, _, el2.one (by kernel_rfl) (by simp), brN (fun hh => absurd rfl hh) (fun _ => ?_)⟩
          refine ⟨ad2, g2, _, (el2.sub (o := 1) (by decide)).one (by kernel_rfl) (by simp), brN (fun hh => absurd rfl hh) (fun _ => ?_)⟩
          refine ⟨ad2, g2, _, (el2.sub (o := 2) (by decide)).one (by kernel_rfl) (by simp), brN (fun hh => absurd rfl hh) (fun _ => ?_)⟩
          refine ⟨ad2, g2, _, _, _, (el2.sub (o := 3) (by decide)).one (by kernel_rfl) (by simp), fun w83 hb83 hu83 => ?_⟩
          have hA83 : At w [n50] w83 := ⟨(hA68.call hb83).chg, hu83⟩
          have hb83' := hb68.trans hb83
          refine at_callb hA83 (c58 w83 (SlR.call (vv2 z (List.mem_of_getElem? hz)) hb83') (SlR.call (vv1 y hym) hb83')) fun w85 hA85 hk85 hb85 => ⟨_, rfl, hk85, ?_⟩
          have el85 := el2.below (hb83.trans hb85)
          refine ⟨(el85.sub (o := 2) (by decide)).one (by kernel_rfl) (by simp), (el85.sub (o := 1) (by decide)).one (by kernel_rfl) (by simp), el85.one (by kernel_rfl) (by simp), brNB (fun hh => absurd (show z.1.2.2.2 = y.1.2.2.2 by rw [hze]) (of_decide_eq_false hh)) (fun _ => ?_)⟩
          refine ⟨hA85.sub (by simp), hb83'.trans hb85, ?_, ?_⟩
          · rw [tk, if_pos (by simp [hng]), List.length_append, List.length_singleton, hkk, succ_i kk (by omega)]
          · rw [tk, if_neg (by simp [hng]), List.append_nil]
            exact e38
      · rintro x87 x88 w89 ⟨hA89, hb89, e88, e87⟩
        simp only at e88 e87
        rw [succ_i i (by omega)]
        exact ⟨⟨hA89, hb89, i + 1, rfl, by omega, e88, e87⟩, by simp only; omega⟩
    · have hi : i = l1.length := by omega
      rw [hi, List.take_of_length_le (by rw [List.length_map]; exact Nat.le_refl _)] at e39 e38
      have h38 : x38 = 0 := by omega
      have h39 : x39 = l2.length := by omega
      refine opw_allocS (zv := .agg #[.int .i64 0, .int .i64 0, .map none]) ([.int .i64 0, .int .i64 0, .map none] : List Value) (by kernel_rfl) (by kernel_rfl) hA fun gp w91 hgp hA _ hb91 hblk => ⟨_, rfl, ?_⟩
      refine opw_litL (e' := 73) (f := partE) (size := 3) (l := ([(0, 0, 1)] : List PartT)) hA rfl (fun _ _ => rfl) (by decide) (by kernel_rfl) fun gv w94 _ hA _ hb94 ho => ⟨_, _, _, rfl, ?_⟩
      intro n98 hn98
      have hno : NoF w94 (some ⟨gp, 0, none⟩) := .inr ⟨gp, rfl, (hb94.block (Array.getElem?_eq_some_iff.1 hblk).1).trans hblk⟩
      refine brE (fun _ => brE (fun _ w99 hev hu => ?_) (fun hh => absurd h39 hh)) (fun hh => absurd h38 hh)
      have hb99 := hev.bel (by simpa using hn98)
      have hA : At w [n98] w99 := ⟨(hA.call hb99).chg, hu⟩
      have hno := hno.call hb99
      refine at_callb hA (c18n (t := none) 1 1 1 (some ⟨gv, 0, none⟩, 1, 1) (.inl rfl)) fun w101 hA hk hb101 => ⟨_, rfl, hk, brE (fun _ => ?_) (fun hh => absurd rfl hh)⟩
      have hno := hno.call hb101
      refine at_callb hA (c18n 1 1 1 (some ⟨gv, 0, none⟩, 1, 1) hno) fun w104 hA hk hb104 => ⟨_, rfl, hk, brE (fun _ => ?_) (fun hh => absurd rfl hh)⟩
      have hno := hno.call hb104
      refine at_callb hA (c15n (t := none) 1 1 (s := (none, 0, 0)) (.inl rfl)) fun w107 hA hk hb107 => ⟨_, rfl, hk, brNB (fun _ => ?_) (fun hh => by cases hh)⟩
      have hno := hno.call hb107
      refine at_callb hA (c59n 1 hno) fun w110 hA hk hb110 => ⟨_, rfl, hk, brE (fun _ => ?_) (fun hh => absurd rfl hh)⟩
      exact at_callb hA (c19 w110) fun w113 hA hk _ => ⟨_, rfl, hk, leaf hR hA rfl⟩
end Go.Vc.J

