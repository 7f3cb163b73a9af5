/- Own texts of this claim, laid together: Fy1, FArg, Fy2, Fy3, FZ5, Fy4, Fy5. -/
import Derived.Test.YthfagnpgiciphaaMgb3b3d9bc
import Derived.Test.YthfagnpgiciphaaProg

/- Tables of filters: acts, the next one, no table, works; what one more blocks. -/
set_option maxRecDepth 20000
set_option maxHeartbeats 2000000
namespace Go.Vc.J
open Go Go.Vc Go.Vc.V Go.RowKit Go.Proofs Vct

variable {w W W' W2 : World} {M N : Nat → Prop} {gs ds : List Nat} {g r : Nat} {cap long : Int} {m : FlM} {B : Nat → Prop} {D : FlD}

/-- Acts in memory. -/
structure CF (W : World) (L : List AcF) (a : Option Addr) (n c : Nat) : Prop where
  sl : SlE W 6 acfE L a n c
  vs : ∀ x ∈ L, VecR W x.2.2
theorem CF.call {L : List AcF} {a : Option Addr} {n c : Nat} (h : CF W L a n c) (hb : Bel W W') : CF W' L a n c := ⟨h.sl.call hb, fun x hx => SlR.call (h.vs x hx) hb⟩
theorem c12 {L : List AcF} {a : Option Addr} {n c : Nat} (w : World) (h : CF w L a n c) : RetQ Try.prog 12 #[.slice a n c] w fun v _ => ∃ b : Bool, v = .bool b ∧ (b = true → L.length ≤ 100) := by
  intro R hR
  refine f12_calls a n c w R ?_
  unfold f12_vc
  have hn := h.sl.len_le
  refine ⟨fun v W' => At w [] W' ∧ ∃ k : Nat, v.2.1 = k ∧ k ≤ L.length, fun v _ => (n - v.2.1).toNat, ⟨At.refl w, 0, rfl, Nat.zero_le _⟩, ?_⟩
  rintro x3 x4 w5 ⟨hA, k, hk, hkl⟩
  simp only at hk
  subst hk
  refine brD (fun hlt => ?_) (fun hge => brD (fun hle => hR _ _ hA.below ⟨_, rfl, fun _ => by omega⟩) (fun hgt => hR _ _ hA.below ⟨_, rfl, fun e => by cases e⟩))
  obtain ⟨x, hx⟩ : ∃ x, L[k]? = some x := ⟨_, List.getElem?_eq_getElem (by omega)⟩
  obtain ⟨ad, g1, el, _⟩ := elt_at (P := Try.prog) (k := .i64) (t := 22) (h.sl.call hA.below) hx (e := 31) (by kernel_rfl) (by kernel_rfl)
  rw [succ_i k (by omega)]
  exact ⟨ad, g1, _, _, _, ((el.sub (o := 2) (by decide)).sub (o := 3) (by decide)).one (by kernel_rfl) (by simp), ⟨hA, k + 1, rfl, by omega⟩, by simp only; omega⟩
/-- The least time of all. -/
def minF (l : List TkT) (n : Int) : Prop := (∃ x ∈ l, x.2.2.1 = n) ∧ ∀ y ∈ l, n ≤ y.2.2.1
theorem c62 (h : FlX W B g cap D) (hG : GoodF D) (hl : lenD D ≤ 1000) : RetQ Try.prog 62 #[ptr g] W fun v _ => (allF D = [] ∧ v = .tuple #[.int .i64 0, .bool false]) ∨ ∃ n, v = .tuple #[.int .i64 n, .bool true] ∧ minF (allF D) n := by
  intro R hR
  refine f62_calls _ W R ?_
  unfold f62_vc
  refine at_callq (At.refl W) (c57 h hG hl) fun v w2 hA _ hb2 ⟨l, a, c, e, ho, hv, hs, hm⟩ => ?_
  subst e
  refine ⟨_, _, _, rfl, brE (fun h0 => hR _ _ hA.below (.inl ⟨?_, rfl⟩)) (fun h0 => ?_)⟩
  · have hl0 : l = [] := List.eq_nil_of_length_eq_zero (by omega)
    subst hl0
    exact List.eq_nil_iff_forall_not_mem.2 fun y hy => by have := (hm y).2 hy; cases this
  · refine at_callq hA (c114 (ho.sl fun _ _ => rfl) (by omega)) fun v w7 hA _ _ ⟨x, hx, e, hmin⟩ => ?_
    subst e
    refine ⟨_, _, _, _, _, _, rfl, hR _ _ hA.below (.inr ⟨_, rfl, ⟨x.1, (hm _).1 (List.mem_map.2 ⟨x, hx, rfl⟩), rfl⟩, fun y hy => ?_⟩)⟩
    obtain ⟨z, hz, rfl⟩ := List.mem_map.1 ((hm y).2 hy)
    exact hmin z hz
/-! ### No table -/
theorem c18n {t : Option Addr} (f0 f1 f2 : Int) (s : Sl3) (h : NoF W t) : Ret Try.prog 18 #[.pointer t, .agg #[.int .i64 f0, .int .i64 f1, .int .i64 f2, slW s]] W (.int .i64 40) := by
  intro R hR
  refine f18_calls _ _ _ _ _ _ _ W R ?_
  unfold f18_vc
  intro n1 hn1 w2 hb2 hu2
  have hA : At W [n1] w2 := ⟨((At.refl W).call hb2).chg, hu2⟩
  exact at_callb hA (c69n (h.call hb2)) fun w4 hA hk hb4 => ⟨_, rfl, hk, brNB (fun _ => leaf hR hA rfl) (fun e => by cases e)⟩
theorem c59n {t : Option Addr} (n : Int) (h : NoF W t) : Ret Try.prog 59 #[.pointer t, .int .i64 n] W (.int .i64 0) := by
  intro R hR
  refine f59_calls _ _ W R ?_
  unfold f59_vc
  refine opw_boxS (At.refl W) fun b w2 hb0 hA _ hb2 hblk => ⟨_, rfl, ?_⟩
  have : Ret Try.prog 110 #[.pointer t, .func (.func 111) #[] #[.pointer (some ⟨b, 0, none⟩)]] w2 (.int .i64 0) := by
    intro R hR
    refine f110_calls _ _ w2 R ?_
    unfold f110_vc
    exact at_callb (At.refl w2) (c69n (h.call hb2)) fun w4 hA hb4 _ => ⟨_, rfl, brNB (fun _ => leaf hR hA rfl) (fun e => by cases e)⟩
  exact at_callb hA this fun w5 hA _ _ => ⟨_, rfl, leaf hR hA rfl⟩
/-! ### Works -/
theorem fl_put {f : TR} {c : Int} {D' : FlD} {K : Ending → World → Prop} (hA : At w gs W) (h : FlX W B g cap D) (hB : ∀ b, B b → w.heap.size ≤ b) (hgs : ∀ b ∈ gs, ¬ B b) (hG : GoodF D) (hl : lenD D ≤ 1000) (hV : VecR W f) (hp : putD cap D f.1 = (c, D'))
    (hK : ∀ w', At w gs w' → Keeps gs W w' → Chg B W w' → FlX w' (fun b => B b ∨ W.heap.size ≤ b) g cap D' → K (.returned (.int .i64 c)) w') : Calls Try.prog 18 #[ptr g, trV f] W K :=
  at_callF hA (c18 h hG hl hV) (fun b _ hb => .inl (hB b hb)) hgs fun v w' hA hk hc ⟨e, hX⟩ => by
    rw [hp] at e hX
    subst e
    exact hK w' hA hk hc hX
theorem fl_exp {n c : Int} {D' : FlD} {K : Ending → World → Prop} (hA : At w gs W) (h : FlX W B g cap D) (hB : ∀ b, B b → w.heap.size ≤ b) (hgs : ∀ b ∈ gs, ¬ B b) (hG : GoodF D) (hl : lenD D ≤ 1000) (hp : ∀ res D2, goneR (goneP 3 n) D res D2 → res = c ∧ D2 = D')
    (hK : ∀ w', At w gs w' → Keeps gs W w' → Chg B W w' → FlX w' (fun b => B b ∨ W.heap.size ≤ b) g cap D' → K (.returned (.int .i64 c)) w') : Calls Try.prog 68 #[ptr g, .int .i64 n] W K :=
  at_callF hA (c68 h hG hl n) (fun b _ hb => .inl (hB b hb)) hgs fun v w' hA hk hc ⟨res, D2, e, hg, hX⟩ => by
    obtain ⟨rfl, rfl⟩ := hp _ _ hg
    subst e
    exact hK w' hA hk hc hX
theorem fl_blk {V : List PartT} {b : Bool} {f a : Int} {s : Sl3} {K : Ending → World → Prop} (hA : At w gs W) (h : FlX W B g cap D) (hV : SlE W 3 partE V s.1 s.2.1 s.2.2) (hb : blocksD D (f, a) V = b)
    (hK : ∀ w', At w gs w' → Keeps gs W w' → Bel W w' → K (.returned (.bool b)) w') : Calls Try.prog 15 #[ptr g, .int .i64 f, .int .i64 a, slW s] W K := by
  have := c15 h f a hV
  rw [hb] at this
  exact at_callb hA this hK
theorem c19 (w : World) : Ret Try.prog 19 #[] w (.bool true) := by
  intro R hR
  refine f19_calls w R ?_
  unfold f19_vc
  refine at_callq (At.refl w) (c13 2 w) fun v w2 hA _ hb2 hq => ?_
  rcases hq with ⟨hlt, _⟩ | ⟨_, g, e, hX⟩
  · omega
  subst e
  refine ⟨_, rfl, ?_⟩
  have hs2 := hb2.size
  refine opw_litL (e' := 73) (f := partE) (size := 3) (l := ([(0, 0, 2), (1, 0, 4)] : List PartT)) hA rfl (fun _ _ => rfl) (by decide) (by kernel_rfl) fun gv w5 hgv2 hA _ hb5 ho => ⟨_, _, _, rfl, ?_⟩
  have hX5 : FlX w5 (fun b => w.heap.size ≤ b ∧ b < w2.heap.size) g 2 [] := (hX.mono fun b hb h => ⟨h, hb⟩).call hb5
  intro n9 hn9 w10 hev hu
  have hb10 := hev.bel (by simpa using hn9)
  have hs5 := hb5.size
  have hs10 := hb10.size
  have hX10 := hX5.call hb10
  have hA10 : At w [n9] w10 := ⟨(hA.call hb10).chg, hu⟩
  have hn9' := hA10.under n9 (by simp)
  have hgv : SlE w10 3 partE ([(0, 0, 2), (1, 0, 4)] : List PartT) (some ⟨gv, 0, none⟩) 2 2 := SlR.call (ho.sl fun _ _ => rfl) hb10
  let f0 : TkT := (1, 5, 9, [(0, 0, 2), (1, 0, 4)])
  let D1 : FlD := [((1, 5), [f0])]
  have e1 : putD 2 [] f0 = (0, D1) := by kernel_rfl
  have e2 : putD 2 D1 f0 = (0, D1) := by kernel_rfl
  have hG1 : GoodF D1 := by
    have := GoodF.nil.put 2 f0
    rw [e1] at this
    exact this
  have hl1 : lenD D1 ≤ 1000 := by decide
  have hgv5 : gv < w5.heap.size := ho.lt gv rfl
  have hp8 : ∀ res D2, goneR (goneP 3 8) D1 res D2 → res = 0 ∧ D2 = D1 := by
    rintro res D2 ⟨Dp, hp, rfl, rfl⟩
    rw [List.perm_singleton.1 hp]
    exact ⟨by decide, by kernel_rfl⟩
  have hp9 : ∀ res D2, goneR (goneP 3 9) D1 res D2 → res = 1 ∧ D2 = [] := by
    rintro res D2 ⟨Dp, hp, rfl, rfl⟩
    rw [List.perm_singleton.1 hp]
    exact ⟨by decide, by kernel_rfl⟩
  refine fl_put (f := (f0, (some ⟨gv, 0, none⟩, 2, 2))) hA10 hX10 (fun b h => h.1) (fun b hb h => by simp at hb; have := h.2; omega) GoodF.nil (by decide) hgv e1 fun w12 hA12 hk12 hc12 hX12 => ⟨_, rfl, hk12, ?_⟩
  have hs12 := hc12.size
  have hgv12 : SlE w12 3 partE ([(0, 0, 2), (1, 0, 4)] : List PartT) (some ⟨gv, 0, none⟩) 2 2 := SlR.chg hgv hc12 fun b hb hn => by
    cases hb
    have := hn.2
    simp only at this
    omega
  have hB12 : ∀ b, ((w.heap.size ≤ b ∧ b < w2.heap.size) ∨ w10.heap.size ≤ b) → w.heap.size ≤ b := fun b h => h.elim And.left fun h => by omega
  refine fl_put (f := (f0, (some ⟨gv, 0, none⟩, 2, 2))) hA12 hX12 hB12 (fun b hb h => by simp at hb; rcases h with h | h <;> omega) hG1 hl1 hgv12 e2 fun w15 hA15 hk15 hc15 hX15 => ⟨_, rfl, hk15, ?_⟩
  have hs15 := hc15.size
  refine brE (fun _ => brE (fun _ => ?_) (fun e => absurd rfl e)) (fun e => absurd rfl e)
  refine at_callb hA15 (c65 hX15) fun w18 hA18 hk18 hb18 => ⟨_, rfl, hk18, brE (fun _ => ?_) (fun e => absurd rfl e)⟩
  have hX18 := hX15.call hb18
  refine opw_litL (e' := 73) (f := partE) (size := 3) (l := ([(0, 0, 2), (1, 0, 3)] : List PartT)) hA18 rfl (fun _ _ => rfl) (by decide) (by kernel_rfl) fun g2 w21 _ hA21 hk21 hb21 ho2 => ⟨_, _, _, rfl, hk21, ?_⟩
  have hX21 := hX18.call hb21
  refine fl_blk (s := (some ⟨g2, 0, none⟩, 2, 2)) hA21 hX21 (ho2.sl fun _ _ => rfl) (b := true) (by kernel_rfl) fun w26 hA26 hk26 hb26 => ⟨_, rfl, hk26, brB (fun _ => ?_) (fun e => by cases e)⟩
  have hX26 := hX21.call hb26
  refine opw_litL (e' := 73) (f := partE) (size := 3) (l := ([(0, 0, 3)] : List PartT)) hA26 rfl (fun _ _ => rfl) (by decide) (by kernel_rfl) fun g3 w29 _ hA29 hk29 hb29 ho3 => ⟨_, _, _, rfl, hk29, ?_⟩
  have hX29 := hX26.call hb29
  refine fl_blk (s := (some ⟨g3, 0, none⟩, 1, 1)) hA29 hX29 (ho3.sl fun _ _ => rfl) (b := false) (by kernel_rfl) fun w34 hA34 hk34 hb34 => ⟨_, rfl, hk34, brNB (fun _ => ?_) (fun e => by cases e)⟩
  have hX34 := hX29.call hb34
  have hB15 : ∀ b, (((w.heap.size ≤ b ∧ b < w2.heap.size) ∨ w10.heap.size ≤ b) ∨ w12.heap.size ≤ b) → w.heap.size ≤ b := fun b h => h.elim (hB12 b) fun h => by omega
  have hn15 : ∀ b ∈ [n9], ¬ (((w.heap.size ≤ b ∧ b < w2.heap.size) ∨ w10.heap.size ≤ b) ∨ w12.heap.size ≤ b) := fun b hb h => by simp at hb; rcases h with (h | h) | h <;> omega
  have hs18 := hb18.size
  have hs21 := hb21.size
  have hs26 := hb26.size
  have hs29 := hb29.size
  have hs34 := hb34.size
  refine fl_exp hA34 hX34 hB15 hn15 hG1 hl1 hp8 fun w37 hA37 hk37 hc37 hX37 => ⟨_, rfl, hk37, brE (fun _ => ?_) (fun e => absurd rfl e)⟩
  refine fl_exp hA37 hX37 (fun b h => h.elim (hB15 b) fun h => by omega) (fun b hb h => h.elim (hn15 b hb) fun h => by simp at hb; omega) hG1 hl1 hp9 fun w40 hA40 hk40 hc40 hX40 => ⟨_, rfl, hk40, leaf hR hA40 rfl⟩
/-! ### Acts -/
theorem do_one {x : AcF} {K : Ending → World → Prop} (hA : At w gs W) (h : FlX W B g cap D) (hB : ∀ b, B b → w.heap.size ≤ b) (hgs : ∀ b ∈ gs, ¬ B b) (hG : GoodF D) (hl : lenD D ≤ 1000) (hV : VecR W x.2.2)
    (hK : ∀ w' res D', At w gs w' → Keeps gs W w' → Chg B W w' → doneR cap D x.1 x.2.1 x.2.2.1 res D' → FlX w' (fun b => B b ∨ W.heap.size ≤ b) g cap D' → K (.returned (.int .i64 res)) w') : Calls Try.prog 14 #[ptr g, .agg #[.int .i64 x.1, .int .i64 x.2.1, .int .i64 x.2.2.1.1, .int .i64 x.2.2.1.2.1, .int .i64 x.2.2.1.2.2.1, slW x.2.2.2]] W K :=
  at_callF hA (c14 h hG hl x.1 x.2.1 hV) (fun b _ hb => .inl (hB b hb)) hgs fun v w' hA hk hc ⟨res, D', e, hd, hX⟩ => by
    subst e
    exact hK w' res D' hA hk hc hd hX
theorem doneR_good {kind n : Int} {f : TkT} {res : Int} {D' : FlD} (hG : GoodF D) (h : doneR cap D kind n f res D') : GoodF D' ∧ lenD D' ≤ lenD D + 1 := by
  unfold doneR at h
  split at h
  · have e : D' = (putD cap D f).2 := congrArg Prod.snd h
    subst e
    refine ⟨hG.put cap f, ?_⟩
    by_cases h1 : okF f
    · by_cases h2 : f ∈ allF D
      · unfold putD
        rw [if_neg fun hh => hh h1, if_pos (hG.mem_all.1 h2)]
        exact Nat.le_succ _
      · by_cases h3 : cap ≤ lenD D
        · unfold putD
          rw [if_neg fun hh => hh h1, if_neg fun hh => h2 (hG.mem_all.2 hh), if_pos h3]
          exact Nat.le_succ _
        · rw [hG.put_len h1 h2 h3]
          exact Nat.le_refl _
    · unfold putD
      rw [if_pos h1]
      exact Nat.le_succ _
  · obtain ⟨D1, hp, _, rfl⟩ := h
    refine ⟨hG.drop hp _, ?_⟩
    have h1 := lenD_drop_le (goneP kind n) D1
    rw [lenD_perm hp] at h1
    omega
/-! ### What one more blocks -/
theorem blocksD_iff {k : KyT} {V : List PartT} : blocksD D k V = true ↔ ∃ y ∈ rowD D k, holdsB y.2.2.2 V = true := by
  unfold blocksD
  rw [List.any_eq_true]
  rfl
theorem blocksD_mono {D' : FlD} {k : KyT} {V U : List PartT} (h : blocksD D k V = true) (hs : ∀ y ∈ rowD D k, y ∈ rowD D' k) (hv : holdsB V U = true) : blocksD D' k U = true := by
  obtain ⟨y, hy, hh⟩ := blocksD_iff.1 h
  exact blocksD_iff.2 ⟨y, hs y hy, holds_trans hh hv⟩
theorem least_l {a b : List PartT} (ha : vecB a = true) : holdsB a (leastL a b) = true := by
  by_cases hb : vecB b = true
  · obtain ⟨h1, h2⟩ := leastL_vec ha hb
    refine holds_iff.2 ⟨ha, h1, fun s => ?_⟩
    rw [h2]
    unfold mn
    split <;> omega
  · unfold leastL
    rw [if_neg fun hh => hb hh.2]
    exact holds_iff.2 ⟨ha, rfl, fun s => (amt_nonneg (vecB_iff.1 ha).1).1⟩
theorem least_r {a b : List PartT} (ha : vecB a = true) (hb : vecB b = true) : holdsB b (leastL a b) = true := by
  rw [least_comm ha hb]
  exact least_l hb
theorem put_rows {f : TkT} {k : KyT} : ∀ y ∈ rowD D k, y ∈ rowD (putD cap D f).2 k := fun y hy => by
  unfold putD
  split
  · exact hy
  · split
    · exact hy
    · split
      · exact hy
      · simp only
        rw [rowD_mset]
        split
        · rename_i h
          subst h
          exact insF_mem.2 (.inr hy)
        · exact hy
theorem put_in {f : TkT} (h : (putD cap D f).1 = 0) : okF f ∧ f ∈ rowD (putD cap D f).2 (keyK f) := by
  unfold putD at *
  split at h
  · cases h
  · rename_i hok
    refine ⟨Decidable.not_not.1 hok, ?_⟩
    rw [if_neg hok]
    split at h
    · rename_i hin
      rw [if_pos hin]
      exact hin
    · rename_i hin
      rw [if_neg hin]
      split at h
      · cases h
      · rename_i hc
        rw [if_neg hc]
        simp only
        rw [rowD_mset, if_pos rfl]
        exact insF_mem.2 (.inl rfl)
end Go.Vc.J

/- The arguments of filters' laws, read: acts, a filter. -/
set_option maxRecDepth 20000
namespace Go.Vc.J
open Go Go.Vc Go.Vc.V Go.RowKit
abbrev iG : GT := .int .i64
abbrev ptG : GT := .st (.pair iG (.pair iG (.pair iG .unit)))
abbrev PtA := Int × Int × Int × Unit
def ptOf (x : PtA) : PartT := (x.1, x.2.1, x.2.2.1)
theorem row_M {α β : Type} {w : World} {n : Nat} {R : α → List Value → Prop} {R' : β → List Value → Prop} {k : α → β} {l : List α} {a : Option Addr} {len c : Nat} (hs : SlR w n R l a len c) (hR : ∀ x cs, R x cs → R' (k x) cs) : SlR w n R' (l.map k) a len c := by
  refine ⟨by rw [List.length_map]; exact hs.1, hs.2.1, hs.2.2.1, hs.2.2.2.1, fun i y hy => ?_⟩
  rw [List.getElem?_map] at hy
  cases hx : l[i]? with
  | none => rw [hx] at hy; cases hy
  | some x =>
    rw [hx] at hy
    simp only [Option.map_some, Option.some.injEq] at hy
    subst hy
    obtain ⟨ad, cs, ha, hl, hcs, hr⟩ := hs.at_ hx
    exact ⟨ad, cs, ha, hl, hcs, hR _ _ hr⟩
theorem pt_R {w : World} {x : PtA} {cs : List Value} (h : ptG.R w x cs) : cs = partE (ptOf x) := by
  obtain ⟨c1, c2, rfl, ⟨rfl, _, _⟩, c3, c4, rfl, ⟨rfl, _, _⟩, c5, c6, rfl, ⟨rfl, _, _⟩, rfl⟩ := h
  rfl
theorem pts_V {w : World} {l : List PtA} {v : Value} (h : GT.V w (.sl ptG) l v) : ∃ a n c, v = .slice a n c ∧ SlE w 3 partE (l.map ptOf) a n c := by
  obtain ⟨a, n, c, hv, hs⟩ := h
  simp at hv
  exact ⟨a, n, c, hv, row_M hs fun _ _ => pt_R⟩
/-- A row, as a row of what its elements are. -/
theorem row_C {α β : Type} {w : World} {n : Nat} {R : α → List Value → Prop} {R' : β → List Value → Prop} {Q : β → Prop} {l : List α} {a : Option Addr} {len c : Nat} (hs : SlR w n R l a len c) (hR : ∀ x cs, R x cs → ∃ y, R' y cs ∧ Q y) : ∃ L, SlR w n R' L a len c ∧ ∀ y ∈ L, Q y := by
  have h : ∀ i : Fin l.length, ∃ y, (∃ ad cs, a = some ad ∧ cs.length = n ∧ (∀ (j : Nat) (v : Value), cs[j]? = some v → w.cell? ((ad.add (i.1 * n)).add j) = some v) ∧ R' y cs) ∧ Q y := fun i => by
    obtain ⟨ad, cs, ha, hl, hcs, hr⟩ := hs.at_ (List.getElem?_eq_getElem i.2)
    obtain ⟨y, hy, hq⟩ := hR _ _ hr
    exact ⟨y, ⟨ad, cs, ha, hl, hcs, hy⟩, hq⟩
  refine ⟨List.ofFn fun i => Classical.choose (h i), ⟨by rw [List.length_ofFn]; exact hs.1, hs.2.1, hs.2.2.1, hs.2.2.2.1, fun i y hy => ?_⟩, fun y hy => ?_⟩
  · obtain ⟨hi, rfl⟩ := List.getElem?_eq_some_iff.1 hy
    rw [List.getElem_ofFn]
    rw [List.length_ofFn] at hi
    exact (Classical.choose_spec (h ⟨i, hi⟩)).1
  · obtain ⟨i, hi, rfl⟩ := List.getElem_of_mem hy
    rw [List.getElem_ofFn]
    exact (Classical.choose_spec (h _)).2
abbrev flG : GT := .st (.pair iG (.pair iG (.pair iG (.pair (.sl ptG) .unit))))
abbrev afG : GT := .st (.pair iG (.pair iG (.pair flG .unit)))
theorem af_R {w : World} {x : afG.T} {cs : List Value} (h : afG.R w x cs) : ∃ y : AcF, cs = acfE y ∧ VecR w y.2.2 := by
  obtain ⟨c1, c2, rfl, ⟨rfl, _, _⟩, c3, c4, rfl, ⟨rfl, _, _⟩, c5, c6, rfl, hm, rfl⟩ := h
  obtain ⟨d1, d2, rfl, ⟨rfl, _, _⟩, d3, d4, rfl, ⟨rfl, _, _⟩, d5, d6, rfl, ⟨rfl, _, _⟩, d7, d8, rfl, ⟨a, n, c, rfl, hs⟩, rfl⟩ := hm
  exact ⟨(x.1, x.2.1, ((x.2.2.1.1, x.2.2.1.2.1, x.2.2.1.2.2.1, x.2.2.1.2.2.2.1.map ptOf), (a, n, c))), rfl, row_M hs fun _ _ => pt_R⟩
theorem afs_V {w : World} {l : (GT.sl afG).T} {v : Value} (h : GT.V w (.sl afG) l v) : ∃ L a n c, v = .slice a n c ∧ CF w L a n c := by
  obtain ⟨a, n, c, hv, hs⟩ := h
  simp at hv
  obtain ⟨L, h1, h2⟩ := row_C hs (R' := fun y cs => cs = acfE y) (Q := fun y => VecR w y.2.2) fun _ _ => af_R
  exact ⟨L, a, n, c, hv, h1, h2⟩
theorem fl_V {w : World} {x : flG.T} {v : Value} (h : GT.V w flG x v) : ∃ y : TR, v = trV y ∧ VecR w y := by
  obtain ⟨cs, rfl, d1, d2, rfl, ⟨rfl, _, _⟩, d3, d4, rfl, ⟨rfl, _, _⟩, d5, d6, rfl, ⟨rfl, _, _⟩, d7, d8, rfl, ⟨a, n, c, rfl, hs⟩, rfl⟩ := h
  exact ⟨((x.1, x.2.1, x.2.2.1, x.2.2.2.1.map ptOf), (a, n, c)), rfl, row_M hs fun _ _ => pt_R⟩
end Go.Vc.J

/- Filters: what one more blocks: the walk. -/
set_option maxRecDepth 20000
set_option maxHeartbeats 2000000
namespace Go.Vc.J
open Go Go.Vc Go.Vc.V Go.RowKit Go.Proofs Vct

variable {w W W' W2 : World} {M N : Nat → Prop} {gs ds : List Nat} {g r : Nat} {cap long : Int} {m : FlM} {B : Nat → Prop} {D : FlD}

theorem law3 {L : List AcF} {a : Option Addr} {n c : Nat} {f : TR} {V : List PartT} {s : Sl3} (w : World) (har : CF w L a n c) (hf : VecR w f) (hV : SlE w 3 partE V s.1 s.2.1 s.2.2) : Ret Try.prog 3 #[.slice a n c, trV f, slW s] w (.bool true) := by
  intro R hR
  refine f3_calls a n c _ _ _ _ _ _ _ _ _ w R ?_
  unfold f3_vc
  have hn := har.sl.len_le
  intro n1 hn1 w2 hb2 hu2
  have hA : At w [n1] w2 := ⟨((At.refl w).call hb2).chg, hu2⟩
  refine at_callq hA (c12 w2 (har.call hb2)) fun v w4 hA hk hb4 ⟨b, e, hfew⟩ => ?_
  subst e
  refine ⟨_, rfl, hk, brNB (fun _ => leaf hR hA rfl) (fun hb => brD (fun _ => leaf hR hA rfl) (fun hv150 => brD (fun _ => leaf hR hA rfl) (fun hf150 => ?_)))⟩
  have hfew := hfew hb
  refine at_callq hA (c13 1000 w4) fun v w7 hA hk hb7 hq => ?_
  rcases hq with ⟨hlt, _⟩ | ⟨_, g, e, hX⟩
  · omega
  subst e
  have hs4 := (hb2.trans hb4).size
  have hn17 := hA.under n1 (by simp)
  refine ⟨_, rfl, hk, fun v W' => At w [n1] W' ∧ ∃ (i : Nat) (D : FlD) (B : Nat → Prop), v.1 = i ∧ i ≤ L.length ∧ FlX W' B g 1000 D ∧ GoodF D ∧ lenD D ≤ i ∧ (∀ b, B b → w.heap.size ≤ b) ∧ ¬ B n1, fun v _ => ((n : Int) - v.1).toNat, ⟨hA, 0, [], fun b => w.heap.size ≤ b ∧ b ≠ n1, rfl, Nat.zero_le _, hX.mono fun b _ hh => ⟨by omega, ?_⟩, GoodF.nil, Nat.zero_le _, fun b h => h.1, fun h => h.2 rfl⟩, ?_⟩
  · have := (show At w [n1] w4 from ⟨(((At.refl w).call hb2).call hb4).chg, fun q hq => Nat.lt_of_lt_of_le (hu2 q hq) hb4.size⟩).under n1 (by simp)
    omega
  rintro x11 w12 ⟨hA, i, D, B, hi, hil, hX, hG, hlD, hB, hBn⟩
  simp only at hi
  subst hi
  have hn12 := hA.under n1 (by simp)
  refine brD (fun hlt => ?_) (fun hge => ?_)
  · obtain ⟨x, hx⟩ : ∃ x, L[i]? = some x := ⟨_, List.getElem?_eq_getElem (by omega)⟩
    obtain ⟨ad, g1, el, _⟩ := elt_at (P := Try.prog) (k := .i64) (t := 22) (har.sl.call hA.below) hx (e := 31) (by kernel_rfl) (by kernel_rfl)
    refine ⟨ad, g1, _, _, _, _, _, _, _, _, el.agg 6 (by kernel_rfl) (by kernel_rfl) (by simp) (by simp), ?_⟩
    refine do_one hA hX hB (fun b hb hh => by rw [List.mem_singleton] at hb; exact hBn (hb ▸ hh)) hG (by omega) (SlR.call (har.vs x (List.mem_of_getElem? hx)) hA.below) fun w23 res D' hA hk hc hd hX => ⟨_, rfl, hk, ?_⟩
    obtain ⟨hG', hl'⟩ := doneR_good hG hd
    have hsz := (show w.heap.size ≤ w12.heap.size by omega)
    rw [succ_i i (by omega)]
    exact ⟨⟨hA, i + 1, D', _, rfl, by omega, hX, hG', by omega, fun b h => h.elim (hB b) fun h => by omega, fun h => h.elim hBn fun h => by omega⟩, by simp only; omega⟩
  · have hl1000 : lenD D ≤ 1000 := by omega
    have hwas := c15 hX f.1.1 f.1.2.1 (SlR.call hV hA.below)
    generalize hw : blocksD D (f.1.1, f.1.2.1) V = was at hwas
    refine at_callb hA hwas fun w26 hA hk26 hb26 => ⟨_, rfl, hk26, ?_⟩
    have hX26 := hX.call hb26
    refine (c16 w26 (SlR.call hV hA.below) (SlR.call hf hA.below)) _ fun v w29 hb29 hrow => ?_
    have ho29 : OwnF w noB [n1] w29 73 3 partE v (leastL V f.1.2.2.2) := OwnF.ret hA hrow rfl rfl
    obtain ⟨a30, c32, rfl, hs30⟩ := ho29.slice fun _ _ => rfl
    have hfresh : ∀ ad, a30 = some ad → w26.heap.size ≤ ad.block := fun ad he => (hrow.lt ad.block (by rw [he]; rfl)).1
    have hA29 := hA.call hb29
    have hX29 : FlX w29 (fun b => B b ∧ b < w26.heap.size) g 1000 D := (hX26.mono fun b hb h => ⟨h, hb⟩).call hb29
    have hsz26 := hA.size
    have hBn' : ∀ b ∈ [n1], ¬ (B b ∧ b < w26.heap.size) := fun b hb hh => by rw [List.mem_singleton] at hb; exact hBn (hb ▸ hh.1)
    have hVv : ∀ {W1}, At w [n1] W1 → Ret Try.prog 17 #[slW s] W1 (.bool (vecB V)) := fun hA => c17 _ (SlR.call hV hA.below)
    refine ⟨_, _, _, rfl, hA.keeps hb29, fun _ W' => At w [n1] W' ∧ Bel w29 W', ⟨fun hwt => ?_, fun _ => ⟨hA29, Bel.refl _⟩⟩, ?_⟩
    · refine at_callb hA29 (hVv hA29) fun w35 hA35 hk35 hb35 => ⟨_, rfl, hk35, fun hvv => ?_, fun _ => ⟨hA35, hb35⟩⟩
      have hc15 := c15 (hX29.call hb35) f.1.1 f.1.2.1 (s := (a30, (leastL V f.1.2.2.2).length, c32)) (hs30.call hb35)
      have hbl : blocksD D (f.1.1, f.1.2.1) (leastL V f.1.2.2.2) = true := blocksD_mono (by rw [hw]; exact hwt) (fun _ h => h) (least_l hvv)
      rw [hbl] at hc15
      exact at_callb hA35 hc15 fun w38 hA38 hk38 hb38 => ⟨_, rfl, hk38, brNB (fun e => by cases e) (fun _ => ⟨hA38, hb35.trans hb38⟩)⟩
    · rintro w40 ⟨hA40, hb40⟩
      have hX40 := hX29.call hb40
      refine fl_put hA40 hX40 (fun b h => hB b h.1) hBn' hG hl1000 (SlR.call hf hA40.below) (c := (putD 1000 D f.1).1) (D' := (putD 1000 D f.1).2) rfl fun w42 hA42 hk42 hc42 hX42 => ⟨_, rfl, hk42, ?_⟩
      have hs42 : SlE w42 3 partE (leastL V f.1.2.2.2) a30 (leastL V f.1.2.2.2).length c32 := SlR.chg (hs30.call hb40) hc42 fun ad he hn => by
        have := hfresh ad he
        have := hn.2
        omega
      generalize he0 : (putD 1000 D f.1).1 = e0
      have hb1 : was = true → blocksD (putD 1000 D f.1).2 (f.1.1, f.1.2.1) V = true := fun h => by
        obtain ⟨y, hy, hh⟩ := blocksD_iff.1 (hw.trans h)
        exact blocksD_iff.2 ⟨y, put_rows y hy, hh⟩
      have hb2 : e0 = 0 → blocksD (putD 1000 D f.1).2 (f.1.1, f.1.2.1) f.1.2.2.2 = true := fun h => by
        obtain ⟨h1, h2⟩ := put_in (he0.trans h)
        exact blocksD_iff.2 ⟨_, h2, by rw [holds_self]; exact h1.2.2.2.2⟩
      have hb3 : e0 = 0 → vecB V = true → blocksD (putD 1000 D f.1).2 (f.1.1, f.1.2.1) (leastL V f.1.2.2.2) = true := fun h hv => by
        obtain ⟨h1, h2⟩ := put_in (he0.trans h)
        exact blocksD_iff.2 ⟨_, h2, least_r hv h1.2.2.2.2⟩
      generalize (putD 1000 D f.1).2 = D' at hX42 hb1 hb2 hb3
      have kk : ∀ {W1 : World} {U : List PartT} {t : Sl3} {K : World → Prop}, At w [n1] W1 → Bel w42 W1 → SlE w42 3 partE U t.1 t.2.1 t.2.2 → blocksD D' (f.1.1, f.1.2.1) U = true → (∀ W2, At w [n1] W2 → Bel w42 W2 → K W2) →
          Calls Try.prog 15 #[ptr g, .int .i64 f.1.1, .int .i64 f.1.2.1, slW t] W1 fun e w' => ∃ b, e = .returned (.bool b) ∧ Keeps [n1] W1 w' ∧ ((!b) = true → R (.returned (.bool false)) w') ∧ ((!b) = false → K w') := fun hA hb hU hbl hK =>
        fl_blk hA (hX42.call hb) (SlR.call hU hb) hbl fun W2 hA2 hk2 hb2 => ⟨_, rfl, hk2, brNB (fun e => by cases e) (fun _ => hK W2 hA2 (hb.trans hb2))⟩
      have hbw42 := hA42.below
      have t3 : ∀ {W1 : World}, At w [n1] W1 → Bel w42 W1 → e0 = 0 → Calls Try.prog 17 #[slW s] W1 fun e51 w52 => ∃ b53, e51 = .returned (.bool b53) ∧ Keeps [n1] W1 w52 ∧ (b53 = true → Calls Try.prog 15 #[ptr g, .int .i64 f.1.1, .int .i64 f.1.2.1, .slice a30 (leastL V f.1.2.2.2).length c32] w52 fun e54 w55 => ∃ b56, e54 = .returned (.bool b56) ∧ Keeps [n1] w52 w55 ∧ ((!b56) = true → R (.returned (.bool false)) w55) ∧ ((!b56) = false → At w [n1] w55)) ∧ (b53 = false → At w [n1] w52) := fun hA hb he =>
        at_callb hA (hVv hA) fun w52 hA52 hk52 hb52 => ⟨_, rfl, hk52, fun hv => kk (t := (a30, (leastL V f.1.2.2.2).length, c32)) hA52 (hb.trans hb52) hs42 (hb3 he hv) fun _ h _ => h, fun _ => hA52⟩
      have t2 : ∀ {W1 : World}, At w [n1] W1 → Bel w42 W1 → e0 = 0 → _ := fun {W1} hA hb he => kk (W1 := W1) (t := f.2) hA hb (SlR.call hf hbw42) (hb2 he) fun W2 hA2 hb2 => brE (x := e0) (y := 0) (fun he => t3 hA2 hb2 he) (fun _ => hA2)
      refine ⟨fun _ W' => At w [n1] W', ⟨fun hwt => ?_, fun hwf => ?_⟩, ?_⟩
      · refine kk (t := s) hA42 (Bel.refl _) (SlR.call hV hbw42) (hb1 hwt) fun W2 hA2 hb2 => brE (fun he => t2 hA2 hb2 he) (fun hne => brE (fun he => absurd he hne) (fun _ => hA2))
      · exact brE (fun he => t2 hA42 (Bel.refl _) he) (fun hne => brE (fun he => absurd he hne) (fun _ => hA42))
      · rintro w78 hA78
        exact at_callb hA78 (c19 w78) fun w80 hA80 hk80 _ => ⟨_, rfl, hk80, leaf hR hA80 rfl⟩
end Go.Vc.J

/- Filters: those that go: the walk. -/
set_option maxRecDepth 20000
set_option maxHeartbeats 2000000
namespace Go.Vc.J
open Go Go.Vc Go.Vc.V Go.RowKit Go.Proofs Vct

variable {w W W' W2 : World} {M N : Nat → Prop} {gs ds : List Nat} {g r : Nat} {cap long : Int} {m : FlM} {B : Nat → Prop} {D : FlD}

def goK (kind n : Int) (y : TkT) : Prop := (kind ≤ 1 ∧ y.1 = n) ∨ (kind = 2 ∧ y.2.1 = n) ∨ (3 ≤ kind ∧ y.2.2.1 ≤ n)
instance (kind n : Int) (y : TkT) : Decidable (goK kind n y) := by unfold goK; infer_instance
def cl3 (kind : Int) : Int := if (if kind < 3 then kind else 3) > 1 then (if kind < 3 then kind else 3) else 1
theorem goK_iff (kind n : Int) (y : TkT) : goK kind n y ↔ (kind ≤ 1 ∧ y.1 = n) ∨ (kind = 2 ∧ y.2.1 = n) ∨ (3 ≤ kind ∧ y.2.2.1 ≤ n) := Iff.rfl
theorem cl3_go (kind n : Int) (y : TkT) : goneP (cl3 kind) n y = decide (goK kind n y) := by
  rw [Bool.eq_iff_iff, decide_eq_true_iff, goK_iff]
  by_cases h1 : kind ≤ 1
  · have e : cl3 kind = 1 := by unfold cl3; rw [if_pos (show kind < 3 by omega), if_neg (by omega)]
    unfold goneP
    rw [e, if_pos rfl, decide_eq_true_iff]
    omega
  · by_cases h2 : kind = 2
    · have e : cl3 kind = 2 := by subst h2; rfl
      unfold goneP
      rw [e, if_neg (by decide), if_pos rfl, decide_eq_true_iff]
      omega
    · have e : cl3 kind = 3 := by unfold cl3; rw [if_neg (show ¬ kind < 3 by omega), if_pos (by decide)]
      unfold goneP
      rw [e, if_neg (by decide), if_neg (by decide), decide_eq_true_iff]
      omega
theorem cl3_ne (kind : Int) : cl3 kind ≠ 0 := by
  unfold cl3
  split <;> (try split at *) <;> omega
theorem filter_pre {p : TkT → Bool} {l : List TkT} {i : Nat} {x : TkT} (hx : l[i]? = some x) (hp : p x = true) : (l.filter p)[((l.take i).filter p).length]? = some x := by
  have h1 : l = l.take i ++ x :: l.drop (i + 1) := by
    rw [← drop_cons hx, List.take_append_drop]
  have h2 : l.filter p = (l.take i).filter p ++ x :: (l.drop (i + 1)).filter p := by
    conv => lhs; rw [h1]
    rw [List.filter_append, List.filter_cons, if_pos hp]
  rw [h2, List.getElem?_append_right (Nat.le_refl _), Nat.sub_self]
  rfl
theorem filter_two (p : TkT → Bool) : ∀ l : List TkT, (l.filter p).length + (l.filter fun y => !p y).length = l.length
  | [] => rfl
  | x :: l => by
    have := filter_two p l
    rw [List.filter_cons, List.filter_cons]
    cases h : p x <;> simp <;> omega
theorem law10 {L : List AcF} {a : Option Addr} {n c : Nat} (kind k0 : Int) (w : World) (har : CF w L a n c) : Ret Try.prog 10 #[.slice a n c, .int .i64 kind, .int .i64 k0] w (.bool true) := by
  intro R hR
  refine f10_calls a n c kind k0 w R ?_
  unfold f10_vc
  have hn := har.sl.len_le
  refine at_callq (At.refl w) (c12 w har) fun v w2 hA _ hb2 ⟨b, e, hfew⟩ => ?_
  subst e
  refine ⟨_, rfl, brNB (fun _ => leaf hR hA rfl) (fun hb => ?_)⟩
  have hfew := hfew hb
  refine at_callq hA (c13 1000 w2) fun v w5 hA _ hb5 hq => ?_
  rcases hq with ⟨hlt, _⟩ | ⟨_, g, e, hX⟩
  · omega
  subst e
  have hs2 := hb2.size
  refine ⟨_, rfl, fun v W' => At w [] W' ∧ ∃ (i : Nat) (D : FlD) (B : Nat → Prop), v.1 = i ∧ i ≤ L.length ∧ FlX W' B g 1000 D ∧ GoodF D ∧ lenD D ≤ i ∧ (∀ b, B b → w.heap.size ≤ b), fun v _ => ((n : Int) - v.1).toNat, ⟨hA, 0, [], fun b => w.heap.size ≤ b, rfl, Nat.zero_le _, hX.mono fun b _ hh => by omega, GoodF.nil, Nat.zero_le _, fun b h => h⟩, ?_⟩
  rintro x9 w10 ⟨hA, i, D, B, hi, hil, hX, hG, hlD, hB⟩
  simp only at hi
  subst hi
  refine brD (fun hlt => ?_) (fun hge => ?_)
  · obtain ⟨x, hx⟩ : ∃ x, L[i]? = some x := ⟨_, List.getElem?_eq_getElem (by omega)⟩
    obtain ⟨ad, g1, el, _⟩ := elt_at (P := Try.prog) (k := .i64) (t := 22) (har.sl.call hA.below) hx (e := 31) (by kernel_rfl) (by kernel_rfl)
    refine ⟨ad, g1, _, _, _, _, _, _, _, _, el.agg 6 (by kernel_rfl) (by kernel_rfl) (by simp) (by simp), ?_⟩
    have hsz := hA.size
    refine do_one hA hX hB (fun b hb => by cases hb) hG (by omega) (SlR.call (har.vs x (List.mem_of_getElem? hx)) hA.below) fun w23 res D' hA hk hc hd hX => ⟨_, rfl, ?_⟩
    obtain ⟨hG', hl'⟩ := doneR_good hG hd
    rw [succ_i i (by omega)]
    exact ⟨⟨hA, i + 1, D', _, rfl, by omega, hX, hG', by omega, fun b h => h.elim (hB b) fun h => by omega⟩, by simp only; omega⟩
  · have hl1000 : lenD D ≤ 1000 := by omega
    have hsz10 := hA.size
    refine at_callq hA (c57 hX hG hl1000) fun v w24 hA _ hb24 ⟨l1, a25, c27, e, ho1, hv1, hs1, hm1⟩ => ⟨_, _, _, congrArg Ending.returned e, ?_⟩
    have hX24 : FlX w24 (fun b => B b ∧ b < w10.heap.size) g 1000 D := (hX.mono fun b hb h => ⟨h, hb⟩).call hb24
    refine do_one (x := (cl3 kind, k0, ((0, 0, 0, []), (none, 0, 0)))) hA hX24 (fun b h => hB b h.1) (fun b hb => by cases hb) hG hl1000 ⟨rfl, Nat.le_refl _, Nat.zero_le _, fun _ => rfl, fun i x hx => by simp at hx⟩ fun w29 res D' hA hk hc29 hd hX29 => ⟨_, rfl, ?_⟩
    obtain ⟨hG', hl'⟩ := doneR_good hG hd
    have hsz24 := hb24.size
    have ho29 := ho1.chg hc29 fun k hk hn => by
      have h1 := (ho1.mine k hk).resolve_right id
      have := hn.2
      omega
    have hv29 : ∀ x ∈ l1, VX w10 w29 x := fun x hx => (hv1 x hx).far hc29 fun b hn => hn.2
    refine at_callq hA (c57 hX29 hG' (by omega)) fun v w32 hA _ hb32 ⟨l2, a33, c35, e, ho2, hv2, hs2', hm2⟩ => ⟨_, _, _, congrArg Ending.returned e, ?_⟩
    have sl1 : SlE w32 4 trE l1 a25 l1.length c27 := (ho29.sl fun _ _ => rfl).call hb32
    have vv1 : ∀ x ∈ l1, VecR w32 x := fun x hx => ((hv29 x hx).call hb32).1.1
    have sl2 : SlE w32 4 trE l2 a33 l2.length c35 := ho2.sl fun _ _ => rfl
    have vv2 : ∀ x ∈ l2, VecR w32 x := fun x hx => (hv2 x hx).1.1
    obtain ⟨hgone, hL2⟩ : res = (lenD D : Int) - lenD D' ∧ l2.map (·.1) = (l1.map (·.1)).filter fun y => !decide (goK kind k0 y) := by
      unfold doneR at hd
      rw [if_neg (cl3_ne kind)] at hd
      obtain ⟨D1, hp, hres, hD'⟩ := hd
      refine ⟨by rw [hres, hD'], srtF_ext hs2' (hs1.sublist List.filter_sublist) fun y => ?_⟩
      rw [hm2, hD', drop_all hp, List.mem_filter, hm1]
      rw [show goneP (cl3 kind, k0, (((0, 0, 0, []) : TkT), ((none, 0, 0) : Sl3))).1 (cl3 kind, k0, (((0, 0, 0, []) : TkT), ((none, 0, 0) : Sl3))).2.1 y = decide (goK kind k0 y) from cl3_go kind k0 y]
      simp
    have hlen1 : l1.length = lenD D := by
      have hp : (l1.map (·.1)).Perm (allF D) := (List.perm_ext_iff_of_nodup hs1.nodup hG.nodup).2 hm1
      have := hp.length_eq
      rwa [List.length_map, ← lenD_all] at this
    have hlen2 : l2.length = lenD D' := by
      have hp : (l2.map (·.1)).Perm (allF D') := (List.perm_ext_iff_of_nodup hs2'.nodup hG'.nodup).2 hm2
      have := hp.length_eq
      rwa [List.length_map, ← lenD_all] at this
    have h2len := congrArg List.length hL2
    rw [List.length_map] at h2len
    have htwo := filter_two (fun y => decide (goK kind k0 y)) (l1.map (·.1))
    rw [List.length_map] at htwo
    have hw32 := hA.size
    refine ⟨fun v W' => At w [] W' ∧ Bel w32 W' ∧ ∃ (i : Nat), v.2.2.1 = i ∧ i ≤ l1.length ∧ v.2.1 = (((l1.map (·.1)).take i).filter fun y => !decide (goK kind k0 y)).length ∧ v.1 = res - (((l1.map (·.1)).take i).filter fun y => decide (goK kind k0 y)).length, fun v _ => ((l1.length : Int) - v.2.2.1).toNat, ⟨hA, Bel.refl _, 0, rfl, Nat.zero_le _, by simp, by simp⟩, ?_⟩
    rintro x38 x39 x40 w41 ⟨hA, hb41, i, e40, hil1, e39, e38⟩
    simp only at e40 e39 e38
    subst e40
    refine brD (fun hlt => ?_) (fun hge => ?_)
    · obtain ⟨y, hy⟩ : ∃ y, l1[i]? = some y := ⟨_, List.getElem?_eq_getElem (by omega)⟩
      have hym := List.mem_of_getElem? hy
      have hyp : (l1.map (·.1))[i]? = some y.1 := by rw [List.getElem?_map, hy]; rfl
      have tk : ∀ p : TkT → Bool, ((l1.map (·.1)).take (i + 1)).filter p = ((l1.map (·.1)).take i).filter p ++ (if p y.1 = true then [y.1] else []) := fun p => by
        rw [List.take_add_one, hyp, List.filter_append]
        cases hpy : p y.1 <;> simp [hpy]
      have hcl := List.length_filter_le (fun y => decide (goK kind k0 y)) ((l1.map (·.1)).take i)
      rw [List.length_take, List.length_map] at hcl
      have hcl2 := List.length_filter_le (fun y => !decide (goK kind k0 y)) ((l1.map (·.1)).take i)
      rw [List.length_take, List.length_map] at hcl2
      obtain ⟨ad, g1, el, _⟩ := elt_at (P := Try.prog) (k := .i64) (t := 111) (sl1.call hb41) hy (e := 25) (by kernel_rfl) (by kernel_rfl)
      refine ⟨fun v W' => At w [] W' ∧ Bel w32 W' ∧ v.2.1 = (((l1.map (·.1)).take (i + 1)).filter fun y => !decide (goK kind k0 y)).length ∧ v.1 = res - (((l1.map (·.1)).take (i + 1)).filter fun y => decide (goK kind k0 y)).length, ?_, ?_⟩
      · refine ⟨ad, g1, _, _, _, _, _, _, el.agg 4 (by kernel_rfl) (by kernel_rfl) (by simp) (by simp), fun n50 hn50 => ?_⟩
        have evA : ∀ {w52 : World}, Evo [n50] w41 w52 → Under [n50] w52 → At w [n50] w52 ∧ Bel w32 w52 := fun hev hu => by
          have hb := hev.bel (by simpa using hn50)
          exact ⟨⟨(hA.call hb).chg, hu⟩, hb41.trans hb⟩
        have skip : ∀ {w52 : World}, Evo [n50] w41 w52 → Under [n50] w52 → goK kind k0 y.1 → (At w [] w52 ∧ Bel w32 w52 ∧ x39 = (((l1.map (·.1)).take (i + 1)).filter fun y => !decide (goK kind k0 y)).length ∧ IntKind.i64.wrap (x38 - 1) = res - (((l1.map (·.1)).take (i + 1)).filter fun y => decide (goK kind k0 y)).length) := fun hev hu hg => by
          obtain ⟨h1, h2⟩ := evA hev hu
          refine ⟨h1.sub (by simp), h2, ?_, ?_⟩
          · rw [tk, if_neg (by simp [hg]), List.append_nil, e39]
          · rw [tk, if_pos (by simp [hg]), List.length_append, List.length_singleton, e38, wrap_i64 (by omega) (by omega)]
            omega
        refine ⟨fun v W' => At w [n50] W' ∧ Bel w32 W' ∧ ¬ goK kind k0 y.1 ∧ v.1 = x38, ?_, ?_⟩
        · have keep : ∀ {w52 : World}, Evo [n50] w41 w52 → Under [n50] w52 → ¬ goK kind k0 y.1 → (At w [n50] w52 ∧ Bel w32 w52 ∧ ¬ goK kind k0 y.1 ∧ x38 = x38) := fun hev hu hg => ⟨(evA hev hu).1, (evA hev hu).2, hg, rfl⟩
          unfold goK at skip keep
          exact brD (fun k1 => brE (fun e1 w52 hev hu => skip hev hu (by omega)) (fun e1 => brE (fun k2 => brE (fun e2 w52 hev hu => skip hev hu (by omega)) (fun e2 => brD (fun k3 => brD (fun e3 w52 hev hu => skip hev hu (by omega)) (fun e3 w52 hev hu => keep hev hu (by omega))) (fun k3 w52 hev hu => keep hev hu (by omega)))) (fun k2 => brD (fun k3 => brD (fun e3 w52 hev hu => skip hev hu (by omega)) (fun e3 w52 hev hu => keep hev hu (by omega))) (fun k3 w52 hev hu => keep hev hu (by omega))))) (fun k1 => brE (fun k2 => brE (fun e2 w52 hev hu => skip hev hu (by omega)) (fun e2 => brD (fun k3 => brD (fun e3 w52 hev hu => skip hev hu (by omega)) (fun e3 w52 hev hu => keep hev hu (by omega))) (fun k3 w52 hev hu => keep hev hu (by omega)))) (fun k2 => brD (fun k3 => brD (fun e3 w52 hev hu => skip hev hu (by omega)) (fun e3 w52 hev hu => keep hev hu (by omega))) (fun k3 w52 hev hu => keep hev hu (by omega))))
        · rintro x67 w68 ⟨hA68, hb68, hng, e67⟩
          simp only at e67
          subst e67
          have hk := filter_pre (p := fun y => !decide (goK kind k0 y)) hyp (by simp [hng])
          rw [← hL2] at hk
          have hkl := (List.getElem?_eq_some_iff.1 hk).1
          rw [List.length_map] at hkl
          generalize hkk : (((l1.map (·.1)).take i).filter fun y => !decide (goK kind k0 y)).length = kk at hk hkl e39
          subst e39
          obtain ⟨z, hz, hze⟩ : ∃ z, l2[kk]? = some z ∧ z.1 = y.1 := by
            rw [List.getElem?_map] at hk
            cases hz : l2[kk]? with
            | none => rw [hz] at hk; cases hk
            | some z => rw [hz] at hk; exact ⟨z, rfl, Option.some.inj hk⟩
          refine brD (fun hh => by omega) (fun _ => ?_)
          obtain ⟨ad2, g2, el2, _⟩ := elt_at (P := Try.prog) (k := .i64) (t := 111) (sl2.call hb68) hz (e := 25) (by kernel_rfl) (by kernel_rfl)
          rw [show trE z = [.int .i64 y.1.1, .int .i64 y.1.2.1, .int .i64 y.1.2.2.1, slW z.2] from by rw [← hze]] at el2
          refine ⟨ad2, g2, _, el2.one (by kernel_rfl) (by simp), brN (fun hh => absurd rfl hh) (fun _ => ?_)⟩
          refine ⟨ad2, g2, _, (el2.sub (o := 1) (by decide)).one (by kernel_rfl) (by simp), brN (fun hh => absurd rfl hh) (fun _ => ?_)⟩
          refine ⟨ad2, g2, _, (el2.sub (o := 2) (by decide)).one (by kernel_rfl) (by simp), brN (fun hh => absurd rfl hh) (fun _ => ?_)⟩
          refine ⟨ad2, g2, _, _, _, (el2.sub (o := 3) (by decide)).one (by kernel_rfl) (by simp), fun w83 hb83 hu83 => ?_⟩
          have hA83 : At w [n50] w83 := ⟨(hA68.call hb83).chg, hu83⟩
          have hb83' := hb68.trans hb83
          refine at_callb hA83 (c58 w83 (SlR.call (vv2 z (List.mem_of_getElem? hz)) hb83') (SlR.call (vv1 y hym) hb83')) fun w85 hA85 hk85 hb85 => ⟨_, rfl, hk85, ?_⟩
          have el85 := el2.below (hb83.trans hb85)
          refine ⟨(el85.sub (o := 2) (by decide)).one (by kernel_rfl) (by simp), (el85.sub (o := 1) (by decide)).one (by kernel_rfl) (by simp), el85.one (by kernel_rfl) (by simp), brNB (fun hh => absurd (show z.1.2.2.2 = y.1.2.2.2 by rw [hze]) (of_decide_eq_false hh)) (fun _ => ?_)⟩
          refine ⟨hA85.sub (by simp), hb83'.trans hb85, ?_, ?_⟩
          · rw [tk, if_pos (by simp [hng]), List.length_append, List.length_singleton, hkk, succ_i kk (by omega)]
          · rw [tk, if_neg (by simp [hng]), List.append_nil]
            exact e38
      · rintro x87 x88 w89 ⟨hA89, hb89, e88, e87⟩
        simp only at e88 e87
        rw [succ_i i (by omega)]
        exact ⟨⟨hA89, hb89, i + 1, rfl, by omega, e88, e87⟩, by simp only; omega⟩
    · have hi : i = l1.length := by omega
      rw [hi, List.take_of_length_le (by rw [List.length_map]; exact Nat.le_refl _)] at e39 e38
      have h38 : x38 = 0 := by omega
      have h39 : x39 = l2.length := by omega
      refine opw_allocS (zv := .agg #[.int .i64 0, .int .i64 0, .map none]) ([.int .i64 0, .int .i64 0, .map none] : List Value) (by kernel_rfl) (by kernel_rfl) hA fun gp w91 hgp hA _ hb91 hblk => ⟨_, rfl, ?_⟩
      refine opw_litL (e' := 73) (f := partE) (size := 3) (l := ([(0, 0, 1)] : List PartT)) hA rfl (fun _ _ => rfl) (by decide) (by kernel_rfl) fun gv w94 _ hA _ hb94 ho => ⟨_, _, _, rfl, ?_⟩
      intro n98 hn98
      have hno : NoF w94 (some ⟨gp, 0, none⟩) := .inr ⟨gp, rfl, (hb94.block (Array.getElem?_eq_some_iff.1 hblk).1).trans hblk⟩
      refine brE (fun _ => brE (fun _ w99 hev hu => ?_) (fun hh => absurd h39 hh)) (fun hh => absurd h38 hh)
      have hb99 := hev.bel (by simpa using hn98)
      have hA : At w [n98] w99 := ⟨(hA.call hb99).chg, hu⟩
      have hno := hno.call hb99
      refine at_callb hA (c18n (t := none) 1 1 1 (some ⟨gv, 0, none⟩, 1, 1) (.inl rfl)) fun w101 hA hk hb101 => ⟨_, rfl, hk, brE (fun _ => ?_) (fun hh => absurd rfl hh)⟩
      have hno := hno.call hb101
      refine at_callb hA (c18n 1 1 1 (some ⟨gv, 0, none⟩, 1, 1) hno) fun w104 hA hk hb104 => ⟨_, rfl, hk, brE (fun _ => ?_) (fun hh => absurd rfl hh)⟩
      have hno := hno.call hb104
      refine at_callb hA (c15n (t := none) 1 1 (s := (none, 0, 0)) (.inl rfl)) fun w107 hA hk hb107 => ⟨_, rfl, hk, brNB (fun _ => ?_) (fun hh => by cases hh)⟩
      have hno := hno.call hb107
      refine at_callb hA (c59n 1 hno) fun w110 hA hk hb110 => ⟨_, rfl, hk, brE (fun _ => ?_) (fun hh => absurd rfl hh)⟩
      exact at_callb hA (c19 w110) fun w113 hA hk _ => ⟨_, rfl, hk, leaf hR hA rfl⟩
end Go.Vc.J

/- The formulas of functions, printed by a program (VcTool.lean): each is what the generator's formula comes to, by the kernel's reckoning; whoever proves one has the function's contract. -/
set_option maxRecDepth 100000
set_option maxHeartbeats 1000000
set_option linter.unusedVariables false
namespace Vct
open Go Go.Vc Go.RowKit
/-! (manciple/mancipleref26.M).Put -/
def h60 : Hints := ⟨[2, 3, 4, 7], [46, 75, 90], [34, 40, 49, 56, 65, 78, 96, 13, 18, 23, 29, 70], [(6, [0, 1, 2, 3, 4, 5, 6]), (15, [0, 1, 2, 3, 4, 5, 6, 7, 8, 9, 10]), (18, [0, 1, 2, 3, 4, 5, 6, 7, 8, 9, 10])], [], [(4, ⟨[(6, .int .i64)], [(4, .cons (.int .i64) (.cons (.sl) (.nil)))]⟩), (13, ⟨[(8, .bool), (9, .int .i64)], [(7, .cons (.int .i64) (.cons (.sl) (.nil)))]⟩)], [(3, ⟨[], [(4, .cons (.int .i64) (.cons (.sl) (.nil)))]⟩), (18, ⟨[(8, .bool)], [(7, .cons (.int .i64) (.cons (.sl) (.nil)))]⟩), (21, ⟨[], [(7, .cons (.int .i64) (.cons (.sl) (.nil)))]⟩)], [], []⟩
def f60_vc (m_0 : Int) (m_1a : Option Addr) (m_1n : Nat) (m_1c : Nat) (f_0 : Int) (f_1 : Int) (f_2 : Int) (f_3a : Option Addr) (f_3n : Nat) (f_3c : Nat) (w : World) (R : Ending → World → Prop) : Prop :=
 ∀ (n1 : Nat),
 w.heap.size ≤ n1 →
 ∀ (n2 : Nat),
 w.heap.size ≤ n2 →
 ∀ (n3 : Nat),
 w.heap.size ≤ n3 →
 ∃ (J4 : Int × (Option Addr × Nat × Nat) × Unit → World → Prop),
 ((decide (f_0 < 1) = true → ∀ (w5 : World), Evo [n3] w w5 → Under [n1, n2, n3] w5 → R (Ending.returned (Value.tuple #[Value.agg #[Value.int IntKind.i64 m_0, Value.slice m_1a m_1n m_1c], Value.int IntKind.i64 41])) w5) ∧
 (decide (f_0 < 1) = false →
 (decide (f_1 < 1) = true → ∀ (w6 : World), Evo [n3] w w6 → Under [n1, n2, n3] w6 → R (Ending.returned (Value.tuple #[Value.agg #[Value.int IntKind.i64 m_0, Value.slice m_1a m_1n m_1c], Value.int IntKind.i64 41])) w6) ∧
 (decide (f_1 < 1) = false →
 (decide (f_2 < 0) = true →
 ∀ (w7 : World), Evo [n3] w w7 → Under [n1, n2, n3] w7 → R (Ending.returned (Value.tuple #[Value.agg #[Value.int IntKind.i64 m_0, Value.slice m_1a m_1n m_1c], Value.int IntKind.i64 41])) w7) ∧
 (decide (f_2 < 0) = false →
 (((↑f_3n : Int) == 0) = true →
 ∀ (w8 : World), Evo [n3] w w8 → Under [n1, n2, n3] w8 → R (Ending.returned (Value.tuple #[Value.agg #[Value.int IntKind.i64 m_0, Value.slice m_1a m_1n m_1c], Value.int IntKind.i64 41])) w8) ∧
 (((↑f_3n : Int) == 0) = false →
 ∀ (w9 : World),
 Bel w w9 →
 Under [n1, n2, n3] w9 →
 Calls Proofs.Try.prog 83 #[Value.slice f_3a f_3n f_3c] w9 fun (e10 : Ending) (w11 : World) =>
 ∃ (b12 : Bool),
 e10 = Ending.returned (Value.bool b12) ∧
 Keeps [n1, n2, n3] w9 w11 ∧
 ((!b12) = true →
 ∀ (w13 : World),
 Evo [n3] w11 w13 → Under [n1, n2, n3] w13 → R (Ending.returned (Value.tuple #[Value.agg #[Value.int IntKind.i64 m_0, Value.slice m_1a m_1n m_1c], Value.int IntKind.i64 41])) w13) ∧
 ((!b12) = false → J4 (0, (none, 0, 0), ()) w11)))))) ∧
 ∀ (x14 : Int) (a15 : Option Addr) (n16 n17 : Nat) (w18 : World),
 J4 (x14, (a15, n16, n17), ()) w18 →
 ∃ (J19 : Int × Int × (Option Addr × Nat × Nat) × Unit → World → Prop),
 ∃ (J20 : Int × Int × (Option Addr × Nat × Nat) × Unit → World → Nat),
 J19 (0, x14, (a15, n16, n17), ()) w18 ∧
 ∀ (x21 x22 : Int) (a23 : Option Addr) (n24 n25 : Nat) (w26 : World),
 J19 (x21, x22, (a23, n24, n25), ()) w26 →
 (decide (x21 < (↑m_1n : Int)) = true →
 ∃ (ad27 : Addr),
 Gives Proofs.Try.prog (Instr.indexAt 111 (Value.slice m_1a m_1n m_1c) (Value.int IntKind.i64 x21)) (Value.pointer (some ad27)) ∧
 ∃ (x28 : Int),
 ∃ (x29 : Int),
 ∃ (x30 : Int),
 ∃ (a31 : Option Addr),
 ∃ (n32 : Nat),
 ∃ (n33 : Nat),
 Reads Proofs.Try.prog [] (Instr.loadAt 25 (Value.pointer (some ad27))) w26
 (Value.agg #[Value.int IntKind.i64 x28, Value.int IntKind.i64 x29, Value.int IntKind.i64 x30, Value.slice a31 n32 n33]) ∧
 ∀ (w34 : World),
 Bel w26 w34 →
 Under [n1, n2, n3] w34 →
 Calls Proofs.Try.prog 112
 #[Value.agg #[Value.int IntKind.i64 x28, Value.int IntKind.i64 x29, Value.int IntKind.i64 x30, Value.slice a31 n32 n33],
 Value.agg #[Value.int IntKind.i64 f_0, Value.int IntKind.i64 f_1, Value.int IntKind.i64 f_2, Value.slice f_3a f_3n f_3c]]
 w34 fun (e35 : Ending) (w36 : World) =>
 ∃ (b37 : Bool),
 e35 = Ending.returned (Value.bool b37) ∧
 Keeps [n1, n2, n3] w34 w36 ∧
 (b37 = true →
 ∀ (w38 : World),
 Evo [n3] w36 w38 →
 Under [n1, n2, n3] w38 → R (Ending.returned (Value.tuple #[Value.agg #[Value.int IntKind.i64 m_0, Value.slice m_1a m_1n m_1c], Value.int IntKind.i64 0])) w38) ∧
 (b37 = false →
 J19 (IntKind.i64.wrap (x21 + 1), x22, (a23, n24, n25), ()) w36 ∧
 J20 (IntKind.i64.wrap (x21 + 1), x22, (a23, n24, n25), ()) w36 < J20 (x21, x22, (a23, n24, n25), ()) w26)) ∧
 (decide (x21 < (↑m_1n : Int)) = false →
 (decide ((↑m_1n : Int) ≥ m_0) = true →
 ∀ (w39 : World), Evo [n3] w26 w39 → Under [n1, n2, n3] w39 → R (Ending.returned (Value.tuple #[Value.agg #[Value.int IntKind.i64 m_0, Value.slice m_1a m_1n m_1c], Value.int IntKind.i64 32])) w39) ∧
 (decide ((↑m_1n : Int) ≥ m_0) = false →
 ∀ (n40 : Nat),
 w26.heap.size ≤ n40 →
 ∃ (J41 : Bool × Int × Int × (Option Addr × Nat × Nat) × Unit → World → Prop),
 ∃ (J42 : Bool × Int × Int × (Option Addr × Nat × Nat) × Unit → World → Nat),
 (∀ (w43 : World), Evo [n40] w26 w43 → Under [n1, n2, n3, n40] w43 → J41 (false, 0, m_0, (none, 0, 0), ()) w43) ∧
 ∀ (b44 : Bool) (x45 x46 : Int) (a47 : Option Addr) (n48 n49 : Nat) (w50 : World),
 J41 (b44, x45, x46, (a47, n48, n49), ()) w50 →
 (decide (x45 < (↑m_1n : Int)) = true →
 ∃ (J51 : Bool × Int × (Option Addr × Nat × Nat) × Unit → World → Prop),
 (((!b44) = true →
 ∃ (ad52 : Addr),
 Gives Proofs.Try.prog (Instr.indexAt 111 (Value.slice m_1a m_1n m_1c) (Value.int IntKind.i64 x45)) (Value.pointer (some ad52)) ∧
 ∃ (x53 : Int),
 ∃ (x54 : Int),
 ∃ (x55 : Int),
 ∃ (a56 : Option Addr),
 ∃ (n57 : Nat),
 ∃ (n58 : Nat),
 Reads Proofs.Try.prog [] (Instr.loadAt 25 (Value.pointer (some ad52))) w50
 (Value.agg #[Value.int IntKind.i64 x53, Value.int IntKind.i64 x54, Value.int IntKind.i64 x55, Value.slice a56 n57 n58]) ∧
 ∀ (w59 : World),
 Bel w50 w59 →
 Under [n1, n2, n3, n40] w59 →
 Calls Proofs.Try.prog 113
 #[Value.agg #[Value.int IntKind.i64 f_0, Value.int IntKind.i64 f_1, Value.int IntKind.i64 f_2, Value.slice f_3a f_3n f_3c],
 Value.agg #[Value.int IntKind.i64 x53, Value.int IntKind.i64 x54, Value.int IntKind.i64 x55, Value.slice a56 n57 n58]]
 w59 fun (e60 : Ending) (w61 : World) =>
 ∃ (b62 : Bool),
 e60 = Ending.returned (Value.bool b62) ∧
 Keeps [n1, n2, n3, n40] w59 w61 ∧
 (b62 = true →
 OpW Proofs.Try.prog
 (valueS
 (Instr.buildSlice 111 1
 #[(0, Value.agg #[Value.int IntKind.i64 f_0, Value.int IntKind.i64 f_1, Value.int IntKind.i64 f_2, Value.slice f_3a f_3n f_3c])]))
 w61 fun (v63 : Value) (w64 : World) =>
 ∃ (a65 : Option Addr),
 ∃ (n66 : Nat),
 ∃ (n67 : Nat),
 v63 = Value.slice a65 n66 n67 ∧
 Keeps [n1, n2, n3, n40] w61 w64 ∧
 OpW Proofs.Try.prog (builtin Builtin.append #[111, 111] 111 #[false, false] #[Value.slice a47 n48 n49, Value.slice a65 n66 n67])
 w64 fun (v68 : Value) (w69 : World) =>
 ∃ (a70 : Option Addr),
 ∃ (n71 : Nat),
 ∃ (n72 : Nat),
 v68 = Value.slice a70 n71 n72 ∧
 Keeps [n1, n2, n3, n40] w64 w69 ∧
 ∀ (w73 : World), Evo [n40] w69 w73 → Under [n1, n2, n3, n40] w73 → J51 (true, x46, (a70, n71, n72), ()) w73) ∧
 (b62 = false → J51 (b44, x46, (a47, n48, n49), ()) w61)) ∧
 ((!b44) = false → ∀ (w74 : World), Bel w50 w74 → Under [n1, n2, n3, n40] w74 → J51 (b44, x46, (a47, n48, n49), ()) w74)) ∧
 ∀ (b75 : Bool) (x76 : Int) (a77 : Option Addr) (n78 n79 : Nat) (w80 : World),
 J51 (b75, x76, (a77, n78, n79), ()) w80 →
 ∃ (ad81 : Addr),
 Gives Proofs.Try.prog (Instr.indexAt 111 (Value.slice m_1a m_1n m_1c) (Value.int IntKind.i64 x45)) (Value.pointer (some ad81)) ∧
 ∃ (x82 : Int),
 ∃ (x83 : Int),
 ∃ (x84 : Int),
 ∃ (a85 : Option Addr),
 ∃ (n86 : Nat),
 ∃ (n87 : Nat),
 Reads Proofs.Try.prog [] (Instr.loadAt 25 (Value.pointer (some ad81))) w80
 (Value.agg #[Value.int IntKind.i64 x82, Value.int IntKind.i64 x83, Value.int IntKind.i64 x84, Value.slice a85 n86 n87]) ∧
 ∀ (w88 : World),
 Bel w80 w88 →
 Under [n1, n2, n3, n40] w88 →
 OpW Proofs.Try.prog
 (valueS
 (Instr.buildSlice 111 1
 #[(0, Value.agg #[Value.int IntKind.i64 x82, Value.int IntKind.i64 x83, Value.int IntKind.i64 x84, Value.slice a85 n86 n87])]))
 w88 fun (v89 : Value) (w90 : World) =>
 ∃ (a91 : Option Addr),
 ∃ (n92 : Nat),
 ∃ (n93 : Nat),
 v89 = Value.slice a91 n92 n93 ∧
 Keeps [n1, n2, n3, n40] w88 w90 ∧
 OpW Proofs.Try.prog (builtin Builtin.append #[111, 111] 111 #[false, false] #[Value.slice a77 n78 n79, Value.slice a91 n92 n93]) w90
 fun (v94 : Value) (w95 : World) =>
 ∃ (a96 : Option Addr),
 ∃ (n97 : Nat),
 ∃ (n98 : Nat),
 v94 = Value.slice a96 n97 n98 ∧
 Keeps [n1, n2, n3, n40] w90 w95 ∧
 ∀ (w99 : World),
 Evo [n40] w95 w99 →
 Under [n1, n2, n3, n40] w99 →
 J41 (b75, IntKind.i64.wrap (x45 + 1), x76, (a96, n97, n98), ()) w99 ∧
 J42 (b75, IntKind.i64.wrap (x45 + 1), x76, (a96, n97, n98), ()) w99 < J42 (b44, x45, x46, (a47, n48, n49), ()) w50) ∧
 (decide (x45 < (↑m_1n : Int)) = false →
 ∃ (J100 : Int × (Option Addr × Nat × Nat) × Unit → World → Prop),
 (((!b44) = true →
 OpW Proofs.Try.prog
 (valueS (Instr.buildSlice 111 1 #[(0, Value.agg #[Value.int IntKind.i64 f_0, Value.int IntKind.i64 f_1, Value.int IntKind.i64 f_2, Value.slice f_3a f_3n f_3c])])) w50
 fun (v101 : Value) (w102 : World) =>
 ∃ (a103 : Option Addr),
 ∃ (n104 : Nat),
 ∃ (n105 : Nat),
 v101 = Value.slice a103 n104 n105 ∧
 Keeps [n1, n2, n3, n40] w50 w102 ∧
 OpW Proofs.Try.prog (builtin Builtin.append #[111, 111] 111 #[false, false] #[Value.slice a47 n48 n49, Value.slice a103 n104 n105]) w102
 fun (v106 : Value) (w107 : World) =>
 ∃ (a108 : Option Addr),
 ∃ (n109 : Nat),
 ∃ (n110 : Nat),
 v106 = Value.slice a108 n109 n110 ∧
 Keeps [n1, n2, n3, n40] w102 w107 ∧ ∀ (w111 : World), Evo [n40] w107 w111 → Under [n1, n2, n3, n40] w111 → J100 (x46, (a108, n109, n110), ()) w111) ∧
 ((!b44) = false → J100 (x46, (a47, n48, n49), ()) w50)) ∧
 ∀ (x112 : Int) (a113 : Option Addr) (n114 n115 : Nat) (w116 : World),
 J100 (x112, (a113, n114, n115), ()) w116 →
 ∀ (w117 : World),
 Evo [n3] w116 w117 →
 Under [n1, n2, n3, n40] w117 → R (Ending.returned (Value.tuple #[Value.agg #[Value.int IntKind.i64 x112, Value.slice a113 n114 n115], Value.int IntKind.i64 0])) w117)))
theorem f60_eq (m_0 : Int) (m_1a : Option Addr) (m_1n : Nat) (m_1c : Nat) (f_0 : Int) (f_1 : Int) (f_2 : Int) (f_3a : Option Addr) (f_3n : Nat) (f_3c : Nat) (w : World) (R : Ending → World → Prop) : (fnF Go.Proofs.Try.prog h60 Go.Proofs.Try.f60 [Value.agg #[Value.int IntKind.i64 m_0, Value.slice m_1a m_1n m_1c], Value.agg #[Value.int IntKind.i64 f_0, Value.int IntKind.i64 f_1, Value.int IntKind.i64 f_2, Value.slice f_3a f_3n f_3c]] w R).den = f60_vc m_0 m_1a m_1n m_1c f_0 f_1 f_2 f_3a f_3n f_3c w R := by kernel_rfl
theorem f60_calls (m_0 : Int) (m_1a : Option Addr) (m_1n : Nat) (m_1c : Nat) (f_0 : Int) (f_1 : Int) (f_2 : Int) (f_3a : Option Addr) (f_3n : Nat) (f_3c : Nat) (w : World) (R : Ending → World → Prop) (h : f60_vc m_0 m_1a m_1n m_1c f_0 f_1 f_2 f_3a f_3n f_3c w R) : Calls Go.Proofs.Try.prog 60 (List.toArray [Value.agg #[Value.int IntKind.i64 m_0, Value.slice m_1a m_1n m_1c], Value.agg #[Value.int IntKind.i64 f_0, Value.int IntKind.i64 f_1, Value.int IntKind.i64 f_2, Value.slice f_3a f_3n f_3c]]) w R :=
 fn_sound (H := h60) (fn := Go.Proofs.Try.f60) (by kernel_rfl) (by kernel_rfl) (by kernel_rfl) ((f60_eq m_0 m_1a m_1n m_1c f_0 f_1 f_2 f_3a f_3n f_3c w R).mpr h)

end Vct

/- The reference's filters. -/
set_option maxRecDepth 20000
set_option maxHeartbeats 2000000
namespace Go.Vc.J
open Go Go.Vc Go.Vc.V Go.RowKit Go.Proofs Vct

variable {w W W' W2 : World} {M N : Nat → Prop} {gs ds : List Nat} {g r : Nat} {cap long : Int} {m : FlM} {B : Nat → Prop} {D : FlD}

/-- A row of the reference. -/
structure RF (W : World) (L : List TR) (a : Option Addr) (n c : Nat) : Prop where
  sl : SlE W 4 trE L a n c
  vs : ∀ x ∈ L, VecR W x
theorem RF.call {L : List TR} {a : Option Addr} {n c : Nat} (h : RF W L a n c) (hb : Bel W W') : RF W' L a n c := ⟨h.sl.call hb, fun x hx => SlR.call (h.vs x hx) hb⟩
abbrev m2V (cap : Int) (a : Option Addr) (n c : Nat) : Value := .agg #[.int .i64 cap, .slice a n c]
/-! ### A new one -/
def insS (f : TR) (s : List TR × Bool) (y : TR) : List TR × Bool := if s.2 = false ∧ aF f.1 y.1 < 0 then (s.1 ++ [f] ++ [y], true) else (s.1 ++ [y], s.2)
def refIns (f : TR) (L : List TR) : List TR := if (L.foldl (insS f) ([], false)).2 = true then (L.foldl (insS f) ([], false)).1 else (L.foldl (insS f) ([], false)).1 ++ [f]
theorem insS_len (f : TR) : ∀ (L : List TR) (s : List TR × Bool), (L.foldl (insS f) s).1.length ≤ s.1.length + 2 * L.length
  | [], s => by simp
  | y :: L, s => by
    rw [List.foldl_cons]
    have := insS_len f L (insS f s y)
    have h2 : (insS f s y).1.length ≤ s.1.length + 2 := by
      unfold insS
      split <;> simp
    rw [List.length_cons]
    omega
theorem insS_done (f : TR) : ∀ (L acc : List TR), L.foldl (insS f) (acc, true) = (acc ++ L, true)
  | [], acc => by simp
  | y :: L, acc => by
    rw [List.foldl_cons]
    unfold insS
    rw [if_neg (by simp)]
    have := insS_done f L (acc ++ [y])
    unfold insS at this
    rw [this, List.append_assoc]
    rfl
theorem insS_spec (f : TR) : ∀ (L acc : List TR), (∃ A y C, L = A ++ y :: C ∧ (∀ z ∈ A, ¬ aF f.1 z.1 < 0) ∧ aF f.1 y.1 < 0 ∧ L.foldl (insS f) (acc, false) = (acc ++ A ++ f :: y :: C, true)) ∨ ((∀ z ∈ L, ¬ aF f.1 z.1 < 0) ∧ L.foldl (insS f) (acc, false) = (acc ++ L, false))
  | [], acc => .inr ⟨by simp, by simp⟩
  | y :: L, acc => by
    by_cases h : aF f.1 y.1 < 0
    · refine .inl ⟨[], y, L, rfl, by simp, h, ?_⟩
      rw [List.foldl_cons, show insS f (acc, false) y = (acc ++ [f] ++ [y], true) from if_pos ⟨rfl, h⟩, insS_done]
      simp
    · have e : insS f (acc, false) y = (acc ++ [y], false) := if_neg fun hh => h hh.2
      rcases insS_spec f L (acc ++ [y]) with ⟨A, z, C, h1, h2, h3, h4⟩ | ⟨h1, h2⟩
      · refine .inl ⟨y :: A, z, C, by rw [h1]; rfl, fun u hu => ?_, h3, ?_⟩
        · rcases List.mem_cons.1 hu with rfl | hu
          · exact h
          · exact h2 u hu
        · rw [List.foldl_cons, e, h4]
          simp
      · refine .inr ⟨fun u hu => ?_, ?_⟩
        · rcases List.mem_cons.1 hu with rfl | hu
          · exact h
          · exact h1 u hu
        · rw [List.foldl_cons, e, h2]
          simp
theorem refIns_spec (f : TR) (L : List TR) : ∃ A C, L = A ++ C ∧ refIns f L = A ++ f :: C ∧ (∀ z ∈ A, ¬ aF f.1 z.1 < 0) ∧ ∀ y C', C = y :: C' → aF f.1 y.1 < 0 := by
  unfold refIns
  rcases insS_spec f L [] with ⟨A, y, C, h1, h2, h3, h4⟩ | ⟨h1, h2⟩
  · refine ⟨A, y :: C, h1, by rw [h4, if_pos rfl]; simp, h2, fun z C' e => ?_⟩
    cases e
    exact h3
  · exact ⟨L, [], by simp, by rw [h2, if_neg (by simp)]; simp, h1, fun y C' e => by cases e⟩
theorem refIns_mem {f x : TR} {L : List TR} : x ∈ refIns f L ↔ x = f ∨ x ∈ L := by
  obtain ⟨A, C, rfl, e, _⟩ := refIns_spec f L
  rw [e]
  simp only [List.mem_append, List.mem_cons]
  constructor
  · rintro (h | h | h)
    · exact .inr (.inl h)
    · exact .inl h
    · exact .inr (.inr h)
  · rintro (h | h | h)
    · exact .inr (.inl h)
    · exact .inl h
    · exact .inr (.inr h)
theorem refIns_srt {f : TR} {L : List TR} (hs : SrtF (L.map (·.1))) (hf : f.1 ∉ L.map (·.1)) : SrtF ((refIns f L).map (·.1)) := by
  obtain ⟨A, C, rfl, e, h1, h2⟩ := refIns_spec f L
  rw [e]
  unfold SrtF at *
  rw [List.map_append, List.pairwise_append] at hs
  obtain ⟨hA, hC, hAC⟩ := hs
  rw [List.map_append, List.map_cons, List.pairwise_append, List.pairwise_cons]
  have hAf : ∀ x ∈ A.map (·.1), aF x f.1 < 0 := fun x hx => by
    obtain ⟨z, hz, rfl⟩ := List.mem_map.1 hx
    have := h1 z hz
    have hn := aF_neg f.1 z.1
    by_cases h0 : aF f.1 z.1 = 0
    · exact absurd (List.mem_map.2 ⟨z, List.mem_append_left _ hz, (aF_eq h0).symm⟩) hf
    · omega
  have hfC : ∀ x ∈ C.map (·.1), aF f.1 x < 0 := fun x hx => by
    cases C with
    | nil => cases hx
    | cons y C =>
      have hy := h2 y C rfl
      rcases List.mem_cons.1 hx with rfl | hx
      · exact hy
      · rw [List.map_cons, List.pairwise_cons] at hC
        exact aF_trans hy (hC.1 x hx)
  refine ⟨hA, ⟨hfC, hC⟩, fun x hx y hy => ?_⟩
  rcases List.mem_cons.1 hy with rfl | hy
  · exact hAf x hx
  · exact aF_trans (hAf x hx) (hfC y hy)
/-- What the reference's Put tells. -/
def refPQ (W : World) (cap : Int) (L : List TR) (a : Option Addr) (n c : Nat) (f : TR) (v : Value) (w' : World) : Prop :=
  (∃ e, v = .tuple #[m2V cap a n c, .int .i64 e] ∧ ((¬ okF f.1 ∧ e = 41) ∨ (okF f.1 ∧ f.1 ∈ L.map (·.1) ∧ e = 0) ∨ (okF f.1 ∧ f.1 ∉ L.map (·.1) ∧ cap ≤ L.length ∧ e = 32))) ∨
  (okF f.1 ∧ f.1 ∉ L.map (·.1) ∧ ¬ cap ≤ L.length ∧ ∃ a' n' c', v = .tuple #[m2V cap a' n' c', .int .i64 0] ∧ OwnL W [] w' 25 4 trE (.slice a' n' c') (refIns f L))
theorem c60 {L : List TR} {a : Option Addr} {n c : Nat} {f : TR} (cap : Int) (w : World) (hL : RF w L a n c) (hl : L.length ≤ 1000) (hf : VecR w f) : RetQ Try.prog 60 #[m2V cap a n c, trV f] w (refPQ w cap L a n c f) := by
  intro R hR
  refine f60_calls cap a n c _ _ _ _ _ _ w R ?_
  unfold f60_vc
  have hn := hL.sl.len_le
  have hfn := SlR.len_le hf
  intro n1 hn1 n2 hn2 n3 hn3
  have same : ∀ {e : Int} {gs w'}, ((¬ okF f.1 ∧ e = 41) ∨ (okF f.1 ∧ f.1 ∈ L.map (·.1) ∧ e = 0) ∨ (okF f.1 ∧ f.1 ∉ L.map (·.1) ∧ cap ≤ L.length ∧ e = 32)) → At w gs w' → R (.returned (.tuple #[m2V cap a n c, .int .i64 e])) w' := fun he hA => hR _ _ hA.below (.inl ⟨_, rfl, he⟩)
  have ev0 : ∀ {w'}, Evo [n3] w w' → Under [n1, n2, n3] w' → At w [n1, n2, n3] w' := fun hev hu => (At.refl w).evo (by simp; omega) hev hu
  have ev3 : ∀ {w1 w2}, At w [n1, n2, n3] w1 → Evo [n3] w1 w2 → Under [n1, n2, n3] w2 → At w [n1, n2, n3] w2 := fun hA hev hu => hA.evo (by simp; omega) hev hu
  refine ⟨fun v W' => At w [n1, n2, n3] W' ∧ okF f.1, ?_, ?_⟩
  · refine brD (fun h1 w5 hev hu => same (.inl ⟨fun hh => by have := hh.1; omega, rfl⟩) (ev0 hev hu)) (fun h1 => brD (fun h2 w6 hev hu => same (.inl ⟨fun hh => by have := hh.2.1; omega, rfl⟩) (ev0 hev hu)) (fun h2 => brD (fun h3 w7 hev hu => same (.inl ⟨fun hh => by have := hh.2.2.1; omega, rfl⟩) (ev0 hev hu)) (fun h3 => brE (fun h4 w8 hev hu => same (.inl ⟨fun hh => hh.2.2.2.1 (List.eq_nil_of_length_eq_zero (by omega)), rfl⟩) (ev0 hev hu)) (fun h4 w9 hb9 hu => ?_))))
    have hA : At w [n1, n2, n3] w9 := ⟨((At.refl w).call hb9).chg, hu⟩
    refine at_callb hA (c83 w9 (SlR.call hf hA.below)) fun w11 hA hk hb11 => ⟨_, rfl, hk, brNB (fun hv w13 hev hu => same (.inl ⟨fun hh => (by rw [hh.2.2.2.2] at hv; cases hv), rfl⟩) (ev3 hA hev hu)) (fun hv => ⟨hA, by omega, by omega, by omega, fun e => h4 (by rw [hfn.1, e]; rfl), hv⟩)⟩
  rintro x14 a15 n16 n17 w18 ⟨hA, hok⟩
  refine ⟨fun v W' => At w [n1, n2, n3] W' ∧ ∃ k : Nat, v.1 = k ∧ k ≤ L.length ∧ ∀ t y, t < k → L[t]? = some y → y.1 ≠ f.1, fun v _ => ((n : Int) - v.1).toNat, ⟨hA, 0, rfl, Nat.zero_le _, fun t y h => by omega⟩, ?_⟩
  rintro x21 x22 a23 n24 n25 w26 ⟨hA, k, hk, hkl, hmin⟩
  simp only at hk
  subst hk
  refine brD (fun hlt => ?_) (fun hge => ?_)
  · obtain ⟨y, hy⟩ : ∃ y, L[k]? = some y := ⟨_, List.getElem?_eq_getElem (by omega)⟩
    have hym := List.mem_of_getElem? hy
    obtain ⟨ad, g1, el, _⟩ := elt_at (P := Try.prog) (k := .i64) (t := 111) (hL.sl.call hA.below) hy (e := 25) (by kernel_rfl) (by kernel_rfl)
    refine ⟨ad, g1, _, _, _, _, _, _, el.agg 4 (by kernel_rfl) (by kernel_rfl) (by simp) (by simp), fun w34 hb34 hu => ?_⟩
    have hA : At w [n1, n2, n3] w34 := ⟨(hA.call hb34).chg, hu⟩
    refine at_callb hA (c112 y f w34 (SlR.call (hL.vs y hym) hA.below) (SlR.call hf hA.below)) fun w36 hA hk hb36 => ⟨_, rfl, hk, brD (fun he w38 hev hu => same (.inr (.inl ⟨hok, List.mem_map.2 ⟨y, hym, he⟩, rfl⟩)) (ev3 hA hev hu)) (fun hne => ?_)⟩
    rw [succ_i k (by omega)]
    refine ⟨⟨hA, k + 1, rfl, by omega, fun t z ht hz => ?_⟩, by simp only; omega⟩
    by_cases htk : t = k
    · subst htk
      rw [hy] at hz
      cases hz
      exact hne
    · exact hmin t z (by omega) hz
  have hnot : f.1 ∉ L.map (·.1) := fun hm => by
    obtain ⟨y, hy, e⟩ := List.mem_map.1 hm
    obtain ⟨j, hj, rfl⟩ := List.mem_iff_getElem.1 hy
    exact hmin j _ (by omega) (List.getElem?_eq_getElem hj) e
  refine brD (fun hcap w39 hev hu => same (.inr (.inr ⟨hok, hnot, by omega, rfl⟩)) (ev3 hA hev hu)) (fun hcap n40 hn40 => ?_)
  have hsz26 := hA.size
  have hu26 := hA.under
  have h41 := hu26 n1 (by simp)
  have h42 := hu26 n2 (by simp)
  have h43 := hu26 n3 (by simp)
  have ev4 : ∀ {w1 w2 : World}, At w [n1, n2, n3, n40] w1 → Evo [n40] w1 w2 → Under [n1, n2, n3, n40] w2 → At w [n1, n2, n3, n40] w2 := fun hA hev hu => hA.evo (by simp; omega) hev hu
  have oev : ∀ {w1 w2 : World} {v : Value} {l : List TR}, OwnL w [n1, n2, n3, n40] w1 25 4 trE v l → Evo [n40] w1 w2 → OwnL w [n1, n2, n3, n40] w2 25 4 trE v l := fun ho hev => ho.evo (by intro d hd hd2; simp at hd hd2; omega) hev
  refine ⟨fun v W' => At w [n1, n2, n3, n40] W' ∧ v.2.2.1 = cap ∧ ∃ k : Nat, v.2.1 = k ∧ k ≤ L.length ∧ v.1 = ((L.take k).foldl (insS f) ([], false)).2 ∧ OwnL w [n1, n2, n3, n40] W' 25 4 trE (.slice v.2.2.2.1.1 v.2.2.2.1.2.1 v.2.2.2.1.2.2) ((L.take k).foldl (insS f) ([], false)).1, fun v _ => ((n : Int) - v.2.1).toNat, fun w43 hev hu => ⟨hA.evo (by simp; omega) hev hu, rfl, 0, rfl, Nat.zero_le _, rfl, OwnL.nil⟩, ?_⟩
  rintro b44 x45 x46 a47 n48 n49 w50 ⟨hA, hcp, k, hk, hkl, hb44, ho⟩
  simp only at hcp hk hb44 ho
  subst hcp hk
  generalize hst : (L.take k).foldl (insS f) ([], false) = st at hb44 ho
  have hstl : st.1.length ≤ 2 * k := by
    have := insS_len f (L.take k) ([], false)
    rw [hst] at this
    simp at this
    omega
  refine brD (fun hlt => ?_) (fun hge => ?_)
  · obtain ⟨y, hy⟩ : ∃ x, L[k]? = some x := ⟨_, List.getElem?_eq_getElem (by omega)⟩
    have hym := List.mem_of_getElem? hy
    have hnext : (L.take (k + 1)).foldl (insS f) ([], false) = insS f st y := by
      rw [List.take_add_one, hy, List.foldl_append, hst]
      rfl
    refine ⟨fun v W' => At w [n1, n2, n3, n40] W' ∧ v.2.1 = x46 ∧ ∃ o2 : List TR, o2.length ≤ 2 * k + 1 ∧ OwnL w [n1, n2, n3, n40] W' 25 4 trE (.slice v.2.2.1.1 v.2.2.1.2.1 v.2.2.1.2.2) o2 ∧ insS f st y = (o2 ++ [y], v.1), ⟨fun hf0 => ?_, fun hf1 w74 hb74 hu => ?_⟩, ?_⟩
    · have hf0 : st.2 = false := by rw [hb44] at hf0; simpa using hf0
      obtain ⟨ad, g1, el, _⟩ := elt_at (P := Try.prog) (k := .i64) (t := 111) (hL.sl.call hA.below) hy (e := 25) (by kernel_rfl) (by kernel_rfl)
      refine ⟨ad, g1, _, _, _, _, _, _, el.agg 4 (by kernel_rfl) (by kernel_rfl) (by simp) (by simp), fun w59 hb59 hu => ?_⟩
      have hA : At w [n1, n2, n3, n40] w59 := ⟨(hA.call hb59).chg, hu⟩
      refine at_callb hA (c113 f y w59 (SlR.call hf hA.below) (SlR.call (hL.vs y hym) hA.below)) fun w61 hA hk hb61 => ⟨_, rfl, hk, brD (fun hlt0 => ?_) (fun hge0 => ⟨hA, rfl, st.1, by omega, (ho.call hb59).call hb61, ?_⟩)⟩
      · refine opw_push (f := trE) (e' := 25) (bytes := 48) hA ((ho.call hb59).call hb61) f (by kernel_rfl) (by kernel_rfl) rfl (fun _ _ => rfl) (tr_one f) (by omega) (by decide) fun a70 c72 w69 hA ho2 _ _ w73 hev hu => ?_
        refine ⟨ev4 hA hev hu, rfl, st.1 ++ [f], by rw [List.length_append, List.length_singleton]; omega, oev ho2 hev, ?_⟩
        unfold insS
        rw [if_pos ⟨hf0, hlt0⟩]
      · unfold insS
        rw [if_neg fun hh => hge0 hh.2, hb44]
    · have hf1 : st.2 = true := by rw [hb44] at hf1; simpa using hf1
      refine ⟨⟨(hA.call hb74).chg, hu⟩, rfl, st.1, by omega, ho.call hb74, ?_⟩
      unfold insS
      rw [if_neg fun hh => (by rw [hf1] at hh; cases hh.1), hb44]
    · rintro b75 x76 a77 n78 n79 w80 ⟨hA, e76, o2, ho2l, ho, hins⟩
      simp only at e76 ho hins
      subst e76
      obtain ⟨ad, g1, el, _⟩ := elt_at (P := Try.prog) (k := .i64) (t := 111) (hL.sl.call hA.below) hy (e := 25) (by kernel_rfl) (by kernel_rfl)
      refine ⟨ad, g1, _, _, _, _, _, _, el.agg 4 (by kernel_rfl) (by kernel_rfl) (by simp) (by simp), fun w88 hb88 hu => ?_⟩
      have hA : At w [n1, n2, n3, n40] w88 := ⟨(hA.call hb88).chg, hu⟩
      refine opw_push (f := trE) (e' := 25) (bytes := 48) hA (ho.call hb88) y (by kernel_rfl) (by kernel_rfl) rfl (fun _ _ => rfl) (tr_one y) (by omega) (by decide) fun a96 c98 w95 hA ho2 _ _ w99 hev hu => ?_
      rw [succ_i k (by omega)]
      refine ⟨⟨ev4 hA hev hu, rfl, k + 1, rfl, by omega, ?_, ?_⟩, by simp only; omega⟩
      · rw [hnext, hins]
      · rw [hnext, hins]
        exact oev ho2 hev
  · have hkL : k = L.length := by omega
    rw [hkL, List.take_length] at hst
    refine ⟨fun v W' => At w [n1, n2, n3, n40] W' ∧ v.1 = x46 ∧ OwnL w [n1, n2, n3, n40] W' 25 4 trE (.slice v.2.1.1 v.2.1.2.1 v.2.1.2.2) (refIns f L), ⟨fun hf0 => ?_, fun hf1 => ⟨hA, rfl, ?_⟩⟩, ?_⟩
    · have hf0 : st.2 = false := by rw [hb44] at hf0; simpa using hf0
      refine opw_push (f := trE) (e' := 25) (bytes := 48) hA ho f (by kernel_rfl) (by kernel_rfl) rfl (fun _ _ => rfl) (tr_one f) (by omega) (by decide) fun a70 c72 w69 hA ho2 _ _ w73 hev hu => ⟨ev4 hA hev hu, rfl, ?_⟩
      have e : refIns f L = st.1 ++ [f] := by unfold refIns; rw [hst, if_neg (by rw [hf0]; decide)]
      rw [e]
      exact oev ho2 hev
    · have hf1 : st.2 = true := by rw [hb44] at hf1; simpa using hf1
      have e : refIns f L = st.1 := by unfold refIns; rw [hst, if_pos hf1]
      rw [e]
      exact ho
    · rintro x112 a113 n114 n115 w116 ⟨hA, e112, ho⟩
      simp only at e112 ho
      subst e112
      intro w117 hev hu
      have hA2 := hA.evo (gs' := [n1, n2, n3, n40]) (by simp; omega) hev hu
      have ho2 := (ho.evo (by intro d hd hd2; simp at hd hd2; omega) hev).more (gs' := []) (by simp)
      exact hR _ _ hA2.below (.inr ⟨hok, hnot, by omega, a113, n114, n115, rfl, ho2⟩)
/-! ### Without some -/
def goW (what n : Int) (y : TkT) : Prop := (what = 1 ∧ y.1 = n) ∨ (what = 2 ∧ y.2.1 = n) ∨ (what = 3 ∧ y.2.2.1 ≤ n)
instance (what n : Int) (y : TkT) : Decidable (goW what n y) := by unfold goW; infer_instance
theorem c61 {L : List TR} {a : Option Addr} {n c : Nat} (cap what k0 : Int) (w : World) (hL : SlE w 4 trE L a n c) (hl : L.length ≤ 1000) : RetQ Try.prog 61 #[m2V cap a n c, .int .i64 what, .int .i64 k0] w fun v w' => ∃ a' n' c', v = m2V cap a' n' c' ∧ OwnL w [] w' 25 4 trE (.slice a' n' c') (L.filter fun y => !decide (goW what k0 y.1)) := by
  intro R hR
  refine f61_calls cap a n c what k0 w R ?_
  unfold f61_vc
  have hn := hL.len_le
  intro n1 hn1 n2 hn2 n3 hn3
  refine ⟨fun v W' => At w [n1, n2, n3] W' ∧ v.2.1 = cap ∧ ∃ k : Nat, v.1 = k ∧ k ≤ L.length ∧ OwnL w [n1, n2, n3] W' 25 4 trE (.slice v.2.2.1.1 v.2.2.1.2.1 v.2.2.1.2.2) ((L.take k).filter fun y => !decide (goW what k0 y.1)), fun v _ => ((n : Int) - v.1).toNat, fun w6 hev hu => ⟨(At.refl w).evo (by simp; omega) hev hu, rfl, 0, rfl, Nat.zero_le _, OwnL.nil⟩, ?_⟩
  rintro x7 x8 a9 n10 n11 w12 ⟨hA, hcp, k, hk, hkl, ho⟩
  simp only at hcp hk ho
  subst hcp hk
  have hsz := hA.size
  have h41 := hA.under n1 (by simp)
  have h42 := hA.under n2 (by simp)
  have h43 := hA.under n3 (by simp)
  refine brD (fun hlt => ?_) (fun hge => ?_)
  · obtain ⟨y, hy⟩ : ∃ x, L[k]? = some x := ⟨_, List.getElem?_eq_getElem (by omega)⟩
    have tk : (L.take (k + 1)).filter (fun y => !decide (goW what k0 y.1)) = (L.take k).filter (fun y => !decide (goW what k0 y.1)) ++ (if goW what k0 y.1 then [] else [y]) := by
      rw [List.take_add_one, hy, List.filter_append]
      by_cases h : goW what k0 y.1 <;> simp [h]
    have hfl := List.length_filter_le (fun y : TR => !decide (goW what k0 y.1)) (L.take k)
    rw [List.length_take] at hfl
    obtain ⟨ad, g1, el, _⟩ := elt_at (P := Try.prog) (k := .i64) (t := 111) (hL.call hA.below) hy (e := 25) (by kernel_rfl) (by kernel_rfl)
    refine ⟨fun v W' => At w [n1, n2, n3] W' ∧ v.1 = x8 ∧ OwnL w [n1, n2, n3] W' 25 4 trE (.slice v.2.1.1 v.2.1.2.1 v.2.1.2.2) ((L.take (k + 1)).filter fun y => !decide (goW what k0 y.1)), ?_, ?_⟩
    · refine ⟨ad, g1, _, _, _, _, _, _, el.agg 4 (by kernel_rfl) (by kernel_rfl) (by simp) (by simp), fun n21 hn21 => ?_⟩
      have evA : ∀ {w52 : World}, Evo [n21] w12 w52 → Under [n1, n2, n3, n21] w52 → At w [n1, n2, n3, n21] w52 ∧ Bel w12 w52 := fun hev hu => by
        have hb := hev.bel (by simpa using hn21)
        exact ⟨⟨(hA.call hb).chg, hu⟩, hb⟩
      have skip : ∀ {w52 : World}, Evo [n21] w12 w52 → Under [n1, n2, n3, n21] w52 → goW what k0 y.1 → (At w [n1, n2, n3] w52 ∧ x8 = x8 ∧ OwnL w [n1, n2, n3] w52 25 4 trE (.slice a9 n10 n11) ((L.take (k + 1)).filter fun y => !decide (goW what k0 y.1))) := fun hev hu hg => by
        obtain ⟨h1, h2⟩ := evA hev hu
        rw [tk, if_pos hg, List.append_nil]
        exact ⟨h1.sub (by simp), rfl, ho.call h2⟩
      refine ⟨fun _ W' => At w [n1, n2, n3, n21] W' ∧ Bel w12 W' ∧ ¬ goW what k0 y.1, ?_, ?_⟩
      · have keep : ∀ {w52 : World}, Evo [n21] w12 w52 → Under [n1, n2, n3, n21] w52 → ¬ goW what k0 y.1 → (At w [n1, n2, n3, n21] w52 ∧ Bel w12 w52 ∧ ¬ goW what k0 y.1) := fun hev hu hg => ⟨(evA hev hu).1, (evA hev hu).2, hg⟩
        unfold goW at skip keep
        exact brE (fun k1 => brE (fun e1 w52 hev hu => skip hev hu (by omega)) (fun e1 => brE (fun k2 => brE (fun e2 w52 hev hu => skip hev hu (by omega)) (fun e2 => brE (fun k3 => brD (fun e3 w52 hev hu => skip hev hu (by omega)) (fun e3 w52 hev hu => keep hev hu (by omega))) (fun k3 w52 hev hu => keep hev hu (by omega)))) (fun k2 => brE (fun k3 => brD (fun e3 w52 hev hu => skip hev hu (by omega)) (fun e3 w52 hev hu => keep hev hu (by omega))) (fun k3 w52 hev hu => keep hev hu (by omega))))) (fun k1 => brE (fun k2 => brE (fun e2 w52 hev hu => skip hev hu (by omega)) (fun e2 => brE (fun k3 => brD (fun e3 w52 hev hu => skip hev hu (by omega)) (fun e3 w52 hev hu => keep hev hu (by omega))) (fun k3 w52 hev hu => keep hev hu (by omega)))) (fun k2 => brE (fun k3 => brD (fun e3 w52 hev hu => skip hev hu (by omega)) (fun e3 w52 hev hu => keep hev hu (by omega))) (fun k3 w52 hev hu => keep hev hu (by omega))))
      · rintro w38 ⟨hA38, hb38, hng⟩
        refine opw_push (f := trE) (e' := 25) (bytes := 48) hA38 ((ho.more (gs' := [n1, n2, n3, n21]) (fun g hg hng => by simp at hg hng; omega)).call hb38) y (by kernel_rfl) (by kernel_rfl) rfl (fun _ _ => rfl) (tr_one y) (by omega) (by decide) fun a46 c48 w45 hA ho2 _ _ w49 hev hu => ?_
        have hA2 := hA.evo (gs' := [n1, n2, n3, n21]) (by simp; omega) hev hu
        rw [tk, if_neg hng]
        exact ⟨hA2.sub (by simp), rfl, (ho2.evo (by intro d hd hd2; simp at hd hd2; omega) hev).base (gs' := [n1, n2, n3]) (fun q hq => ho2.mine q hq) (fun q hq => ho2.apart q (by simp at hq ⊢; grind))⟩
    · rintro x50 a51 n52 n53 w54 ⟨hA54, e50, ho54⟩
      simp only at e50 ho54
      subst e50
      rw [succ_i k (by omega)]
      exact ⟨⟨hA54, rfl, k + 1, rfl, by omega, ho54⟩, by simp only; omega⟩
  · have hkL : k = L.length := by omega
    rw [hkL, List.take_length] at ho
    intro w55 hev hu
    have hA2 := hA.evo (gs' := [n1, n2, n3]) (by simp; omega) hev hu
    exact hR _ _ hA2.below ⟨a9, n10, n11, rfl, (ho.evo (by intro d hd hd2; simp at hd hd2; omega) hev).more (by simp)⟩
/-! ### Next, Blocks, Same -/
theorem c63 {L : List TR} {a : Option Addr} {n c : Nat} (cap : Int) (w : World) (hL : SlE w 4 trE L a n c) : RetQ Try.prog 63 #[m2V cap a n c] w fun v _ => ∃ x, v = .tuple #[.int .i64 x, .bool (decide (L ≠ []))] ∧ (L = [] → x = 0) ∧ (L ≠ [] → minF (L.map (·.1)) x) := by
  intro R hR
  refine f63_calls cap a n c w R ?_
  unfold f63_vc
  have hn := hL.len_le
  intro n1 hn1
  refine ⟨fun v W' => At w [n1] W' ∧ ∃ k : Nat, v.2.1 = k ∧ k ≤ L.length ∧ (k = 0 → v.1 = 0) ∧ (0 < k → minF ((L.take k).map (·.1)) v.1), fun v _ => ((n : Int) - v.2.1).toNat, fun w4 hb4 hu => ⟨⟨((At.refl w).call hb4).chg, hu⟩, 0, rfl, Nat.zero_le _, fun _ => rfl, fun h => by omega⟩, ?_⟩
  rintro x5 x6 w7 ⟨hA, k, hk, hkl, h0, h1⟩
  simp only at hk h0 h1
  subst hk
  refine brD (fun hlt => ?_) (fun hge w14 hb14 hu => ?_)
  · obtain ⟨y, hy⟩ : ∃ x, L[k]? = some x := ⟨_, List.getElem?_eq_getElem (by omega)⟩
    obtain ⟨ad, g1, el, _⟩ := elt_at (P := Try.prog) (k := .i64) (t := 111) (hL.call hA.below) hy (e := 25) (by kernel_rfl) (by kernel_rfl)
    have tk : (L.take (k + 1)).map (·.1) = (L.take k).map (·.1) ++ [y.1] := by rw [List.take_add_one, hy, List.map_append]; rfl
    rw [succ_i k (by omega)]
    have rd := (el.sub (o := 2) (by decide)).one (P := Try.prog) (te := 2) (ds := []) (by kernel_rfl) (by simp)
    refine brE (fun hk0 => ⟨ad, g1, _, rd, ⟨hA, k + 1, rfl, by omega, fun h => by omega, fun _ => ?_⟩, by simp only; omega⟩) (fun hk0 => ⟨ad, g1, _, rd, brD (fun hc => ⟨ad, g1, _, rd, ⟨hA, k + 1, rfl, by omega, fun h => by omega, fun _ => ?_⟩, by simp only; omega⟩) (fun hc => ⟨⟨hA, k + 1, rfl, by omega, fun h => by omega, fun _ => ?_⟩, by simp only; omega⟩)⟩)
    · have : k = 0 := by omega
      subst this
      rw [tk]
      exact ⟨⟨y.1, by simp, rfl⟩, fun z hz => by simp at hz; rw [hz]; exact Int.le_refl _⟩
    · obtain ⟨⟨z, hz, e⟩, hm⟩ := h1 (by omega)
      rw [tk]
      refine ⟨⟨y.1, by simp, rfl⟩, fun u hu => ?_⟩
      rcases List.mem_append.1 hu with hu | hu
      · have := hm u hu
        omega
      · rw [List.mem_singleton] at hu
        rw [hu]
        exact Int.le_refl _
    · obtain ⟨⟨z, hz, e⟩, hm⟩ := h1 (by omega)
      rw [tk]
      refine ⟨⟨z, List.mem_append_left _ hz, e⟩, fun u hu => ?_⟩
      rcases List.mem_append.1 hu with hu | hu
      · exact hm u hu
      · rw [List.mem_singleton] at hu
        rw [hu]
        omega
  · have hkL : k = L.length := by omega
    have hA2 : At w [n1] w14 := ⟨(hA.call hb14).chg, hu⟩
    rw [hkL, List.take_length] at h1
    refine hR _ _ hA2.below ⟨x5, ?_, fun e => h0 (by rw [hkL, e]; rfl), fun hne => h1 (List.length_pos_iff.2 hne)⟩
    congr 4
    refine congrArg Value.bool ?_
    rw [decide_eq_decide, Ne, ← List.length_eq_zero_iff]
    omega
theorem c64 {L : List TR} {a : Option Addr} {n c : Nat} {V : List PartT} {s : Sl3} (cap f0 a0 : Int) (w : World) (hL : RF w L a n c) (hV : SlE w 3 partE V s.1 s.2.1 s.2.2) : Ret Try.prog 64 #[m2V cap a n c, .int .i64 f0, .int .i64 a0, slW s] w (.bool (L.any fun y => decide (y.1.1 = f0 ∧ y.1.2.1 = a0) && holdsB y.1.2.2.2 V)) := by
  intro R hR
  refine f64_calls cap a n c f0 a0 _ _ _ w R ?_
  unfold f64_vc
  have hn := hL.sl.len_le
  intro n1 hn1
  refine ⟨fun v W' => At w [n1] W' ∧ ∃ k : Nat, v.1 = k ∧ k ≤ L.length ∧ ∀ t y, t < k → L[t]? = some y → (decide (y.1.1 = f0 ∧ y.1.2.1 = a0) && holdsB y.1.2.2.2 V) = false, fun v _ => ((n : Int) - v.1).toNat, fun w4 hb4 hu => ⟨⟨((At.refl w).call hb4).chg, hu⟩, 0, rfl, Nat.zero_le _, fun t y h => by omega⟩, ?_⟩
  rintro x5 w6 ⟨hA, k, hk, hkl, hmin⟩
  simp only at hk
  subst hk
  refine brD (fun hlt => ?_) (fun hge => leaf hR hA ?_)
  · obtain ⟨y, hy⟩ : ∃ x, L[k]? = some x := ⟨_, List.getElem?_eq_getElem (by omega)⟩
    have hym := List.mem_of_getElem? hy
    obtain ⟨ad, g1, el, _⟩ := elt_at (P := Try.prog) (k := .i64) (t := 111) (hL.sl.call hA.below) hy (e := 25) (by kernel_rfl) (by kernel_rfl)
    have next : ∀ {W' : World}, At w [n1] W' → (decide (y.1.1 = f0 ∧ y.1.2.1 = a0) && holdsB y.1.2.2.2 V) = false → (At w [n1] W' ∧ ∃ j : Nat, ((k + 1 : Nat) : Int) = j ∧ j ≤ L.length ∧ ∀ t y, t < j → L[t]? = some y → (decide (y.1.1 = f0 ∧ y.1.2.1 = a0) && holdsB y.1.2.2.2 V) = false) ∧ ((n : Int) - ((k + 1 : Nat) : Int)).toNat < ((n : Int) - (k : Int)).toNat := fun hA hf => ⟨⟨hA, k + 1, rfl, by omega, fun t z ht hz => by
      by_cases htk : t = k
      · subst htk
        rw [hy] at hz
        cases hz
        exact hf
      · exact hmin t z (by omega) hz⟩, by omega⟩
    rw [succ_i k (by omega)]
    refine ⟨ad, g1, _, el.one (by kernel_rfl) (by simp), brE (fun h1 => ?_) (fun h1 => next hA (by rw [decide_eq_false fun hh => h1 hh.1]; rfl))⟩
    refine ⟨ad, g1, _, (el.sub (o := 1) (by decide)).one (by kernel_rfl) (by simp), brE (fun h2 => ?_) (fun h2 => next hA (by rw [decide_eq_false fun hh => h2 hh.2]; rfl))⟩
    refine ⟨ad, g1, _, _, _, (el.sub (o := 3) (by decide)).one (by kernel_rfl) (by simp), ?_⟩
    refine at_callb hA (c106 w6 (SlR.call (hL.vs y hym) hA.below) (SlR.call hV hA.below)) fun w16 hA hk hb16 => ⟨_, rfl, hk, fun ht => leaf hR hA ?_, fun hf => next hA (by rw [hf, Bool.and_false])⟩
    refine congrArg (fun b => Ending.returned (Value.bool b)) ?_
    rw [eq_comm, List.any_eq_true]
    exact ⟨y, hym, by rw [ht, decide_eq_true ⟨h1, h2⟩]; rfl⟩
  · refine congrArg (fun b => Ending.returned (Value.bool b)) ?_
    rw [eq_comm, List.any_eq_false]
    intro x hx
    obtain ⟨j, hj, rfl⟩ := List.mem_iff_getElem.1 hx
    rw [hmin j _ (by omega) (List.getElem?_eq_getElem hj)]
    decide
theorem c66 {L1 L2 : List TR} {a a2 : Option Addr} {n c n2 c2 : Nat} (w : World) (h1 : RF w L1 a n c) (h2 : RF w L2 a2 n2 c2) : RetQ Try.prog 66 #[.slice a n c, .slice a2 n2 c2] w fun v _ => ∃ b : Bool, v = .bool b ∧ (b = true ↔ L1.map (·.1) = L2.map (·.1)) := by
  intro R hR
  refine f66_calls a n c a2 n2 c2 w R ?_
  unfold f66_vc
  have hn := h1.sl.len_le
  have hn2 := h2.sl.len_le
  have no : ∀ {w'}, At w [] w' → L1.map (·.1) ≠ L2.map (·.1) → R (.returned (.bool false)) w' := fun hA hne => hR _ _ hA.below ⟨false, rfl, fun e => (by cases e), fun e => absurd e hne⟩
  refine brN (fun hne => no (At.refl w) fun e => ?_) (fun he => ?_)
  · have := congrArg List.length e
    rw [List.length_map, List.length_map] at this
    omega
  refine ⟨fun v W' => At w [] W' ∧ ∃ k : Nat, v.1 = k ∧ k ≤ L1.length ∧ (L1.take k).map (·.1) = (L2.take k).map (·.1), fun v _ => ((n : Int) - v.1).toNat, ⟨At.refl w, 0, rfl, Nat.zero_le _, by simp⟩, ?_⟩
  rintro x3 w4 ⟨hA, k, hk, hkl, hs⟩
  simp only at hk
  subst hk
  refine brD (fun hlt => ?_) (fun hge => hR _ _ hA.below ⟨true, rfl, fun _ => ?_, fun _ => rfl⟩)
  · obtain ⟨x, hx⟩ : ∃ x, L1[k]? = some x := ⟨_, List.getElem?_eq_getElem (by omega)⟩
    obtain ⟨y, hy⟩ : ∃ x, L2[k]? = some x := ⟨_, List.getElem?_eq_getElem (by omega)⟩
    obtain ⟨ad, g1, el, _⟩ := elt_at (P := Try.prog) (k := .i64) (t := 111) (h1.sl.call hA.below) hx (e := 25) (by kernel_rfl) (by kernel_rfl)
    obtain ⟨ad2, g2, el2, _⟩ := elt_at (P := Try.prog) (k := .i64) (t := 111) (h2.sl.call hA.below) hy (e := 25) (by kernel_rfl) (by kernel_rfl)
    refine ⟨ad, g1, _, _, _, _, _, _, el.agg 4 (by kernel_rfl) (by kernel_rfl) (by simp) (by simp), ad2, g2, _, _, _, _, _, _, el2.agg 4 (by kernel_rfl) (by kernel_rfl) (by simp) (by simp), fun w19 hb19 => ?_⟩
    have hA := hA.call hb19
    refine at_callb hA (c112 x y w19 (SlR.call (h1.vs x (List.mem_of_getElem? hx)) hA.below) (SlR.call (h2.vs y (List.mem_of_getElem? hy)) hA.below)) fun w21 hA _ _ => ⟨_, rfl, brNB (fun hf => no hA fun e => ?_) (fun ht => ?_)⟩
    · have e1 : (L1.map (·.1))[k]? = some x.1 := by rw [List.getElem?_map, hx]; rfl
      have e2 : (L2.map (·.1))[k]? = some y.1 := by rw [List.getElem?_map, hy]; rfl
      rw [e, e2] at e1
      exact of_decide_eq_false hf (Option.some.inj e1).symm
    · rw [succ_i k (by omega)]
      refine ⟨⟨hA, k + 1, rfl, by omega, ?_⟩, by simp only; omega⟩
      rw [List.take_add_one, List.take_add_one, hx, hy, List.map_append, List.map_append, hs]
      show _ ++ [x.1] = _ ++ [y.1]
      rw [of_decide_eq_true ht]
  · rw [show k = L1.length by omega, List.take_length, show L1.length = L2.length by omega, List.take_length] at hs
    exact hs
end Go.Vc.J

/- Filters: each act as the reference does: the walk. -/
set_option maxRecDepth 20000
set_option maxHeartbeats 2000000
namespace Go.Vc.J
open Go Go.Vc Go.Vc.V Go.RowKit Go.Proofs Vct

variable {w W W' W2 : World} {M N : Nat → Prop} {gs ds : List Nat} {g r : Nat} {cap long : Int} {m : FlM} {B : Nat → Prop} {D : FlD}

structure BothF (D : FlD) (L : List TR) : Prop where
  srt : SrtF (L.map (·.1))
  mem : ∀ y, y ∈ L.map (·.1) ↔ y ∈ allF D
variable {L : List TR}
theorem BothF.len (h : BothF D L) (hG : GoodF D) : L.length = lenD D := by
  have hp : (L.map (·.1)).Perm (allF D) := (List.perm_ext_iff_of_nodup h.srt.nodup hG.nodup).2 h.mem
  have := hp.length_eq
  rwa [List.length_map, ← lenD_all] at this
theorem both_put {a : Option Addr} {n c : Nat} {f : TR} {v : Value} {w' : World} (hG : GoodF D) (h : BothF D L) (hq : refPQ W cap L a n c f v w') :
    ∃ (e : Int) (a' : Option Addr) (n' c' : Nat) (L' : List TR), v = .tuple #[m2V cap a' n' c', .int .i64 e] ∧ e = (putD cap D f.1).1 ∧ BothF (putD cap D f.1).2 L' ∧ ((L' = L ∧ a' = a ∧ n' = n ∧ c' = c) ∨ OwnL W [] w' 25 4 trE (.slice a' n' c') L') ∧ ∀ x ∈ L', x = f ∨ x ∈ L := by
  have hin : f.1 ∈ L.map (·.1) ↔ f.1 ∈ rowD D (keyK f.1) := by rw [h.mem, hG.mem_all]
  have hlen := h.len hG
  rcases hq with ⟨e, ev, hc⟩ | ⟨h1, h2, h3, a', n', c', ev, ho⟩
  · have hp : putD cap D f.1 = (e, D) := by
      unfold putD
      rcases hc with ⟨h1, rfl⟩ | ⟨h1, h2, rfl⟩ | ⟨h1, h2, h3, rfl⟩
      · rw [if_pos h1]
      · rw [if_neg fun hh => hh h1, if_pos (hin.1 h2)]
      · rw [if_neg fun hh => hh h1, if_neg fun hh => h2 (hin.2 hh), if_pos (by omega)]
    exact ⟨e, a, n, c, L, ev, by rw [hp], by rw [hp]; exact h, .inl ⟨rfl, rfl, rfl, rfl⟩, fun x hx => .inr hx⟩
  · have hno : f.1 ∉ allF D := fun hh => h2 ((h.mem _).2 hh)
    have h3' : ¬ cap ≤ lenD D := by omega
    refine ⟨0, a', n', c', refIns f L, ev, ?_, ⟨refIns_srt h.srt h2, fun y => ?_⟩, .inr ho, fun x hx => refIns_mem.1 hx⟩
    · unfold putD
      rw [if_neg fun hh => hh h1, if_neg fun hh => h2 (hin.2 hh), if_neg h3']
    · rw [hG.put_mem h1 hno h3', ← h.mem, List.mem_map, List.mem_map]
      constructor
      · rintro ⟨x, hx, rfl⟩
        rcases refIns_mem.1 hx with rfl | hx
        · exact .inl rfl
        · exact .inr ⟨x, hx, rfl⟩
      · rintro (rfl | ⟨x, hx, rfl⟩)
        · exact ⟨f, refIns_mem.2 (.inl rfl), rfl⟩
        · exact ⟨x, refIns_mem.2 (.inr hx), rfl⟩
theorem both_gone {p : TkT → Bool} {res : Int} {D' : FlD} (hG : GoodF D) (h : BothF D L) (hd : goneR p D res D') : BothF D' (L.filter fun y => !p y.1) ∧ res = (L.length : Int) - (L.filter fun y => !p y.1).length := by
  obtain ⟨D1, hp, rfl, rfl⟩ := hd
  have hm : (L.filter fun y => !p y.1).map (·.1) = (L.map (·.1)).filter fun y => !p y := by
    rw [List.filter_map]
    rfl
  have hb : BothF (dropD p D1) (L.filter fun y => !p y.1) := by
    refine ⟨by rw [hm]; exact h.srt.sublist List.filter_sublist, fun y => ?_⟩
    rw [hm, List.mem_filter, drop_all hp, h.mem]
    simp
  refine ⟨hb, ?_⟩
  rw [h.len hG, hb.len (hG.drop hp p)]
theorem goW_lt {kind n : Int} (h : kind < 0) (y : TkT) : decide (goW 3 n y) = goneP kind n y := by
  rw [Bool.eq_iff_iff, decide_eq_true_iff]
  unfold goW goneP
  rw [if_neg (by omega), if_neg (by omega), decide_eq_true_iff]
  omega
theorem goW_ge {kind n : Int} (h : ¬ kind < 0) (h0 : kind ≠ 0) (y : TkT) : decide (goW (cl3 kind) n y) = goneP kind n y := by
  rw [Bool.eq_iff_iff, decide_eq_true_iff]
  have hc : (kind = 1 ∧ cl3 kind = 1) ∨ (kind = 2 ∧ cl3 kind = 2) ∨ (3 ≤ kind ∧ cl3 kind = 3) := by
    by_cases h1 : kind = 1
    · subst h1
      exact .inl ⟨rfl, rfl⟩
    · by_cases h2 : kind = 2
      · subst h2
        exact .inr (.inl ⟨rfl, rfl⟩)
      · refine .inr (.inr ⟨by omega, ?_⟩)
        unfold cl3
        rw [if_neg (show ¬ kind < 3 by omega), if_pos (by decide)]
  unfold goW goneP
  rcases hc with ⟨rfl, e⟩ | ⟨rfl, e⟩ | ⟨h3, e⟩
  · rw [e, if_pos rfl, decide_eq_true_iff]
    omega
  · rw [e, if_neg (by decide), if_pos rfl, decide_eq_true_iff]
    omega
  · rw [e, if_neg (by omega), if_neg (by omega), decide_eq_true_iff]
    omega
theorem both_blocks (hG : GoodF D) (h : BothF D L) (f a : Int) (V : List PartT) : blocksD D (f, a) V = L.any fun y => decide (y.1.1 = f ∧ y.1.2.1 = a) && holdsB y.1.2.2.2 V := by
  rw [Bool.eq_iff_iff, blocksD_iff, List.any_eq_true]
  constructor
  · rintro ⟨y, hy, hv⟩
    obtain ⟨h1, h2⟩ := hG.mem_row.1 hy
    obtain ⟨x, hx, rfl⟩ := List.mem_map.1 ((h.mem y).2 h1)
    refine ⟨x, hx, ?_⟩
    rw [hv, Bool.and_true]
    exact decide_eq_true ⟨congrArg Prod.fst h2, congrArg Prod.snd h2⟩
  · rintro ⟨x, hx, hv⟩
    rw [Bool.and_eq_true, decide_eq_true_iff] at hv
    obtain ⟨⟨h1, h2⟩, h3⟩ := hv
    exact ⟨x.1, hG.mem_row.2 ⟨(h.mem _).1 (List.mem_map.2 ⟨x, hx, rfl⟩), Prod.ext h1 h2⟩, h3⟩
theorem minF_same {l1 l2 : List TkT} {a b : Int} (h : ∀ y, y ∈ l1 ↔ y ∈ l2) (h1 : minF l1 a) (h2 : minF l2 b) : a = b := by
  obtain ⟨⟨x, hx, rfl⟩, hm1⟩ := h1
  obtain ⟨⟨y, hy, rfl⟩, hm2⟩ := h2
  have := hm1 y ((h y).2 hy)
  have := hm2 x ((h x).1 hx)
  omega
theorem law11 {LA : List AcF} {a : Option Addr} {n c : Nat} {V : List PartT} {s : Sl3} (cap : Int) (w : World) (har : CF w LA a n c) (hV : SlE w 3 partE V s.1 s.2.1 s.2.2) : Ret Try.prog 11 #[.int .i64 cap, .slice a n c, slW s] w (.bool true) := by
  intro R hR
  refine f11_calls cap a n c _ _ _ w R ?_
  unfold f11_vc
  have hn := har.sl.len_le
  refine at_callq (At.refl w) (c12 w har) fun v w2 hA _ hb2 ⟨b, e, hfew⟩ => ?_
  subst e
  refine ⟨_, rfl, brNB (fun _ => leaf hR hA rfl) (fun hb => brD (fun _ => leaf hR hA rfl) (fun hv150 => ?_))⟩
  have hfew := hfew hb
  refine at_callq hA (c13 cap w2) fun v w5 hA _ hb5 hq => ?_
  rcases hq with ⟨hlt, e⟩ | ⟨hcap, g, e, hX⟩
  · subst e
    exact ⟨_, rfl, brD (fun _ => ⟨true, (fun W => rfl), brB (fun _ => at_callb hA (c19 w5) fun w9 hA _ _ => ⟨_, rfl, leaf hR hA rfl⟩) (fun e => by cases e)⟩) (fun hh => absurd hlt hh)⟩
  subst e
  have hs2 := hb2.size
  have hs5 := hb5.size
  refine ⟨_, rfl, brD (fun hh => by omega) (fun _ => ?_)⟩
  intro n11 hn11
  refine ⟨fun v W' => At w [n11] W' ∧ ∃ (i : Nat) (D : FlD) (B : Nat → Prop) (L : List TR), v.1 = i ∧ i ≤ LA.length ∧ v.2.1 = cap ∧ FlX W' B g cap D ∧ GoodF D ∧ lenD D ≤ i ∧ BothF D L ∧ (∀ b, B b → w.heap.size ≤ b) ∧ ¬ B n11 ∧ OwnL w [n11] W' 25 4 trE (.slice v.2.2.1.1 v.2.2.1.2.1 v.2.2.1.2.2) L ∧ (∀ k, (Value.slice v.2.2.1.1 v.2.2.1.2.1 v.2.2.1.2.2).ownBlock = some k → ¬ B k) ∧ ∀ x ∈ L, VecR w x, fun v _ => ((n : Int) - v.1).toNat, fun w14 hev hu => ?_, ?_⟩
  · have hb14 := hev.bel (by simpa using hn11)
    exact ⟨⟨(hA.call hb14).chg, hu⟩, 0, [], fun b => w.heap.size ≤ b ∧ b < w5.heap.size, [], rfl, Nat.zero_le _, rfl, (hX.mono fun b hb hh => ⟨by omega, hb⟩).call hb14, GoodF.nil, Nat.le_refl _, ⟨List.Pairwise.nil, fun _ => Iff.rfl⟩, fun b h => h.1, fun h => by have := h.2; omega, OwnL.nil, (fun _ h => by cases h), by simp⟩
  rintro x15 x16 a17 n18 n19 w20 ⟨hA, i, D, B, L, hi, hil, e16, hX, hG, hlD, hbo, hB, hBn, ho, hrB, hvs⟩
  simp only at hi e16 ho hrB
  subst hi e16
  have hn20 := hA.under n11 (by simp)
  have hsz20 := hA.size
  have hLl := hbo.len hG
  have holen := ho.len
  refine brD (fun hlt => ?_) (fun hge w95 hb95 hu => ?_)
  · obtain ⟨x, hx⟩ : ∃ x, LA[i]? = some x := ⟨_, List.getElem?_eq_getElem (by omega)⟩
    have hfw := har.vs x (List.mem_of_getElem? hx)
    obtain ⟨ad, g1, el, _⟩ := elt_at (P := Try.prog) (k := .i64) (t := 22) (har.sl.call hA.below) hx (e := 31) (by kernel_rfl) (by kernel_rfl)
    refine ⟨ad, g1, _, _, _, _, _, _, _, _, el.agg 6 (by kernel_rfl) (by kernel_rfl) (by simp) (by simp), fun n30 hn30 w31 hev hu => ?_⟩
    have hb31 := hev.bel (by simpa using hn30)
    have hA31 : At w [n11, n30] w31 := ⟨(hA.call hb31).chg, hu⟩
    have hX31 : FlX w31 (fun b => B b ∧ b < w20.heap.size) g x16 D := (hX.mono fun b hb h => ⟨h, hb⟩).call hb31
    have hs31 := hb31.size
    have hn3031 := hA31.under n30 (by simp)
    have ho31 : OwnL w [n11, n30] w31 25 4 trE (.slice a17 n18 n19) L := (ho.more (gs' := [n11, n30]) (fun q hq hnq => by simp at hq hnq; omega)).call hb31
    have hrlt := ho.lt
    refine do_one hA31 hX31 (fun b h => hB b h.1) (fun b hb hh => by
      simp at hb
      rcases hb with rfl | rfl
      · exact hBn hh.1
      · have := hh.2; omega) hG (by omega) (SlR.call hfw hA31.below) fun w33 res D' hA33 hk33 hc33 hd hX33 => ⟨_, rfl, hk33, ?_⟩
    obtain ⟨hG', hl'⟩ := doneR_good hG hd
    have ho33 := ho31.chg hc33 fun k hk hn => hrB k hk hn.1
    have hs33 := hc33.size
    have hX33 : FlX w33 (fun b => ((B b ∧ b < w20.heap.size) ∨ w31.heap.size ≤ b) ∧ b < w33.heap.size) g x16 D' := hX33.mono fun b hb h => ⟨h, hb⟩
    have hB1 : ∀ b, (((B b ∧ b < w20.heap.size) ∨ w31.heap.size ≤ b) ∧ b < w33.heap.size) → w.heap.size ≤ b := fun b h => h.1.elim (fun h => hB b h.1) fun h => by omega
    have hBn1 : ¬ (((B n11 ∧ n11 < w20.heap.size) ∨ w31.heap.size ≤ n11) ∧ n11 < w33.heap.size) := fun h => h.1.elim (fun h => hBn h.1) fun h => by omega
    have hRF33 : RF w33 L a17 n18 n19 := ⟨ho33.sl fun _ _ => rfl, fun y hy => SlR.call (hvs y hy) hA33.below⟩
    refine ⟨fun v W' => At w [n11, n30] W' ∧ v.1 = x16 ∧ ∃ (B' : Nat → Prop) (L' : List TR), FlX W' B' g x16 D' ∧ BothF D' L' ∧ (∀ b, B' b → w.heap.size ≤ b) ∧ ¬ B' n11 ∧ OwnL w [n11] W' 25 4 trE (.slice v.2.1.1 v.2.1.2.1 v.2.1.2.2) L' ∧ (∀ k, (Value.slice v.2.1.1 v.2.1.2.1 v.2.1.2.2).ownBlock = some k → ¬ B' k) ∧ ∀ x ∈ L', VecR w x, ⟨fun h0 => ?_, fun h0 => ?_⟩, ?_⟩
    · have h0 : x.1 = 0 := by simpa using h0
      unfold doneR at hd
      rw [if_pos h0] at hd
      refine at_callq hA33 (c60 x16 w33 hRF33 (by omega) (SlR.call hfw hA33.below)) fun v w37 hA37 hk37 hb37 hq => ?_
      obtain ⟨e, a', n', c', L', ev, ee, hbo', hown, hmem⟩ := both_put hG hbo hq
      subst ev
      rw [← hd] at ee hbo'
      simp only at ee hbo'
      refine ⟨_, _, _, _, _, rfl, hk37, fun n43 hn43 => brN (fun hne => absurd ee.symm hne) (fun _ w45 hev hu => ?_)⟩
      have hs37 := hb37.size
      have hA45 := hA37.evo (gs' := [n11, n30]) (by simp; omega) hev (fun q hq => hu q (by simp at hq ⊢; grind))
      have hX45 := (hX33.call hb37).evo hev fun d hd hh => by
        simp at hd
        rcases hd with rfl | rfl
        · exact hBn1 hh
        · have := hh.2; omega
      have hn1137 := hA37.under n11 (by simp)
      have hown37 : OwnL w [n11, n30] w37 25 4 trE (.slice a' n' c') L' ∧ ∀ k, (Value.slice a' n' c').ownBlock = some k → ¬ (((B k ∧ k < w20.heap.size) ∨ w31.heap.size ≤ k) ∧ k < w33.heap.size) := by
        rcases hown with ⟨rfl, rfl, rfl, rfl⟩ | ho'
        · refine ⟨ho33.call hb37, fun k hk hh => hh.1.elim (fun h => hrB k hk h.1) fun h => ?_⟩
          have := hrlt k hk
          omega
        · have hge : ∀ k, (Value.slice a' n' c').ownBlock = some k → w33.heap.size ≤ k := fun k hk => (ho'.mine k hk).resolve_right id
          refine ⟨ho'.base (fun k hk => .inl (by have := hge k hk; omega)) (fun d hd he => by have := hge d he; simp at hd; omega), fun k hk hh => by have := hge k hk; have := hh.2; omega⟩
      refine ⟨hA45, rfl, _, L', hX45, hbo', hB1, hBn1, ?_, hown37.2, fun y hy => ?_⟩
      · exact (hown37.1.evo (by intro d hd hd2; simp at hd hd2; omega) hev).base (gs' := [n11]) (fun k hk => hown37.1.mine k hk) (fun d hd => hown37.1.apart d (by simp at hd ⊢; exact .inl hd))
      · rcases hmem y hy with rfl | hy
        · exact hfw
        · exact hvs y hy
    · have h0 : x.1 ≠ 0 := by simpa using h0
      unfold doneR at hd
      rw [if_neg h0] at hd
      obtain ⟨hbo', hres⟩ := both_gone hG hbo hd
      have hfl := List.length_filter_le (fun y : TR => !goneP x.1 x.2.1 y.1) L
      refine at_callq hA33 (c61 x16 (cl3 x.1) x.2.1 w33 hRF33.sl (by omega)) fun v w47 hA47 hk47 hb47 ⟨a', n', c', ev, ho'⟩ => ?_
      subst ev
      refine ⟨_, _, _, _, rfl, hk47, fun n52 hn52 => ?_⟩
      have hs47 := hb47.size
      refine ⟨fun v W' => At w [n11, n30, n52] W' ∧ v.1 = x16 ∧ Bel w33 W' ∧ OwnL w33 [] W' 25 4 trE (.slice v.2.1.1 v.2.1.2.1 v.2.1.2.2) (L.filter fun y => !goneP x.1 x.2.1 y.1), ⟨fun hk0 w54 hev hu => ?_, fun hk0 w62 hev hu => ?_⟩, ?_⟩
      · have hk0 : x.1 < 0 := by simpa using hk0
        have hb54 := hev.bel (by simpa using hn52)
        have hA54 : At w [n11, n30, n52] w54 := ⟨(hA47.call hb54).chg, hu⟩
        refine at_callq hA54 (c61 x16 3 x.2.1 w54 (hRF33.sl.call (hb47.trans hb54)) (by omega)) fun v w56 hA56 hk56 hb56 ⟨a2, n2, c2, ev, ho2⟩ => ?_
        subst ev
        refine ⟨_, _, _, _, rfl, hk56, fun w61 hev2 hu2 => ?_⟩
        have hs54 := hb54.size
        have hA61 := hA56.evo (gs' := [n11, n30, n52]) (by simp; omega) hev2 hu2
        have hAA : AtF w33 noB [n52] w56 := ⟨Chg.of_below ((hb47.trans hb54).trans hb56), fun q hq => hA56.under q (by simp at hq ⊢; exact .inr (.inr hq))⟩
        have hb61 := (hAA.evo (gs' := [n52]) (by simp; omega) hev2 (fun q hq => hu2 q (by simp at hq ⊢; exact .inr (.inr hq)))).below
        have hge : ∀ k, (Value.slice a2 n2 c2).ownBlock = some k → w54.heap.size ≤ k := fun k hk => (ho2.mine k hk).resolve_right id
        have hn5254 := hA54.under n52 (by simp)
        have ho2' : OwnL w33 [n52] w56 25 4 trE (.slice a2 n2 c2) (L.filter fun y => !decide (goW 3 x.2.1 y.1)) := ho2.base (fun k hk => .inl (by have := hge k hk; omega)) (fun d hd he => by have := hge d he; simp at hd; omega)
        have ho3 := (ho2'.evo (by intro d hd hd2; exact absurd hd hd2) hev2).more (gs' := []) (by simp)
        rw [show (fun y : TR => !decide (goW 3 x.2.1 y.1)) = fun y : TR => !goneP x.1 x.2.1 y.1 from by funext y; rw [goW_lt hk0]] at ho3
        exact ⟨hA61, rfl, hb61, ho3⟩
      · have hk0 : ¬ x.1 < 0 := by simpa using hk0
        have hb62 := hev.bel (by simpa using hn52)
        have ho3 := ho'.call hb62
        rw [show (fun y : TR => !decide (goW (cl3 x.1) x.2.1 y.1)) = fun y : TR => !goneP x.1 x.2.1 y.1 from by funext y; rw [goW_ge hk0 h0]] at ho3
        exact ⟨⟨(hA47.call hb62).chg, hu⟩, rfl, hb47.trans hb62, ho3⟩
      · rintro x63 a64 n65 n66 w67 ⟨hA67, e63, hb67, ho67⟩
        simp only at e63 ho67
        subst e63
        have hn65 := ho67.len
        have hwr : IntKind.i64.wrap ((n18 : Int) - (n65 : Int)) = res := by
          rw [wrap_i64 (by omega) (by omega), holen, hn65, hres]
        rw [hwr]
        refine brN (fun hh => absurd rfl hh) (fun _ w68 hev hu => ?_)
        have hn1133 := hA33.under n11 (by simp)
        have hA68 := hA67.evo (gs' := [n11, n30]) (by simp; omega) hev (fun q hq => hu q (by simp at hq ⊢; grind))
        have hge : ∀ k, (Value.slice a64 n65 n66).ownBlock = some k → w33.heap.size ≤ k := fun k hk => (ho67.mine k hk).resolve_right id
        have ho67' : OwnL w [n11] w67 25 4 trE (.slice a64 n65 n66) (L.filter fun y => !goneP x.1 x.2.1 y.1) := ho67.base (fun k hk => .inl (by have := hge k hk; omega)) (fun d hd he => by have := hge d he; simp at hd; omega)
        refine ⟨hA68, rfl, _, _, (hX33.call hb67).evo hev (fun d hd hh => by simp at hd; subst hd; exact hBn1 hh), hbo', hB1, hBn1, ho67'.evo (by intro d hd hd2; exact absurd hd hd2) hev, fun k hk hh => by have := hge k hk; have := hh.2; omega, fun y hy => hvs y (List.mem_filter.1 hy).1⟩
    · rintro x69 a70 n71 n72 w73 ⟨hA73, e69, B', L', hX73, hbo', hB', hBn', ho73, hrB', hvs'⟩
      simp only at e69 ho73 hrB'
      subst e69
      have hLl' := hbo'.len hG'
      have ho73len := ho73.len
      have hs73 := hA73.size
      refine at_callq hA73 (c62 hX73 hG' (by omega)) fun v w75 hA75 hk75 hb75 hnx => ?_
      have hX75 := hX73.call hb75
      obtain ⟨xv, bv, ev, hkey⟩ : ∃ (xv : Int) (bv : Bool), v = .tuple #[.int .i64 xv, .bool bv] ∧ ∀ x80 : Int, (L' = [] → x80 = 0) → (L' ≠ [] → minF (L'.map (·.1)) x80) → bv = decide (L' ≠ []) ∧ xv = x80 := by
        rcases hnx with ⟨h0, ev⟩ | ⟨nm, ev, hmn⟩
        · have hL0 : L' = [] := by
            cases hL : L' with
            | nil => rfl
            | cons z t =>
              have := (hbo'.mem z.1).1 (List.mem_map.2 ⟨z, by rw [hL]; exact List.mem_cons_self .., rfl⟩)
              rw [h0] at this
              cases this
          exact ⟨0, false, ev, fun x80 hz _ => ⟨(decide_eq_false fun hh => hh hL0).symm, (hz hL0).symm⟩⟩
        · have hne : L' ≠ [] := fun e => by
            obtain ⟨z, hz, _⟩ := hmn.1
            have := (hbo'.mem z).2 hz
            rw [e] at this
            cases this
          exact ⟨nm, true, ev, fun x80 _ hm => ⟨(decide_eq_true hne).symm, minF_same (fun y => (hbo'.mem y).symm) hmn (hm hne)⟩⟩
      subst ev
      refine ⟨_, _, rfl, hk75, ?_⟩
      have ho75 := ho73.call hb75
      refine at_callq hA75 (c63 x69 w75 (ho75.sl fun _ _ => rfl)) fun v w79 hA79 hk79 hb79 ⟨x80, ev, hz, hmn⟩ => ?_
      subst ev
      obtain ⟨e1, e2⟩ := hkey x80 hz hmn
      subst e1 e2
      refine ⟨_, _, rfl, hk79, fun n82 hn82 => brB (fun hh => absurd hh (by simp)) (fun _ => brN (fun hh => absurd rfl hh) (fun _ w85 hev hu => ?_))⟩
      have hb85 := hev.bel (by simpa using hn82)
      have hA85 : At w [n11, n30, n82] w85 := ⟨(hA79.call hb85).chg, hu⟩
      have hbb := (hb75.trans hb79).trans hb85
      have hX85 := hX73.call hbb
      refine at_callb hA85 (c15 hX85 x.2.2.1.1 x.2.2.1.2.1 (SlR.call hV hA85.below)) fun w87 hA87 hk87 hb87 => ⟨_, rfl, hk87, ?_⟩
      have ho87 := (ho73.call hbb).call hb87
      have hRF87 : RF w87 L' a70 n71 n72 := ⟨ho87.sl fun _ _ => rfl, fun y hy => SlR.call (hvs' y hy) hA87.below⟩
      refine at_callb hA87 (c64 x69 x.2.2.1.1 x.2.2.1.2.1 w87 hRF87 (SlR.call hV hA87.below)) fun w90 hA90 hk90 hb90 => ⟨_, rfl, hk90, ?_⟩
      rw [both_blocks hG' hbo']
      refine brB (fun hh => absurd hh (by simp)) (fun _ => ?_)
      have hX90 := (hX85.call hb87).call hb90
      refine at_callb hA90 (c65 hX90) fun w93 hA93 hk93 hb93 => ⟨_, rfl, hk93, brN (fun hh => absurd (by omega) hh) (fun _ => ?_)⟩
      rw [succ_i i (by omega)]
      exact ⟨⟨hA93.sub (by simp), i + 1, D', B', L', rfl, by omega, rfl, hX90.call hb93, hG', by omega, hbo', hB', hBn', (ho87.call hb90).call hb93, hrB', hvs'⟩, by simp only; omega⟩
  · have hA95 : At w [n11] w95 := ⟨(hA.call hb95).chg, hu⟩
    have hX95 := hX.call hb95
    refine at_callq hA95 (c57 hX95 hG (by omega)) fun v w97 hA97 hk97 hb97 ⟨l, a98, c100, ev, hol, hvl, hsl, hml⟩ => ?_
    subst ev
    refine ⟨_, _, _, rfl, hk97, ?_⟩
    have h1 : RF w97 l a98 l.length c100 := ⟨hol.sl fun _ _ => rfl, fun y hy => (hvl y hy).1.1⟩
    have h2 : RF w97 L a17 n18 n19 := ⟨((ho.call hb95).call hb97).sl fun _ _ => rfl, fun y hy => SlR.call (hvs y hy) hA97.below⟩
    refine at_callq hA97 (c66 w97 h1 h2) fun v w102 hA102 hk102 hb102 ⟨b, ev, hiff⟩ => ?_
    subst ev
    have hbt : b = true := hiff.2 (srtF_ext hsl hbo.srt fun y => by rw [hml, hbo.mem])
    subst hbt
    exact ⟨_, rfl, hk102, brB (fun _ => at_callb hA102 (c19 w102) fun w105 hA105 hk105 _ => ⟨_, rfl, hk105, leaf hR hA105 rfl⟩) (fun e => by cases e)⟩
end Go.Vc.J

