/- Own texts of this claim, laid together: Fz2, FZ3, VcIns, Fz4, Fz3, Fz5, FZ2, Fz6, Fz7, VcRange2, Fz8, JShelf, Fz9, FZ4. -/
import Derived.Test.YthfagnpgiciphaaMg1ab9c162
import Derived.Test.YthfagnpgiciphaaProg
import Derived.Lib.Overlaps
import Derived.Laws.Append
import Derived.Shelf.SlLaysF0
import Derived.Shelf.SlGeneric

/- Filters: how two stand, in the code. -/
set_option maxRecDepth 20000
set_option maxHeartbeats 1000000
namespace Go.Vc.J
open Go Go.Vc Go.Vc.V Go.RowKit Go.Proofs Vct

variable {w W W' W2 : World} {M N : Nat → Prop} {gs ds : List Nat}

theorem c169 (x : Int) (w : World) : Ret Try.prog 169 #[.int .i64 x] w (.bool false) := by
  intro R h
  refine f169_calls _ w R ?_
  unfold f169_vc
  first
    | exact leaf h (At.refl w) (by simp)
    | simpa using leaf h (At.refl w) rfl
theorem c144 (a b : Int) (w : World) : Ret Try.prog 144 #[.int .i64 a, .int .i64 b] w (.int .i64 (sg a b)) := by
  intro R h
  refine f144_calls _ _ w R ?_
  unfold f144_vc
  unfold sg at h
  refine at_callb (At.refl w) (c169 a w) fun w2 hA _ _ => ⟨_, rfl, at_callb hA (c169 b w2) fun w5 hA _ _ => ⟨_, rfl, brB (fun e => by cases e) (fun _ => brB (fun e => by cases e) (fun _ => ?_))⟩⟩
  refine brD (fun h1 => ?_) (fun h1 => brD (fun h2 => ?_) (fun h2 => ?_))
  · rw [if_pos h1] at h; exact leaf h hA rfl
  · rw [if_neg h1, if_pos h2] at h; exact leaf h hA rfl
  · rw [if_neg h1, if_neg h2] at h; exact leaf h hA rfl
abbrev ptV (p : PartT) : Value := .agg #[.int .i64 p.1, .int .i64 p.2.1, .int .i64 p.2.2]
theorem c143 (x y : PartT) (w : World) : Ret Try.prog 143 #[ptV x, ptV y] w (.int .i64 (cmp3 x y)) := by
  intro R h
  refine f143_calls _ _ _ _ _ _ w R ?_
  unfold f143_vc
  intro n1 hn1 n2 hn2 w3 hb3 hu3
  have hA : At w [n1, n2] w3 := ⟨((At.refl w).call hb3).chg, hu3⟩
  refine at_callb hA (c144 _ _ w3) fun w5 hA hk _ => ⟨_, rfl, hk, ?_⟩
  refine at_callb hA (c144 _ _ w5) fun w8 hA hk _ => ⟨_, rfl, hk, ?_⟩
  refine at_callb hA (c94 _ _ w8) fun w11 hA hk _ => ⟨_, rfl, hk, ?_⟩
  refine opw_litL (e' := 3) (f := fun x => [Value.int .i64 x]) (size := 1) (l := [sg x.1 y.1, sg x.2.1 y.2.1, sg x.2.2 y.2.2]) hA rfl (fun _ _ => rfl) (by decide) (by kernel_rfl) fun g w14 _ hA hk _ ho => ⟨_, _, _, rfl, hk, ?_⟩
  exact at_callb hA (c119 w14 (ho.sl fun _ _ => rfl) (by simp)) fun w19 hA hk _ => ⟨_, rfl, hk, leaf h hA rfl⟩
theorem c142 {l1 l2 : List PartT} {a1 a2 : Option Addr} {n1 c1 n2 c2 : Nat} (w : World) (h1 : SlE w 3 partE l1 a1 n1 c1) (h2 : SlE w 3 partE l2 a2 n2 c2) : Ret Try.prog 142 #[.slice a1 n1 c1, .slice a2 n2 c2, .func (.func 143) #[] #[]] w (.int .i64 (cmpL (flatV l1) (flatV l2))) := by
  intro R h
  refine f142_calls _ _ _ _ _ _ _ w R ?_
  unfold f142_vc
  have e1 := h1.len_le
  have e2 := h2.len_le
  refine ⟨fun v W' => At w [] W' ∧ ∃ k : Nat, v.1 = k ∧ k ≤ l1.length ∧ k ≤ l2.length ∧ cmpL (flatV (l1.drop k)) (flatV (l2.drop k)) = cmpL (flatV l1) (flatV l2), fun v _ => (n1 - v.1).toNat, ⟨At.refl w, 0, rfl, Nat.zero_le _, Nat.zero_le _, by simp⟩, ?_⟩
  rintro x3 w4 ⟨hA, k, hk, hk1, hk2, hc⟩
  simp only at hk
  subst hk
  refine brD (fun hlt => ?_) (fun hge => brD (fun hlt => leaf h hA ?_) (fun hge2 => leaf h hA ?_))
  · obtain ⟨x, hx⟩ : ∃ x, l1[k]? = some x := ⟨_, List.getElem?_eq_getElem (by omega)⟩
    have d1 := drop_cons hx
    obtain ⟨ad, g1, el, _⟩ := elt_at (P := Try.prog) (k := .i64) (t := 23) (h1.call hA.below) hx (e := 73) (by kernel_rfl) (by kernel_rfl)
    refine ⟨ad, g1, _, _, _, el.agg 3 (by kernel_rfl) (by kernel_rfl) (by simp) (by simp), fun n9 hn9 => brD (fun hge w10 hev hu => ?_) (fun hlt2 => ?_)⟩
    · have : k = l2.length := by omega
      rw [d1, this, List.drop_length] at hc
      refine leaf h (hA.evo (gs' := []) (by have := hA.size; simp; omega) hev (fun _ h => by cases h)) ?_
      rw [← hc]
      simp [flatV, cmpL]
    · obtain ⟨y, hy⟩ : ∃ y, l2[k]? = some y := ⟨_, List.getElem?_eq_getElem (by omega)⟩
      have d2 := drop_cons hy
      have hs := hA.size
      obtain ⟨ad2, g2, el2, _⟩ := elt_at (P := Try.prog) (k := .i64) (t := 23) (h2.call hA.below) hy (e := 73) (by kernel_rfl) (by kernel_rfl)
      have far : ∀ d ∈ [n9], d ≠ ad2.block := el2.far (by simpa using hn9)
      refine ⟨ad2, g2, _, _, _, el2.agg 3 (by kernel_rfl) (by kernel_rfl) (by simp) far, fun n15 hn15 w16 hev hu => ?_⟩
      have hA := hA.evo (gs' := [n9, n15]) (by simp; omega) hev hu
      rw [d1, d2, cmpV_cons] at hc
      refine at_inv hA (RetI.of (by kernel_rfl) (c143 x y w16)) fun w18 hA hk hb => ⟨_, rfl, hk, brN (fun hne => leaf h hA ?_) (fun he => ?_)⟩
      · rw [← hc, if_pos hne]
      · rw [if_neg (by simp [he])] at hc
        rw [succ_i k (by omega)]
        exact ⟨⟨hA.sub (by simp), k + 1, rfl, by omega, by omega, hc⟩, by simp only; omega⟩
  · have : k = l1.length := by omega
    obtain ⟨y, hy⟩ : ∃ y, l2[k]? = some y := ⟨_, List.getElem?_eq_getElem (by omega)⟩
    rw [this, List.drop_length, ← this, drop_cons hy] at hc
    rw [← hc]
    simp [flatV, cmpL]
  · rw [show k = l1.length by omega, List.drop_length, show l1.length = l2.length by omega, List.drop_length] at hc
    rw [← hc]
    simp [flatV, cmpL]
theorem c120 {l1 l2 : List PartT} {a1 a2 : Option Addr} {n1 c1 n2 c2 : Nat} (w : World) (h1 : SlE w 3 partE l1 a1 n1 c1) (h2 : SlE w 3 partE l2 a2 n2 c2) : Ret Try.prog 120 #[.slice a1 n1 c1, .slice a2 n2 c2] w (.int .i64 (cmpL (flatV l1) (flatV l2))) := by
  intro R h
  refine f120_calls _ _ _ _ _ _ w R ?_
  unfold f120_vc
  exact at_callb (At.refl w) (c142 w h1 h2) fun w2 hA _ _ => ⟨_, rfl, leaf h hA rfl⟩
theorem c78 (x y : TR) (w : World) (hx : VecR w x) (hy : VecR w y) : Ret Try.prog 78 #[trV x, trV y] w (.int .i64 (cfF x y)) := by
  intro R h
  refine f78_calls _ _ _ _ _ _ _ _ _ _ _ _ w R ?_
  unfold f78_vc
  intro n1 hn1 n2 hn2 w3 hb3 hu3
  have hA : At w [n1, n2] w3 := ⟨((At.refl w).call hb3).chg, hu3⟩
  refine at_callb hA (c94 _ _ w3) fun w5 hA hk _ => ⟨_, rfl, hk, ?_⟩
  refine at_callb hA (c94 _ _ w5) fun w8 hA hk _ => ⟨_, rfl, hk, ?_⟩
  refine at_callb hA (c94 _ _ w8) fun w11 hA hk _ => ⟨_, rfl, hk, ?_⟩
  refine at_callb hA (c120 w11 (SlR.call hx hA.below) (SlR.call hy hA.below)) fun w14 hA hk _ => ⟨_, rfl, hk, ?_⟩
  refine opw_litL (e' := 3) (f := fun x => [Value.int .i64 x]) (size := 1) (l := [sg x.1.1 y.1.1, sg x.1.2.1 y.1.2.1, sg x.1.2.2.1 y.1.2.2.1, cmpL (flatV x.1.2.2.2) (flatV y.1.2.2.2)]) hA rfl (fun _ _ => rfl) (by decide) (by kernel_rfl) fun g w17 _ hA hk _ ho => ⟨_, _, _, rfl, hk, ?_⟩
  have := c119 w17 (ho.sl fun _ _ => rfl) (by simp)
  rw [← aF_or] at this
  exact at_callb hA this fun w22 hA hk _ => ⟨_, rfl, hk, leaf h hA rfl⟩
/-! ### The reference -/
theorem c168 (x y : PartT) (w : World) : Ret Try.prog 168 #[ptV x, ptV y] w (.int .i64 (cmp3 x y)) := by
  intro R h
  refine f168_calls _ _ _ _ _ _ w R ?_
  unfold f168_vc
  intro n1 hn1 n2 hn2
  have hs : ∀ {w' : World}, Bel w w' → ∀ {v : Int}, v = cmp3 x y → R (.returned (.int .i64 v)) w' := fun hb _ e => e ▸ h _ hb
  have c3 : cmp3 x y = if sg x.1 y.1 ≠ 0 then sg x.1 y.1 else if sg x.2.1 y.2.1 ≠ 0 then sg x.2.1 y.2.1 else if sg x.2.2 y.2.2 ≠ 0 then sg x.2.2 y.2.2 else 0 := rfl
  refine brB (fun he w3 hb3 _ => hs hb3 ?_) (fun hne => ?_)
  · simp only [Bool.and_eq_true, beq_iff_eq, Bool.and_true] at he
    rw [c3]
    rcases sg_cases x.1 y.1 with ⟨_, e⟩ | ⟨_, e⟩ | ⟨_, e⟩ <;> rcases sg_cases x.2.1 y.2.1 with ⟨_, f⟩ | ⟨_, f⟩ | ⟨_, f⟩ <;> rcases sg_cases x.2.2 y.2.2 with ⟨_, g⟩ | ⟨_, g⟩ | ⟨_, g⟩ <;> first | (rw [e, f, g]; rfl) | omega
  · refine brD (fun h1 w4 hb4 _ => hs hb4 ?_) (fun h1 => brE (fun h2 => brD (fun h3 w5 hb5 _ => hs hb5 ?_) (fun h3 => brE (fun h4 => brD (fun h5 w6 hb6 _ => hs hb6 ?_) (fun h5 w7 hb7 _ => hs hb7 ?_)) (fun h4 w8 hb8 _ => hs hb8 ?_))) (fun h2 w9 hb9 _ => hs hb9 ?_))
    · rw [c3]
      rcases sg_cases x.1 y.1 with ⟨_, e⟩ | ⟨_, e⟩ | ⟨_, e⟩ <;> first | (rw [e]; rfl) | omega
    · rw [c3]
      rcases sg_cases x.1 y.1 with ⟨_, e⟩ | ⟨_, e⟩ | ⟨_, e⟩ <;> rcases sg_cases x.2.1 y.2.1 with ⟨_, f⟩ | ⟨_, f⟩ | ⟨_, f⟩ <;> first | (rw [e, f]; rfl) | omega
    · rw [c3]
      rcases sg_cases x.1 y.1 with ⟨_, e⟩ | ⟨_, e⟩ | ⟨_, e⟩ <;> rcases sg_cases x.2.1 y.2.1 with ⟨_, f⟩ | ⟨_, f⟩ | ⟨_, f⟩ <;> rcases sg_cases x.2.2 y.2.2 with ⟨_, g⟩ | ⟨_, g⟩ | ⟨_, g⟩ <;> first | (rw [e, f, g]; rfl) | omega
    · rw [c3]
      simp only [Bool.and_eq_false_imp, beq_iff_eq, Bool.and_true] at hne
      have hne := hne h2 h4
      rw [beq_eq_false_iff_ne] at hne
      rcases sg_cases x.1 y.1 with ⟨_, e⟩ | ⟨_, e⟩ | ⟨_, e⟩ <;> rcases sg_cases x.2.1 y.2.1 with ⟨_, f⟩ | ⟨_, f⟩ | ⟨_, f⟩ <;> rcases sg_cases x.2.2 y.2.2 with ⟨_, g⟩ | ⟨_, g⟩ | ⟨_, g⟩ <;> first | (rw [e, f, g]; rfl) | omega
    · rw [c3]
      rcases sg_cases x.1 y.1 with ⟨_, e⟩ | ⟨_, e⟩ | ⟨_, e⟩ <;> rcases sg_cases x.2.1 y.2.1 with ⟨_, f⟩ | ⟨_, f⟩ | ⟨_, f⟩ <;> first | (rw [e, f]; rfl) | omega
    · rw [c3]
      rcases sg_cases x.1 y.1 with ⟨_, e⟩ | ⟨_, e⟩ | ⟨_, e⟩ <;> first | (rw [e]; rfl) | omega
theorem c141 {l1 l2 : List PartT} {a1 a2 : Option Addr} {n1 c1 n2 c2 : Nat} (w : World) (h1 : SlE w 3 partE l1 a1 n1 c1) (h2 : SlE w 3 partE l2 a2 n2 c2) : Ret Try.prog 141 #[.slice a1 n1 c1, .slice a2 n2 c2] w (.int .i64 (cmpL (flatV l1) (flatV l2))) := by
  intro R h
  refine f141_calls _ _ _ _ _ _ w R ?_
  unfold f141_vc
  have e1 := h1.len_le
  have e2 := h2.len_le
  refine ⟨fun v W' => At w [] W' ∧ ∃ k : Nat, v.1 = k ∧ k ≤ l1.length ∧ k ≤ l2.length ∧ cmpL (flatV (l1.drop k)) (flatV (l2.drop k)) = cmpL (flatV l1) (flatV l2), fun v _ => (n1 - v.1).toNat, ⟨At.refl w, 0, rfl, Nat.zero_le _, Nat.zero_le _, by simp⟩, ?_⟩
  rintro x3 w4 ⟨hA, k, hk, hk1, hk2, hc⟩
  simp only at hk
  subst hk
  have hend : ∀ {v : Int}, (k = l1.length ∨ k = l2.length) → v = (if (n1 : Int) < n2 then -1 else if (n1 : Int) > n2 then 1 else 0) → R (.returned (.int .i64 v)) w4 := fun hk e => by
    refine leaf h hA ?_
    rw [e, ← hc]
    rcases Nat.lt_trichotomy l1.length l2.length with hl | hl | hl
    · have : k = l1.length := by omega
      obtain ⟨y, hy⟩ : ∃ y, l2[k]? = some y := ⟨_, List.getElem?_eq_getElem (by omega)⟩
      rw [this, List.drop_length, ← this, drop_cons hy, if_pos (by omega)]
      simp [flatV, cmpL]
    · have k1 : k = l1.length := by omega
      have k2 : k = l2.length := by omega
      rw [List.drop_eq_nil_of_le (by omega), List.drop_eq_nil_of_le (by omega), if_neg (by omega), if_neg (by omega)]
      simp [flatV, cmpL]
    · have : k = l2.length := by omega
      obtain ⟨y, hy⟩ : ∃ y, l1[k]? = some y := ⟨_, List.getElem?_eq_getElem (by omega)⟩
      rw [this, List.drop_length, ← this, drop_cons hy, if_neg (by omega), if_pos (by omega)]
      simp [flatV, cmpL]
  have hout : (k = l1.length ∨ k = l2.length) → (decide ((n1 : Int) < n2) = true → R (.returned (.int .i64 (-1))) w4) ∧ (decide ((n1 : Int) < n2) = false → (decide ((n1 : Int) > n2) = true → R (.returned (.int .i64 1)) w4) ∧ (decide ((n1 : Int) > n2) = false → R (.returned (.int .i64 0)) w4)) := fun hk =>
    brD (fun hl => hend hk (by rw [if_pos hl])) (fun hl => brD (fun hg => hend hk (by rw [if_neg hl, if_pos hg])) (fun hg => hend hk (by rw [if_neg hl, if_neg hg])))
  refine brD (fun hlt => brD (fun hlt2 => ?_) (fun hge2 => hout (.inr (by omega)))) (fun hge => hout (.inl (by omega)))
  obtain ⟨x, hx⟩ : ∃ x, l1[k]? = some x := ⟨_, List.getElem?_eq_getElem (by omega)⟩
  have d1 := drop_cons hx
  obtain ⟨y, hy⟩ : ∃ y, l2[k]? = some y := ⟨_, List.getElem?_eq_getElem (by omega)⟩
  have d2 := drop_cons hy
  obtain ⟨ad, g1, el, _⟩ := elt_at (P := Try.prog) (k := .i64) (t := 23) (h1.call hA.below) hx (e := 73) (by kernel_rfl) (by kernel_rfl)
  obtain ⟨ad2, g2, el2, _⟩ := elt_at (P := Try.prog) (k := .i64) (t := 23) (h2.call hA.below) hy (e := 73) (by kernel_rfl) (by kernel_rfl)
  rw [d1, d2, cmpV_cons] at hc
  refine ⟨ad, g1, _, _, _, el.agg 3 (by kernel_rfl) (by kernel_rfl) (by simp) (by simp), ad2, g2, _, _, _, el2.agg 3 (by kernel_rfl) (by kernel_rfl) (by simp) (by simp), fun w13 hb13 => ?_⟩
  have hA := hA.call hb13
  refine at_callb hA (c168 x y w13) fun w15 hA _ hb15 => ⟨_, rfl, brN (fun hne => ?_) (fun he => ?_)⟩
  · have hb := hb13.trans hb15
    refine ⟨ad, g1, _, _, _, (el.below hb).agg 3 (by kernel_rfl) (by kernel_rfl) (by simp) (by simp), ad2, g2, _, _, _, (el2.below hb).agg 3 (by kernel_rfl) (by kernel_rfl) (by simp) (by simp), fun w25 hb25 => ?_⟩
    exact at_callb (hA.call hb25) (c168 x y w25) fun w27 hA _ _ => ⟨_, rfl, leaf h hA (by rw [← hc, if_pos hne])⟩
  · rw [if_neg (by simp [he])] at hc
    rw [succ_i k (by omega)]
    exact ⟨⟨hA, k + 1, rfl, by omega, by omega, hc⟩, by simp only; omega⟩
theorem c113 (x y : TR) (w : World) (hx : VecR w x) (hy : VecR w y) : Ret Try.prog 113 #[trV x, trV y] w (.bool (decide (aF x.1 y.1 < 0))) := by
  intro R h
  refine f113_calls _ _ _ _ _ _ _ _ _ _ _ _ w R ?_
  unfold f113_vc
  intro n1 hn1 n2 hn2
  have hs : ∀ {w' : World}, Bel w w' → ∀ {v : Bool}, v = decide (aF x.1 y.1 < 0) → R (.returned (.bool v)) w' := fun hb _ e => e ▸ h _ hb
  have ha : aF x.1 y.1 = if sg x.1.1 y.1.1 ≠ 0 then sg x.1.1 y.1.1 else if sg x.1.2.1 y.1.2.1 ≠ 0 then sg x.1.2.1 y.1.2.1 else if sg x.1.2.2.1 y.1.2.2.1 ≠ 0 then sg x.1.2.2.1 y.1.2.2.1 else if cmpL (flatV x.1.2.2.2) (flatV y.1.2.2.2) ≠ 0 then cmpL (flatV x.1.2.2.2) (flatV y.1.2.2.2) else 0 := aF_or _ _
  have d1 : ∀ a b : Int, decide (sg a b < 0) = decide (a < b) := fun a b => by rcases sg_cases a b with ⟨_, e⟩ | ⟨_, e⟩ | ⟨_, e⟩ <;> rw [e, decide_eq_decide] <;> omega
  have d2 : ∀ a b : Int, sg a b ≠ 0 ↔ a ≠ b := fun a b => by rcases sg_cases a b with ⟨_, e⟩ | ⟨_, e⟩ | ⟨_, e⟩ <;> rw [e] <;> constructor <;> omega
  refine brN (fun h1 w3 hb3 _ => hs hb3 ?_) (fun h1 => brN (fun h2 w4 hb4 _ => hs hb4 ?_) (fun h2 => brD (fun h3 w5 hb5 _ => hs hb5 ?_) (fun h3 => brE (fun h4 w6 hb6 hu6 => ?_) (fun h4 w10 hb10 _ => hs hb10 ?_))))
  · rw [ha, if_pos ((d2 _ _).2 h1), d1]
  · rw [ha, if_neg fun hh => (d2 _ _).1 hh h1, if_pos ((d2 _ _).2 h2), d1]
  · rw [ha, if_neg fun hh => (d2 _ _).1 hh h1, if_neg fun hh => (d2 _ _).1 hh h2, if_pos ((d2 _ _).2 (by omega)), d1]
    exact (decide_eq_true h3).symm
  · have hA : At w [n1, n2] w6 := ⟨((At.refl w).call hb6).chg, hu6⟩
    refine at_callb hA (c141 w6 (SlR.call hx hb6) (SlR.call hy hb6)) fun w8 hA hk _ => ⟨_, rfl, hk, hs hA.below ?_⟩
    rw [ha, if_neg fun hh => (d2 _ _).1 hh h1, if_neg fun hh => (d2 _ _).1 hh h2, if_neg fun hh => (d2 _ _).1 hh h4]
    split
    · rfl
    · rename_i hh; simp at hh; rw [hh]
  · rw [ha, if_neg fun hh => (d2 _ _).1 hh h1, if_neg fun hh => (d2 _ _).1 hh h2, if_pos ((d2 _ _).2 h4), d1]
    exact (decide_eq_false h3).symm
theorem c112 (x y : TR) (w : World) (hx : VecR w x) (hy : VecR w y) : Ret Try.prog 112 #[trV x, trV y] w (.bool (decide (x.1 = y.1))) := by
  intro R h
  refine f112_calls _ _ _ _ _ _ _ _ _ _ _ _ w R ?_
  unfold f112_vc
  intro n1 hn1 n2 hn2
  have no : ∀ {w' : World}, Bel w w' → (x.1 ≠ y.1) → R (.returned (.bool false)) w' := fun hb e => by
    have := h _ hb
    rwa [decide_eq_false e] at this
  refine brE (fun h1 => brE (fun h2 => brE (fun h3 w3 hb3 hu3 => ?_) (fun h3 w7 hb7 _ => no hb7 fun e => h3 (by rw [e]))) (fun h2 w8 hb8 _ => no hb8 fun e => h2 (by rw [e]))) (fun h1 w9 hb9 _ => no hb9 fun e => h1 (by rw [e]))
  have hA : At w [n1, n2] w3 := ⟨((At.refl w).call hb3).chg, hu3⟩
  refine at_callb hA (c82 w3 (SlR.call hx hb3) (SlR.call hy hb3)) fun w5 hA hk _ => ⟨_, rfl, hk, leaf h hA ?_⟩
  refine congrArg (fun b => Ending.returned (Value.bool b)) ?_
  rw [decide_eq_decide]
  obtain ⟨⟨x1, x2, x3, x4⟩, sx⟩ := x
  obtain ⟨⟨y1, y2, y3, y4⟩, sy⟩ := y
  simp only at h1 h2 h3
  simp [h1, h2, h3]
/-! ### Closures -/
theorem c115 (x y : TR) (w : World) : Ret Try.prog 115 #[trV x, trV y] w (.int .i64 (sg x.1.2.2.1 y.1.2.2.1)) := by
  intro R h
  refine f115_calls _ _ _ _ _ _ _ _ _ _ _ _ w R ?_
  unfold f115_vc
  intro n1 hn1 n2 hn2 w3 hb3 hu3
  have hA : At w [n1, n2] w3 := ⟨((At.refl w).call hb3).chg, hu3⟩
  exact at_callb hA (c94 _ _ w3) fun w5 hA hk _ => ⟨_, rfl, hk, leaf h hA rfl⟩
theorem c111 {b : Nat} {f : Int} (hb : W.heap[b]? = some (.cells #[.int .i64 f] 2 (0, 0))) (x : TR) : Ret Try.prog 111 #[trV x, .pointer (some ⟨b, 0, none⟩)] W (.bool (decide (x.1.1 = f))) := by
  intro R h
  refine f111_calls _ _ _ _ _ _ _ W R ?_
  unfold f111_vc
  refine fun n1 hn1 => ⟨_, rd_f0 (r := []) hb (by kernel_rfl) nod, fun w3 hb3 _ => ?_⟩
  have := h _ hb3
  rwa [show decide (x.1.1 = f) = (x.1.1 == f) from by rw [Bool.eq_iff_iff]; simp] at this
theorem c116 {b : Nat} {f : Int} (hb : W.heap[b]? = some (.cells #[.int .i64 f] 2 (0, 0))) (x : TR) : Ret Try.prog 116 #[trV x, .pointer (some ⟨b, 0, none⟩)] W (.bool (decide (x.1.2.1 = f))) := by
  intro R h
  refine f116_calls _ _ _ _ _ _ _ W R ?_
  unfold f116_vc
  refine fun n1 hn1 => ⟨_, rd_f0 (r := []) hb (by kernel_rfl) nod, fun w3 hb3 _ => ?_⟩
  have := h _ hb3
  rwa [show decide (x.1.2.1 = f) = (x.1.2.1 == f) from by rw [Bool.eq_iff_iff]; simp] at this
theorem c117 {b : Nat} {f : Int} (hb : W.heap[b]? = some (.cells #[.int .i64 f] 2 (0, 0))) (x : TR) : Ret Try.prog 117 #[trV x, .pointer (some ⟨b, 0, none⟩)] W (.bool (decide (x.1.2.2.1 ≤ f))) := by
  intro R h
  refine f117_calls _ _ _ _ _ _ _ W R ?_
  unfold f117_vc
  exact fun n1 hn1 => ⟨_, rd_f0 (r := []) hb (by kernel_rfl) nod, fun w3 hb3 _ => h _ hb3⟩
theorem c71 {b : Nat} {V : List PartT} {s : Sl3} (hb : W.heap[b]? = some (.cells #[.slice s.1 s.2.1 s.2.2] 23 (0, 0))) (hV : SlE W 3 partE V s.1 s.2.1 s.2.2) (x : TR) (hx : VecR W x) : Ret Try.prog 71 #[trV x, .pointer (some ⟨b, 0, none⟩)] W (.bool (decide (vecB x.1.2.2.2 = true ∧ vecB V = true) && (vsub x.1.2.2.2 V).isSome)) := by
  intro R h
  refine f71_calls _ _ _ _ _ _ _ W R ?_
  unfold f71_vc
  refine fun n1 hn1 => ⟨_, _, _, rd_f0 (r := []) hb (by kernel_rfl) nod, fun w5 hb5 hu5 => ?_⟩
  have hA : At W [n1] w5 := ⟨((At.refl W).call hb5).chg, hu5⟩
  exact at_callb hA (c43 w5 (SlR.call hx hb5) (SlR.call hV hb5)) fun w7 hA hk _ => ⟨_, rfl, hk, leaf h hA rfl⟩
end Go.Vc.J

/- The formulas of functions, printed by a program (VcTool.lean): each is what the generator's formula comes to, by the kernel's reckoning; whoever proves one has the function's contract. -/
set_option maxRecDepth 100000
set_option maxHeartbeats 1000000
set_option linter.unusedVariables false
namespace Vct
open Go Go.Vc Go.RowKit
/-! slices.Insert[[]manciple/api.Filter,manciple/api.Filter] -/
def h80 : Hints := ⟨[], [12, 34, 43, 50, 53, 60, 66, 73, 76, 80, 86, 91, 67], [16, 22, 31, 68], [(11, [0, 1, 2, 3, 4, 5, 6, 7, 8]), (15, [0, 1, 2, 3, 4, 5, 6, 7, 8])], [], [], [], [], []⟩
def f80_vc (sa : Option Addr) (sn : Nat) (sc : Nat) (i : Int) (va : Option Addr) (vn : Nat) (vc : Nat) (w : World) (R : Ending → World → Prop) : Prop :=
 ∃ (a1 : Option Addr),
 ∃ (n2 : Nat),
 ∃ (n3 : Nat),
 Gives Proofs.Try.prog (Instr.sliceAt 111 (Value.slice sa sn sc) (some (Value.int IntKind.i64 i)) none none) (Value.slice a1 n2 n3) ∧
 (((↑vn : Int) == 0) = true → R (Ending.returned (Value.slice sa sn sc)) w) ∧
 (((↑vn : Int) == 0) = false →
 ((i == (↑sn : Int)) = true →
 OpW Proofs.Try.prog (builtin Builtin.append #[111, 111] 111 #[false, false] #[Value.slice sa sn sc, Value.slice va vn vc]) w fun (v4 : Value) (w5 : World) =>
 ∃ (a6 : Option Addr), ∃ (n7 : Nat), ∃ (n8 : Nat), v4 = Value.slice a6 n7 n8 ∧ R (Ending.returned (Value.slice a6 n7 n8)) w5) ∧
 ((i == (↑sn : Int)) = false →
 (decide (IntKind.i64.wrap ((↑sn : Int) + (↑vn : Int)) > (↑sc : Int)) = true →
 ∃ (a9 : Option Addr),
 ∃ (n10 : Nat),
 ∃ (n11 : Nat),
 Gives Proofs.Try.prog (Instr.sliceAt 111 (Value.slice sa sn sc) none (some (Value.int IntKind.i64 i)) none) (Value.slice a9 n10 n11) ∧
 OpW Proofs.Try.prog (builtin Builtin.append #[111, 3] 111 #[false, false] #[Value.slice a9 n10 n11, Value.int IntKind.i64 (IntKind.i64.wrap (IntKind.i64.wrap ((↑sn : Int) + (↑vn : Int)) - i))]) w
 fun (v12 : Value) (w13 : World) =>
 ∃ (a14 : Option Addr),
 ∃ (n15 : Nat),
 ∃ (n16 : Nat),
 v12 = Value.slice a14 n15 n16 ∧
 ∃ (a17 : Option Addr),
 ∃ (n18 : Nat),
 ∃ (n19 : Nat),
 Gives Proofs.Try.prog (Instr.sliceAt 111 (Value.slice a14 n15 n16) (some (Value.int IntKind.i64 i)) none none) (Value.slice a17 n18 n19) ∧
 OpW Proofs.Try.prog (builtin Builtin.copy #[111, 111] 3 #[false, false] #[Value.slice a17 n18 n19, Value.slice va vn vc]) w13 fun (v20 : Value) (w21 : World) =>
 ∃ (x22 : Int),
 v20 = Value.int IntKind.i64 x22 ∧
 ∃ (a23 : Option Addr),
 ∃ (n24 : Nat),
 ∃ (n25 : Nat),
 Gives Proofs.Try.prog (Instr.sliceAt 111 (Value.slice a14 n15 n16) (some (Value.int IntKind.i64 (IntKind.i64.wrap (i + (↑vn : Int))))) none none) (Value.slice a23 n24 n25) ∧
 ∃ (a26 : Option Addr),
 ∃ (n27 : Nat),
 ∃ (n28 : Nat),
 Gives Proofs.Try.prog (Instr.sliceAt 111 (Value.slice sa sn sc) (some (Value.int IntKind.i64 i)) none none) (Value.slice a26 n27 n28) ∧
 ∀ (w29 : World),
 Bel w21 w29 →
 OpW Proofs.Try.prog (builtin Builtin.copy #[111, 111] 3 #[false, false] #[Value.slice a23 n24 n25, Value.slice a26 n27 n28]) w29 fun (v30 : Value) (w31 : World) =>
 ∃ (x32 : Int), v30 = Value.int IntKind.i64 x32 ∧ R (Ending.returned (Value.slice a14 n15 n16)) w31) ∧
 (decide (IntKind.i64.wrap ((↑sn : Int) + (↑vn : Int)) > (↑sc : Int)) = false →
 ∃ (a33 : Option Addr),
 ∃ (n34 : Nat),
 ∃ (n35 : Nat),
 Gives Proofs.Try.prog (Instr.sliceAt 111 (Value.slice sa sn sc) none (some (Value.int IntKind.i64 (IntKind.i64.wrap ((↑sn : Int) + (↑vn : Int))))) none) (Value.slice a33 n34 n35) ∧
 ∃ (a36 : Option Addr),
 ∃ (n37 : Nat),
 ∃ (n38 : Nat),
 Gives Proofs.Try.prog (Instr.sliceAt 111 (Value.slice a33 n34 n35) (some (Value.int IntKind.i64 (IntKind.i64.wrap (i + (↑vn : Int))))) none none) (Value.slice a36 n37 n38) ∧
 OpW Proofs.Try.prog (invokeS (Value.func (Fn.func 121) #[] #[]) #[Value.slice va vn vc, Value.slice a36 n37 n38]) w fun (v39 : Value) (w40 : World) =>
 ∃ (b41 : Bool),
 v39 = Value.bool b41 ∧
 ((!b41) = true →
 ∃ (a42 : Option Addr),
 ∃ (n43 : Nat),
 ∃ (n44 : Nat),
 Gives Proofs.Try.prog (Instr.sliceAt 111 (Value.slice a33 n34 n35) (some (Value.int IntKind.i64 (IntKind.i64.wrap (i + (↑vn : Int))))) none none) (Value.slice a42 n43 n44) ∧
 ∃ (a45 : Option Addr),
 ∃ (n46 : Nat),
 ∃ (n47 : Nat),
 Gives Proofs.Try.prog (Instr.sliceAt 111 (Value.slice a33 n34 n35) (some (Value.int IntKind.i64 i)) none none) (Value.slice a45 n46 n47) ∧
 ∀ (w48 : World),
 Bel w40 w48 →
 OpW Proofs.Try.prog (builtin Builtin.copy #[111, 111] 3 #[false, false] #[Value.slice a42 n43 n44, Value.slice a45 n46 n47]) w48 fun (v49 : Value) (w50 : World) =>
 ∃ (x51 : Int),
 v49 = Value.int IntKind.i64 x51 ∧
 ∃ (a52 : Option Addr),
 ∃ (n53 : Nat),
 ∃ (n54 : Nat),
 Gives Proofs.Try.prog (Instr.sliceAt 111 (Value.slice a33 n34 n35) (some (Value.int IntKind.i64 i)) none none) (Value.slice a52 n53 n54) ∧
 OpW Proofs.Try.prog (builtin Builtin.copy #[111, 111] 3 #[false, false] #[Value.slice a52 n53 n54, Value.slice va vn vc]) w50 fun (v55 : Value) (w56 : World) =>
 ∃ (x57 : Int), v55 = Value.int IntKind.i64 x57 ∧ R (Ending.returned (Value.slice a33 n34 n35)) w56) ∧
 ((!b41) = false →
 ∃ (a58 : Option Addr),
 ∃ (n59 : Nat),
 ∃ (n60 : Nat),
 Gives Proofs.Try.prog (Instr.sliceAt 111 (Value.slice a33 n34 n35) (some (Value.int IntKind.i64 (↑sn : Int))) none none) (Value.slice a58 n59 n60) ∧
 OpW Proofs.Try.prog (builtin Builtin.copy #[111, 111] 3 #[false, false] #[Value.slice a58 n59 n60, Value.slice va vn vc]) w40 fun (v61 : Value) (w62 : World) =>
 ∃ (x63 : Int),
 v61 = Value.int IntKind.i64 x63 ∧
 ∃ (a64 : Option Addr),
 ∃ (n65 : Nat),
 ∃ (n66 : Nat),
 Gives Proofs.Try.prog (Instr.sliceAt 111 (Value.slice a33 n34 n35) (some (Value.int IntKind.i64 i)) none none) (Value.slice a64 n65 n66) ∧
 Calls Proofs.Try.prog 122 #[Value.slice a64 n65 n66, Value.int IntKind.i64 (↑vn : Int)] w62 fun (e67 : Ending) (w68 : World) =>
 e67 = Ending.returned (Value.tuple #[]) ∧ R (Ending.returned (Value.slice a33 n34 n35)) w68))))
theorem f80_eq (sa : Option Addr) (sn : Nat) (sc : Nat) (i : Int) (va : Option Addr) (vn : Nat) (vc : Nat) (w : World) (R : Ending → World → Prop) : (fnF Go.Proofs.Try.prog h80 Go.Proofs.Try.f80 [Value.slice sa sn sc, Value.int IntKind.i64 i, Value.slice va vn vc] w R).den = f80_vc sa sn sc i va vn vc w R := by kernel_rfl
theorem f80_calls (sa : Option Addr) (sn : Nat) (sc : Nat) (i : Int) (va : Option Addr) (vn : Nat) (vc : Nat) (w : World) (R : Ending → World → Prop) (h : f80_vc sa sn sc i va vn vc w R) : Calls Go.Proofs.Try.prog 80 (List.toArray [Value.slice sa sn sc, Value.int IntKind.i64 i, Value.slice va vn vc]) w R :=
 fn_sound (H := h80) (fn := Go.Proofs.Try.f80) (by kernel_rfl) (by kernel_rfl) (by kernel_rfl) ((f80_eq sa sn sc i va vn vc w R).mpr h)

end Vct

/- Copying into a row's middle; adding zeros to a row that must grow; clearing a row's end; whether two rows overlap. -/
set_option maxRecDepth 20000
namespace Go.Vc
open Go Go.RowKit

section
variable {α : Type} {P : Program} {w W : World} {M : Nat → Prop} {gs : List Nat} {e : TypeId} {size : Nat} {f : α → List Value} {l : List α} {t tn ty : TypeId} {fl : Array Bool} {bytes : Nat}

theorem opw_copyC {g o m n1 c1 n2 c2 : Nat} {cur : Array Value} {vs : List Value} {sad : Addr} (he : elemB P t e size bytes = true) (hA : AtF w M gs W) (hg : W.heap[g]? = some (.cells cur e (0, 0))) (hm : w.heap.size ≤ g ∨ M g) (hgs : g ∉ gs)
    (hsrc : ∀ j u, vs[j]? = some u → W.cell? (sad.add j) = some u) (hl : vs.length = m * size) (hn : Nat.min n2 n1 = m) (hfit : o + vs.length ≤ cur.size) (h1 : ∀ u ∈ vs, u.oneCell' = true) {K : Value → World → Prop}
    (h : ∀ w', AtF w M gs w' → Keeps gs W w' → Chg (fun b => b = g) W w' → w'.heap[g]? = some (.cells (cur.toList.take o ++ vs ++ cur.toList.drop (o + vs.length)).toArray e (0, 0)) → K (goInt m) w') :
    OpW P (builtin .copy #[t, t] ty fl #[.slice (some ⟨g, o, none⟩) n1 c1, .slice (some sad) n2 c2]) W K := by
  obtain ⟨i, z, ok⟩ := elemB_ok he
  have hsz : ∀ W : World, (sizeOf e).run P W = .ok size W := fun W => by simp [sizeOf, typeInfo, ok.hi, ok.hsize]
  have hst := run_storeCells_at P g o e vs 0 cur W hg (by simpa using hfit) h1
  simp only [Nat.add_zero] at hst
  have hr : (Builtin.copy_ #[t, t] ty #[.slice (some ⟨g, o, none⟩) n1 c1, .slice (some sad) n2 c2]).run P W = .ok (goInt m) (W.setRow g (cur.toList.take o ++ vs ++ cur.toList.drop (o + vs.length)).toArray) := by
    unfold Builtin.copy_
    simp only [List.getElem?_toArray, List.getElem?_cons_zero, List.getElem?_cons_succ]
    rw [run_bind_ok (run_underlying ok.ht W)]
    simp only [Builtin.lenOf, pure_bind]
    rw [run_bind_ok (hsz W), hn]
    have hld : (Builtin.firstCells size m (.slice (some sad) n2 c2)).run P W = .ok vs.toArray W := by
      have := run_loadCells_list (P := P) W sad vs hsrc
      rw [hl] at this
      exact this
    rw [run_bind_ok hld]
    simp only
    rw [run_bind_ok hst]
    rfl
  have hrun : (builtin .copy #[t, t] ty fl #[.slice (some ⟨g, o, none⟩) n1 c1, .slice (some sad) n2 c2]).run P W = .ok (.value (goInt m)) (W.setRow g (cur.toList.take o ++ vs ++ cur.toList.drop (o + vs.length)).toArray) := by
    show (do pure (Next.value (← Builtin.copy_ #[t, t] ty #[.slice (some ⟨g, o, none⟩) n1 c1, .slice (some sad) n2 c2])) : Sem Next).run P W = _
    rw [run_bind_ok hr]
    rfl
  unfold OpW
  rw [hrun]
  exact h _ (hA.step chg_setRow fun b _ hb => hb ▸ hm) (hA.keepsC chg_setRow fun x hx hb => hgs (hb ▸ hx)) chg_setRow (setRow_heap W g cur _ e (0, 0) hg)

theorem zeroCells_size (z : Array Value) (n : Nat) : (Builtin.zeroCells z n).size = n * z.size := by simp [Builtin.zeroCells]

theorem run_append_zeros {i : TypeInfo} {z : Value} {kn k : IntKind} (ht : P.underlying t = some (.slice e)) (htn : P.underlying tn = some (.int kn)) (hi : P.info? e = some i) (hz : i.zero = some z)
    (b : Addr) (sLen sCap n : Nat) (olds : List Value) (hlo : olds.length = sLen * i.size) (holds : ∀ j v, olds[j]? = some v → W.cell? (b.add j) = some v) (hs0 : 0 < i.size) (hn0 : 0 < n)
    (hg : sCap < sLen + n) (h63 : ((sLen + n : Nat) : Int) ≤ 9223372036854775807) (hfit : Builtin.nextslicecap (sLen + n) sCap * i.bytes ≤ 281474976710656) (h48 : n * i.bytes ≤ 281474976710656) :
    (Builtin.append_ #[t, tn] ty #[.slice (some b) sLen sCap, .int k n]).run P W =
      .ok (.slice (some ⟨W.heap.size, 0, none⟩) (sLen + n) (grownCap W (sLen + n) sCap e))
        (W.drew.alloc (.cells (olds.toArray ++ (Builtin.zeroCells z.cells n ++ Builtin.zeroCells z.cells (grownCap W (sLen + n) sCap e - (sLen + n)))) e)) := by
  have hn : ¬ (sLen + n ≤ sCap) := by omega
  have hw : IntKind.i64.wrap (n : Int) = n := by rw [IntKind.wrap_i64]; omega
  have h63' : ¬ (9223372036854775807 < ((sLen : Int) + (n : Int))) := by omega
  have h48' : ¬ (281474976710656 < Builtin.nextslicecap (sLen + n) sCap * i.bytes) := by omega
  have h48i : ¬ (281474976710656 < (n : Int) * (i.bytes : Int)) := by
    rw [← Int.natCast_mul]
    omega
  have hneg : ¬ ((n : Int) < 0) := by omega
  have hns : ¬ (n * i.size = 0) := Nat.mul_ne_zero (by omega) (by omega)
  have hfo := run_firstCells_some (P := P) W.drew i.size sLen b sLen sCap olds hlo (by simpa using holds)
  simp [Builtin.append_, run_underlying ht, run_underlying htn, sizeOf, typeInfo, zeroValue, hi, hz, asInt, asIntOf, hw, hn, hneg, hns, h63', h48', h48i, Question.forced, hfo, newRow, grownCap]

theorem opw_appendZ {kn k : IntKind} {b : Addr} {sLen sCap n : Nat} {olds : List Value} (he : elemB P t e size bytes = true) (htn : P.underlying tn = some (.int kn)) (hA : AtF w M gs W)
    (hlo : olds.length = sLen * size) (holds : ∀ j v, olds[j]? = some v → W.cell? (b.add j) = some v) (hn0 : 0 < n) (hg : sCap < sLen + n) (hsm : sLen + n ≤ 1099511627776) (hby : bytes ≤ 64) {K : Value → World → Prop}
    (h : ∀ g c cur w', W.heap.size ≤ g → AtF w M gs w' → Keeps gs W w' → Bel W w' → w'.heap[g]? = some (.cells cur e (0, 0)) → cur.size = c * size → cur.toList.take (sLen * size) = olds → sLen + n ≤ c → c ≤ maxLen → K (.slice (some ⟨g, 0, none⟩) (sLen + n) c) w') :
    OpW P (builtin .append #[t, tn] ty fl #[.slice (some b) sLen sCap, .int k n]) W K := by
  obtain ⟨i, z, ok⟩ := elemB_ok he
  have hcap : Builtin.nextslicecap (sLen + n) sCap ≤ 2 * (sLen + n) + 4096 := by
    unfold Builtin.nextslicecap
    split
    · omega
    · split
      · omega
      · have gb : ∀ (r c : Nat), c ≤ 2 * (sLen + n) → Builtin.growBy (sLen + n) r c ≤ 2 * (sLen + n) + 4096 := by
          intro r
          induction r with
          | zero => intro c hc; unfold Builtin.growBy; omega
          | succ r ih =>
            intro c hc
            unfold Builtin.growBy
            split
            · omega
            · rename_i hlt
              by_cases hb : c + (c + 768) / 4 ≤ 2 * (sLen + n)
              · exact ih _ hb
              · have : Builtin.growBy (sLen + n) r (c + (c + 768) / 4) = c + (c + 768) / 4 := by
                  cases r with
                  | zero => rfl
                  | succ r => unfold Builtin.growBy; rw [if_pos (by omega)]
                rw [this]
                omega
        exact gb 4 sCap (by omega)
  have hmul : ∀ x, x ≤ 2 * (sLen + n) + 4096 → x * bytes ≤ 281474976710656 := fun x hx => by
    have := Nat.mul_le_mul hx hby
    omega
  have hr := run_append_zeros (P := P) (W := W) (ty := ty) (k := k) ok.ht htn ok.hi ok.hz b sLen sCap n olds (by rw [ok.hsize]; exact hlo) holds (by rw [ok.hsize]; exact ok.hsz) hn0 hg (by omega) (by rw [ok.hby]; exact hmul _ hcap) (by rw [ok.hby]; exact hmul _ (by omega))
  obtain ⟨W1, hW1⟩ : ∃ W1, W1 = (W.drew.alloc (.cells (olds.toArray ++ (Builtin.zeroCells z.cells n ++ Builtin.zeroCells z.cells (grownCap W (sLen + n) sCap e - (sLen + n)))) e)) := ⟨_, rfl⟩
  rw [← hW1] at hr
  have hrun : (builtin .append #[t, tn] ty fl #[.slice (some b) sLen sCap, .int k n]).run P W = .ok (.value (.slice (some ⟨W.heap.size, 0, none⟩) (sLen + n) (grownCap W (sLen + n) sCap e))) W1 := by
    show (do pure (Next.value (← Builtin.append_ #[t, tn] ty #[.slice (some b) sLen sCap, .int k n])) : Sem Next).run P W = _
    rw [run_bind_ok hr]
    rfl
  unfold OpW
  rw [hrun]
  clear hr hrun
  subst hW1
  have hge := grownCap_ge W (sLen + n) sCap e
  have hle := grownCap_le_maxLen W (sLen + n) sCap e (by simp only [maxLen]; omega)
  generalize grownCap W (sLen + n) sCap e = c at *
  have hbel : Bel W (W.drew.alloc (.cells (olds.toArray ++ (Builtin.zeroCells z.cells n ++ Builtin.zeroCells z.cells (c - (sLen + n)))) e)) :=
    ⟨⟨rfl, rfl, rfl, by simp, fun b hb => (World.grownBy_alloc W.drew _ none).block b (by simpa using hb) (by simp)⟩, Nat.le_succ _⟩
  refine h W.heap.size c _ _ (Nat.le_refl _) (hA.call hbel) (hA.keeps hbel) hbel (heap_alloc_new W.drew _) ?_ ?_ hge hle
  · rw [Array.size_append, Array.size_append, zeroCells_size, zeroCells_size, ok.hzs, List.size_toArray, hlo, ← Nat.add_mul, ← Nat.add_mul]
    congr 1
    omega
  · rw [Array.toList_append, List.toList_toArray, ← hlo, List.take_left]

/-- The end of a row is cleared. -/
theorem opw_clearF {te : TypeId} {a a2 : Option Addr} {n c i n2 c2 : Nat} (he : elemB P t e size bytes = true) (hz1 : ∀ z, (P.info? e).bind (·.zero) = some z → ∀ u ∈ z.cells.toList, u.oneCell' = true) (hA : AtF w M gs W) (ho : OwnF w M gs W e size f (.slice a n c) l) (hf : ∀ x ∈ l, (f x).length = size)
    (hi : i ≤ l.length) (hs : Value.slice a2 n2 c2 = .slice (if c = i then a else a.map (·.add (i * size))) (n - i) (c - i)) {K : Value → World → Prop}
    (h : ∀ w', AtF w M gs w' → Keeps gs W w' → Chg (fun b => (Value.slice a n c).ownBlock = some b) W w' → OwnF w M gs w' e size f (.slice a i c) (l.take i) → K (.tuple #[]) w') (_ : te = te) :
    OpW P (builtin .clear #[t] ty fl #[.slice a2 n2 c2]) W K := by
  obtain ⟨ii, z, ok⟩ := elemB_ok he
  have hn := ho.len
  obtain ⟨rfl, rfl, rfl⟩ := Value.slice.inj hs
  subst hn
  by_cases h0 : l.length - i = 0
  · have hil : i = l.length := by omega
    subst hil
    have hr : ∀ a', (Builtin.clear_ #[t] ty #[.slice a' (l.length - l.length) (c - l.length)]).run P W = .ok (.tuple #[]) W := fun a' => by
      rw [Nat.sub_self]
      unfold Builtin.clear_
      simp only [List.getElem?_toArray, List.getElem?_cons_zero]
      rw [run_bind_ok (run_underlying ok.ht W)]
      cases a' <;> rfl
    unfold OpW
    have hrun : ∀ a', (builtin .clear #[t] ty fl #[.slice a' (l.length - l.length) (c - l.length)]).run P W = .ok (.value (.tuple #[])) W := fun a' => by
      show (do pure (Next.value (← Builtin.clear_ #[t] ty #[.slice a' (l.length - l.length) (c - l.length)])) : Sem Next).run P W = _
      rw [run_bind_ok (hr a')]
      rfl
    rw [hrun]
    refine h W hA (fun _ _ => rfl) (Chg.refl _ _) ?_
    rw [List.take_length]
    exact ho
  · obtain ⟨g, cur, rfl, _, hg, hlc, hcm, hcs, htk⟩ := ho.ptr (by omega)
    rw [if_neg (by omega)]
    have hadd : ((some (⟨g, 0, none⟩ : Addr)).map (·.add (i * size))) = some ⟨g, i * size, none⟩ := by rw [Option.map_some, addr_add, Nat.zero_add]
    rw [hadd]
    have hzl : (Builtin.zeroCells z.cells (l.length - i)).toList.length = (l.length - i) * size := by rw [Array.length_toList, zeroCells_size, ok.hzs]
    have h1 : ∀ u ∈ (Builtin.zeroCells z.cells (l.length - i)).toList, u.oneCell' = true := fun u hu => by
      have hu' : u ∈ (Array.range ((l.length - i) * z.cells.size)).toList.map fun i => z.cells[i % z.cells.size]! := by
        unfold Builtin.zeroCells at hu
        rwa [Array.toList_map] at hu
      obtain ⟨j, _, rfl⟩ := List.mem_map.1 hu'
      have hzs : 0 < z.cells.size := by rw [ok.hzs]; exact ok.hsz
      have hj := Nat.mod_lt j hzs
      refine hz1 z (by rw [ok.hi]; exact ok.hz) _ ?_
      rw [getElem!_pos z.cells _ hj]
      exact Array.getElem_mem_toList hj
    have hfit : i * size + (l.length - i) * size ≤ cur.size := by
      rw [← Nat.add_mul, hcs]
      exact Nat.mul_le_mul_right _ (by omega)
    have hst := run_storeCells_at P g (i * size) e (Builtin.zeroCells z.cells (l.length - i)).toList 0 cur W hg (by rw [hzl]; simpa using hfit) h1
    simp only [Nat.add_zero] at hst
    have hzv : ∀ W : World, (zeroValue e).run P W = .ok z W := fun W => by simp [zeroValue, typeInfo, ok.hi, ok.hz]
    have hr : (Builtin.clear_ #[t] ty #[.slice (some ⟨g, i * size, none⟩) (l.length - i) (c - i)]).run P W = .ok (.tuple #[]) (W.setRow g (cur.toList.take (i * size) ++ (Builtin.zeroCells z.cells (l.length - i)).toList ++ cur.toList.drop (i * size + (Builtin.zeroCells z.cells (l.length - i)).toList.length)).toArray) := by
      obtain ⟨q, hq⟩ : ∃ q, l.length - i = q + 1 := ⟨l.length - i - 1, by omega⟩
      rw [hq] at hst ⊢
      unfold Builtin.clear_
      simp only [List.getElem?_toArray, List.getElem?_cons_zero]
      rw [run_bind_ok (run_underlying ok.ht W)]
      simp only
      rw [Sem.run_bind, hzv]
      simp only [Result.andThen_ok]
      rw [Sem.run_bind, hst]
      rfl
    have hrun : (builtin .clear #[t] ty fl #[.slice (some ⟨g, i * size, none⟩) (l.length - i) (c - i)]).run P W = .ok (.value (.tuple #[])) (W.setRow g (cur.toList.take (i * size) ++ (Builtin.zeroCells z.cells (l.length - i)).toList ++ cur.toList.drop (i * size + (Builtin.zeroCells z.cells (l.length - i)).toList.length)).toArray) := by
      show (do pure (Next.value (← Builtin.clear_ #[t] ty #[.slice (some ⟨g, i * size, none⟩) (l.length - i) (c - i)])) : Sem Next).run P W = _
      rw [run_bind_ok hr]
      rfl
    unfold OpW
    rw [hrun]
    have hch : Chg (fun b => (Value.slice (some ⟨g, 0, none⟩) l.length c).ownBlock = some b) W (W.setRow g (cur.toList.take (i * size) ++ (Builtin.zeroCells z.cells (l.length - i)).toList ++ cur.toList.drop (i * size + (Builtin.zeroCells z.cells (l.length - i)).toList.length)).toArray) := chg_setRow.mono fun b _ hb => by subst hb; rfl
    have htl : (l.take i).length = i := by rw [List.length_take]; omega
    refine h _ (hA.step hch fun b _ hb => ho.mine b hb) (hA.keepsC hch fun x hx hb => ho.apart x hx hb) hch ⟨?_, fun k hk => ho.mine k hk, fun x hx => ho.apart x hx⟩
    have hle := Nat.mul_le_mul_right size hi
    have hli := Nat.mul_le_mul_right size hlc
    refine ⟨flatMap_len fun x hx => hf x (List.mem_of_mem_take hx), .inr ⟨g, c, _, by rw [htl], Nat.zero_le _, setRow_heap W g cur _ e (0, 0) hg, by omega, hcm, ?_, ?_⟩⟩
    · rw [List.size_toArray, List.length_append, List.length_append, List.length_take, List.length_drop, Array.length_toList, hzl, ← hcs]
      omega
    · rw [List.toList_toArray, htl, List.append_assoc, List.take_append_of_le_length (by rw [List.length_take, Array.length_toList]; omega), List.take_take, Nat.min_self]
      have h2 : cur.toList.take (i * size) = (l.flatMap f).take (i * size) := by rw [← htk, List.take_take, Nat.min_eq_left hle]
      rw [h2]
      conv => lhs; rw [← List.take_append_drop i l, List.flatMap_append]
      have h3 : ((l.take i).flatMap f).length = i * size := by rw [flatMap_len fun x hx => hf x (List.mem_of_mem_take hx), htl]
      rw [← h3, List.take_left]

/-- Two rows do not overlap. -/
theorem opw_overlaps {fo : FuncId} {fn : Func} {tR : TypeId} {ga oa gb ob la ca lb cb : Nat} {curA curB : Array Value} {eA eB : TypeId} (hi : pureRun P (sizeOf e) = some size) (ht : P.underlying t = some (.slice e)) (hf : P.funcs[fo]? = some fn) (hname : (fn.name == "runtime.NumGoroutine") = false) (hb : fn.body.isNone = true) (hn : Extern.findNext fn = none)
    (he : Extern.find fn = some (Extern.SlicesOverlaps.overlaps #[t, t] #[tR])) (hga : W.heap[ga]? = some (.cells curA eA (0, 0))) (hgb : W.heap[gb]? = some (.cells curB eB (0, 0))) (hne : ga ≠ gb) (hB : curB.size ≠ 0) {K : Value → World → Prop} (h : K (.bool false) W) :
    OpW P (invokeS (.func (.func fo) #[] #[]) #[.slice (some ⟨ga, oa, none⟩) la ca, .slice (some ⟨gb, ob, none⟩) lb cb]) W K := by
  have hr : (invokeS (.func (.func fo) #[] #[]) #[.slice (some ⟨ga, oa, none⟩) la ca, .slice (some ⟨gb, ob, none⟩) lb cb]).run P W = .ok (.value (.bool false)) W := by
    show (callFunc fo #[.slice (some ⟨ga, oa, none⟩) la ca, .slice (some ⟨gb, ob, none⟩) lb cb]).run P W = _
    rw [run_callFunc_extern hf hname hb hn he, Lib.run_overlaps_apart W t tR e ht size (fun w => pureRun_run hi w) ⟨ga, oa, none⟩ ⟨gb, ob, none⟩ la ca lb cb hne eA eB curA.size curB.size (by simp [World.shape?, hga]) (by simp [World.shape?, hgb]) hB (by simp [World.frozen?, hga]) (by simp [World.frozen?, hga])]
    rfl
  unfold OpW
  rw [hr]
  exact h
end
end Go.Vc

/- Filters: one is put into a row. -/
set_option maxRecDepth 20000
set_option maxHeartbeats 2000000
namespace Go.Vc.J
open Go Go.Vc Go.Vc.V Go.RowKit Go.Proofs Vct

variable {w W W' W2 : World} {M N : Nat → Prop} {gs ds : List Nat}

theorem tr_one (x : TR) : ∀ u ∈ trE x, u.oneCell' = true := fun u hu => by
  simp at hu
  rcases hu with rfl | rfl | rfl | rfl <;> rfl
theorem flat_one (l : List TR) : ∀ u ∈ l.flatMap trE, u.oneCell' = true := fun u hu => by
  obtain ⟨x, _, hx⟩ := List.mem_flatMap.1 hu
  exact tr_one x u hx
theorem flat_len4 (l : List TR) : (l.flatMap trE).length = l.length * 4 := flatMap_len fun _ _ => rfl
theorem c80 {l : List TR} {x : TR} {a : Option Addr} {n c i gv : Nat} {w0 : World} {M0 : Nat → Prop} {gs0 : List Nat} (ho : OwnF w0 M0 gs0 W 25 4 trE (.slice a n c) l) (hx : W.heap[gv]? = some (.cells (trE x).toArray 25 (0, 0))) (hgv : (Value.slice a n c).ownBlock ≠ some gv) (hi : i ≤ l.length) (hl : l.length ≤ 100000) :
    RetF Try.prog 80 #[.slice a n c, .int .i64 i, .slice (some ⟨gv, 0, none⟩) 1 1] W (fun b => (Value.slice a n c).ownBlock = some b) fun v W' => ∃ a' c', v = .slice a' (l.length + 1) c' ∧ OwnF W (fun b => (Value.slice a n c).ownBlock = some b) [] W' 25 4 trE (.slice a' (l.length + 1) c') (l.take i ++ x :: l.drop i) := by
  intro R hR
  refine f80_calls a n c i _ 1 1 W R ?_
  unfold f80_vc
  have hn := ho.len
  have ho1 : OwnF W (fun b => (Value.slice a n c).ownBlock = some b) [] W 25 4 trE (.slice a n c) l := ho.base (fun k hk => .inr hk) (fun _ h => by cases h)
  have hA : AtF W (fun b => (Value.slice a n c).ownBlock = some b) [] W := AtF.refl W _
  obtain ⟨a0, g0, _⟩ := gives_from (P := Try.prog) (t := 111) (k := .i64) (i := i) (ho1.sl fun _ _ => rfl) (by omega) (e := 25) (by kernel_rfl) (by kernel_rfl)
  have hxc : ∀ j u, (trE x)[j]? = some u → W.cell? ((⟨gv, 0, none⟩ : Addr).add j) = some u := fun j u hu => elt_cells hx j u hu
  have hw1 : IntKind.i64.wrap ((n : Int) + ((1 : Nat) : Int)) = ((n + 1 : Nat) : Int) := by rw [wrap_i64 (by omega) (by omega)]; omega
  have hw2 : IntKind.i64.wrap (((n + 1 : Nat) : Int) - (i : Int)) = ((n + 1 - i : Nat) : Int) := by rw [wrap_i64 (by omega) (by omega)]; omega
  have hw3 : IntKind.i64.wrap ((i : Int) + ((1 : Nat) : Int)) = ((i + 1 : Nat) : Int) := by rw [wrap_i64 (by omega) (by omega)]; omega
  rw [hw1, hw2, hw3]
  refine ⟨a0, _, _, g0, brE (fun h => by omega) (fun _ => brE (fun hin => ?_) (fun hin => ?_))⟩
  · refine opw_append1 (bytes := 48) (e := 25) (size := 4) (f := trE) (by kernel_rfl) hA ho1 (x := x) rfl hxc (tr_one x) (by omega) (.inr (by omega)) fun v' w' hA' hk hg ho2 hnew => ?_
    obtain ⟨a2, c2, rfl, _⟩ := ho2.slice fun _ _ => rfl
    refine ⟨_, _, _, rfl, hR _ _ hA'.chg ⟨a2, c2, by rw [List.length_append, List.length_singleton], ?_⟩⟩
    have hil : i = l.length := by omega
    rw [hil, List.take_length, List.drop_length]
    rw [List.length_append, List.length_singleton] at ho2
    exact ho2
  have hlt : i < l.length := by omega
  obtain ⟨g, cur, rfl, _, hg, hlc, hcm, hcs, htk⟩ := ho1.ptr (by omega)
  have hgg : g ≠ gv := fun e => hgv (by rw [e]; rfl)
  have hgl := (Array.getElem?_eq_some_iff.1 hg).1
  have hglv := (Array.getElem?_eq_some_iff.1 hx).1
  have ad0 : (⟨g, 0, none⟩ : Addr).add (0 * 4) = ⟨g, 0, none⟩ := by rw [addr_add]
  have adk : ∀ (b k : Nat), (⟨b, 0, none⟩ : Addr).add (k * 4) = ⟨b, k * 4, none⟩ := fun b k => by rw [addr_add, Nat.zero_add]
  have hlt4 : ((l.take i).flatMap trE).length = i * 4 := by rw [flat_len4, List.length_take]; congr 1; omega
  have hld4 : ((l.drop i).flatMap trE).length = (n - i) * 4 := by rw [flat_len4, List.length_drop, hn]
  have hsplit : l.flatMap trE = (l.take i).flatMap trE ++ (l.drop i).flatMap trE := by rw [← List.flatMap_append, List.take_append_drop]
  have hcells := SlE_cells (ho1.sl fun _ _ => rfl) (fun _ _ => rfl)
  have pre : ∀ j u, ((l.take i).flatMap trE)[j]? = some u → W.cell? ((⟨g, 0, none⟩ : Addr).add j) = some u := fun j u hu => by
    refine hcells j u ?_
    rw [hsplit, List.getElem?_append_left (List.getElem?_eq_some_iff.1 hu).1]
    exact hu
  have suf : ∀ j u, ((l.drop i).flatMap trE)[j]? = some u → W.cell? ((⟨g, i * 4, none⟩ : Addr).add j) = some u := fun j u hu => by
    have := hcells (i * 4 + j) u (by
      rw [hsplit, List.getElem?_append_right (by rw [hlt4]; omega), hlt4, Nat.add_sub_cancel_left]
      exact hu)
    rw [addr_add, Nat.zero_add] at this
    rw [addr_add]
    exact this
  have hfl : (l.take i ++ x :: l.drop i).flatMap trE = (l.take i).flatMap trE ++ trE x ++ (l.drop i).flatMap trE := by rw [List.flatMap_append, List.flatMap_cons, List.append_assoc]
  have hfll : (l.take i ++ x :: l.drop i).length = l.length + 1 := by
    rw [List.length_append, List.length_cons, List.length_take, List.length_drop]; omega
  have hflen : ((l.take i).flatMap trE ++ trE x ++ (l.drop i).flatMap trE).length = (n + 1) * 4 := by
    rw [List.length_append, List.length_append, hlt4, hld4]
    show i * 4 + 4 + (n - i) * 4 = _
    omega
  have fin : ∀ {w1 : World} {b c2 : Nat} {cu : Array Value} {D : List Value}, AtF W (fun k => (Value.slice (some ⟨g, 0, none⟩) n c).ownBlock = some k) [] w1 → w1.heap[b]? = some (.cells cu 25 (0, 0)) → cu.toList = (l.take i).flatMap trE ++ trE x ++ (l.drop i).flatMap trE ++ D → cu.size = c2 * 4 → n + 1 ≤ c2 → c2 ≤ maxLen → (W.heap.size ≤ b ∨ g = b) → R (.returned (.slice (some ⟨b, 0, none⟩) (n + 1) c2)) w1 := fun {w1 b c2 cu D} hA hb hcu hsz h1 h2 hm => by
    refine hR _ _ hA.chg ⟨_, c2, by rw [hn], ⟨?_, fun k hk => ?_, fun _ h => by cases h⟩⟩
    · rw [hfll, hfl]
      refine ⟨by rw [hflen, hn], .inr ⟨b, c2, cu, by rw [← hn], Nat.zero_le _, hb, by omega, h2, hsz, ?_⟩⟩
      rw [hcu, ← hn, ← hflen, List.take_left]
    · have : b = k := by simpa [Value.ownBlock] using hk
      subst this
      exact hm.imp id fun e => by rw [e]; rfl
  refine brD (fun hgrow => ?_) (fun hroom => ?_)
  · refine ⟨_, _, _, gives_slice_h (n := 4) (e := 25) (by kernel_rfl) (by kernel_rfl) (by omega), ?_⟩
    rw [if_neg (by omega), Option.map_some, ad0]
    refine opw_appendZ (e := 25) (size := 4) (bytes := 48) (kn := .i64) (by kernel_rfl) (by kernel_rfl) hA hlt4 pre (by omega) (by omega) (by omega) (by decide) fun g2 c2 cur2 w13 hg2 hA hk hb13 hblk hcs2 htk2 hc2 hcm2 => ?_
    have e1 : i + (n + 1 - i) = n + 1 := by omega
    rw [e1] at hc2 ⊢
    refine ⟨_, _, _, rfl, _, _, _, gives_slice_l (n := 4) (e := 25) (by kernel_rfl) (by kernel_rfl) (by omega), ?_⟩
    rw [if_neg (by omega), Option.map_some, adk]
    have hxl : (trE x).length = 1 * 4 := rfl
    have hcs2' : (c2 * 4 : Nat) = cur2.toList.length := by rw [Array.length_toList, hcs2]
    refine opw_copyC (e := 25) (size := 4) (bytes := 48) (m := 1) (vs := trE x) (by kernel_rfl) hA hblk (.inl hg2) (by simp) (fun j u hu => cell_below hb13.below _ _ (hxc j u hu)) hxl (by show min _ _ = _; omega) (by rw [hxl, hcs2]; omega) (tr_one x) fun w21 hA hk hc21 hb21 => ⟨_, rfl, ?_⟩
    refine ⟨_, _, _, gives_slice_l (n := 4) (e := 25) (by kernel_rfl) (by kernel_rfl) (by omega), _, _, _, gives_slice_l (n := 4) (e := 25) (by kernel_rfl) (by kernel_rfl) (by omega), fun w29 hb29 => ?_⟩
    rw [if_neg (by omega), if_neg (by omega), Option.map_some, Option.map_some, adk, adk]
    have hA := hA.call hb29
    have hb29' := (hb29.block (Array.getElem?_eq_some_iff.1 hb21).1).trans hb21
    have old : w29.heap[g]? = W.heap[g]? := by
      have h13 := hb13.block hgl
      have hs13 := hb13.size
      rw [hb29.block (by have := hc21.size; omega), hc21.block g (by omega) (by omega), h13]
    have l1 : (cur2.toList.take (i * 4)).length = i * 4 := by rw [List.length_take]; omega
    refine opw_copyC (e := 25) (size := 4) (bytes := 48) (m := n - i) (vs := (l.drop i).flatMap trE) (by kernel_rfl) hA hb29' (.inl hg2) (by simp) (fun j u hu => ?_) hld4 (by show min _ _ = _; omega) ?_ (flat_one _) fun w31 hA hk hc31 hb31 => ⟨_, rfl, ?_⟩
    · rw [World.cell?_of_block (w := W) (show w29.heap[((⟨g, i * 4, none⟩ : Addr).add j).block]? = W.heap[((⟨g, i * 4, none⟩ : Addr).add j).block]? from by rw [add_block]; exact old)]
      exact suf j u hu
    · rw [hld4, List.size_toArray, List.length_append, List.length_append, List.length_drop, l1, hxl, ← hcs2']
      omega
    · refine fin hA hb31 (D := (cur2.toList.take (i * 4) ++ trE x ++ cur2.toList.drop (i * 4 + (trE x).length)).drop ((i + 1) * 4 + ((l.drop i).flatMap trE).length)) ?_ ?_ (by omega) hcm2 (.inl hg2)
      · rw [List.toList_toArray, List.toList_toArray, List.take_append_of_le_length (l₁ := cur2.toList.take (i * 4) ++ trE x) (by rw [List.length_append, l1, hxl]; omega), List.take_of_length_le (by rw [List.length_append, l1, hxl]; omega), htk2]
      · rw [List.size_toArray, List.length_append, List.length_append, List.length_take, List.length_drop, List.toList_toArray, List.length_append, List.length_append, List.length_drop, l1, hxl, hld4, ← hcs2']
        omega
  · refine ⟨_, _, _, gives_slice_h (n := 4) (e := 25) (by kernel_rfl) (by kernel_rfl) (by omega), ?_⟩
    rw [if_neg (by omega), Option.map_some, ad0]
    have hxl : (trE x).length = 1 * 4 := rfl
    have hcs' : (c * 4 : Nat) = cur.toList.length := by rw [Array.length_toList, hcs]
    refine ⟨_, _, _, gives_slice_l (n := 4) (e := 25) (by kernel_rfl) (by kernel_rfl) (by omega), ?_⟩
    rw [if_neg (by omega), Option.map_some, adk]
    refine opw_overlaps (P := Try.prog) (fo := 121) (t := 111) (tR := 4) (e := 25) (size := 4) (by kernel_rfl) (by kernel_rfl) Try.func121 (by kernel_rfl) (by kernel_rfl) (by kernel_rfl) (by kernel_rfl) hx hg (Ne.symm hgg) (by rw [hcs]; omega) ⟨_, rfl, brNB (fun _ => ?_) (fun e => by cases e)⟩
    refine ⟨_, _, _, gives_slice_l (n := 4) (e := 25) (by kernel_rfl) (by kernel_rfl) (by omega), _, _, _, gives_slice_l (n := 4) (e := 25) (by kernel_rfl) (by kernel_rfl) (by omega), fun w48 hb48 => ?_⟩
    rw [if_neg (by omega), if_neg (by omega), Option.map_some, Option.map_some, adk, adk]
    have hA := hA.call hb48
    have hg48 := (hb48.block hgl).trans hg
    refine opw_copyC (e := 25) (size := 4) (bytes := 48) (m := n - i) (vs := (l.drop i).flatMap trE) (by kernel_rfl) hA hg48 (.inr rfl) (by simp) (fun j u hu => cell_below hb48.below _ _ (suf j u hu)) hld4 (by show min _ _ = _; omega) (by rw [hld4, hcs]; omega) (flat_one _) fun w50 hA hk hc50 hb50 => ⟨_, rfl, ?_⟩
    refine ⟨_, _, _, gives_slice_l (n := 4) (e := 25) (by kernel_rfl) (by kernel_rfl) (by omega), ?_⟩
    rw [if_neg (by omega), Option.map_some, adk]
    have l1 : (cur.toList.take ((i + 1) * 4)).length = (i + 1) * 4 := by rw [List.length_take]; omega
    have hs50 : (cur.toList.take ((i + 1) * 4) ++ (l.drop i).flatMap trE ++ cur.toList.drop ((i + 1) * 4 + ((l.drop i).flatMap trE).length)).length = c * 4 := by
      rw [List.length_append, List.length_append, List.length_drop, l1, hld4, ← hcs']
      omega
    have hv50 : w50.heap[gv]? = some (.cells (trE x).toArray 25 (0, 0)) := by
      rw [hc50.block gv (by have := hb48.size; omega) (Ne.symm hgg), hb48.block hglv]
      exact hx
    refine opw_copyC (e := 25) (size := 4) (bytes := 48) (m := 1) (vs := trE x) (by kernel_rfl) hA hb50 (.inr rfl) (by simp) (fun j u hu => elt_cells hv50 j u hu) hxl (by show min _ _ = _; omega) (by rw [List.size_toArray, hs50, hxl]; omega) (tr_one x) fun w56 hA hk hc56 hb56 => ⟨_, rfl, ?_⟩
    have htki : cur.toList.take (i * 4) = (l.take i).flatMap trE := by
      have h2 : cur.toList.take (i * 4) = (l.flatMap trE).take (i * 4) := by rw [← htk, List.take_take]; congr 1; omega
      rw [h2, hsplit, ← hlt4, List.take_left]
    refine fin hA hb56 (D := cur.toList.drop ((i + 1) * 4 + ((l.drop i).flatMap trE).length)) ?_ ?_ (by omega) hcm (.inr rfl)
    · rw [List.toList_toArray, List.toList_toArray, List.append_assoc (cur.toList.take ((i + 1) * 4)), List.take_append_of_le_length (by rw [l1]; omega), List.take_take, show min (i * 4) ((i + 1) * 4) = i * 4 by omega, htki]
      have e2 : i * 4 + (trE x).length = (cur.toList.take ((i + 1) * 4)).length := by rw [l1, hxl]; omega
      rw [e2, List.drop_left]
      simp only [List.append_assoc]
    · rw [List.size_toArray, List.length_append, List.length_append, List.length_take, List.length_drop, List.toList_toArray, hs50, hxl]
      omega
end Go.Vc.J

/- Filters: searching rows, copies, those that go. -/
set_option maxRecDepth 20000
set_option maxHeartbeats 2000000
namespace Go.Vc.J
open Go Go.Vc Go.Vc.V Go.RowKit Go.Proofs Vct

variable {w W W' W2 : World} {M N : Nat → Prop} {gs ds : List Nat}

theorem at_inv' {P : Program} {fv : Value} {args : Array Value} {v : Value} {K : Value → World → Prop} (hA : AtF w M gs W) (hc : RetI P fv args W v) (hK : ∀ w', AtF w M gs w' → Keeps gs W w' → Bel W w' → K v w') : OpW P (invokeS fv args) W K := at_inv hA hc hK
/-- The first that is wanted, or none. -/
def firstP (p : TR → Bool) (l : List TR) (i : Int) : Prop := (i = -1 ∧ ∀ x ∈ l, p x = false) ∨ ∃ (j : Nat) (x : TR), i = j ∧ l[j]? = some x ∧ p x = true ∧ ∀ t y, t < j → l[t]? = some y → p y = false
theorem c118 {l : List TR} {a : Option Addr} {n c : Nat} {fv : Value} {p : TR → Bool} (hs : SlE W 4 trE l a n c) (hp : ∀ W', Bel W W' → ∀ x ∈ l, RetI Try.prog fv #[trV x] W' (.bool (p x))) : RetQ Try.prog 118 #[.slice a n c, fv] W fun v _ => ∃ i, v = .int .i64 i ∧ firstP p l i := by
  intro R hR
  refine f118_calls a n c fv W R ?_
  unfold f118_vc
  have hn := hs.len_le
  refine ⟨fun v W' => At W [] W' ∧ ∃ k : Nat, v.1 = k ∧ k ≤ l.length ∧ ∀ t y, t < k → l[t]? = some y → p y = false, fun v _ => (n - v.1).toNat, ⟨At.refl W, 0, rfl, Nat.zero_le _, fun t y h => by omega⟩, ?_⟩
  rintro x3 w4 ⟨hA, k, hk, hkl, hmin⟩
  simp only at hk
  subst hk
  refine brD (fun hlt => ?_) (fun hge => hR _ _ hA.below ⟨_, rfl, .inl ⟨rfl, fun x hx => ?_⟩⟩)
  · obtain ⟨x, hx⟩ : ∃ x, l[k]? = some x := ⟨_, List.getElem?_eq_getElem (by omega)⟩
    obtain ⟨ad, g1, el, _⟩ := elt_at (P := Try.prog) (k := .i64) (t := 111) (hs.call hA.below) hx (e := 25) (by kernel_rfl) (by kernel_rfl)
    refine ⟨ad, g1, _, _, _, _, _, _, el.agg 4 (by kernel_rfl) (by kernel_rfl) (by simp) (by simp), ?_⟩
    refine at_inv hA (hp _ hA.below x (List.mem_of_getElem? hx)) fun w13 hA _ _ => ⟨_, rfl, fun ht => hR _ _ hA.below ⟨_, rfl, .inr ⟨k, x, rfl, hx, ht, hmin⟩⟩, fun hf => ?_⟩
    rw [succ_i k (by omega)]
    refine ⟨⟨hA, k + 1, rfl, by omega, fun t y ht hy => ?_⟩, by simp only; omega⟩
    by_cases htk : t = k
    · subst htk
      rw [hx] at hy
      cases hy
      exact hf
    · exact hmin t y (by omega) hy
  · obtain ⟨j, hj, rfl⟩ := List.mem_iff_getElem.1 hx
    exact hmin j _ (by omega) (List.getElem?_eq_getElem hj)
theorem c70 {l : List TR} {a : Option Addr} {n c : Nat} {fv : Value} {p : TR → Bool} (hs : SlE W 4 trE l a n c) (hp : ∀ W', Bel W W' → ∀ x ∈ l, RetI Try.prog fv #[trV x] W' (.bool (p x))) : Ret Try.prog 70 #[.slice a n c, fv] W (.bool (l.any p)) := by
  intro R hR
  refine f70_calls a n c fv W R ?_
  unfold f70_vc
  refine at_callq (At.refl W) (c118 hs hp) fun v w2 hA _ _ ⟨i, e, hf⟩ => ⟨_, congrArg Ending.returned e, leaf hR hA ?_⟩
  refine congrArg (fun b => Ending.returned (Value.bool b)) ?_
  rcases hf with ⟨rfl, hall⟩ | ⟨j, x, rfl, hx, ht, _⟩
  · rw [decide_eq_false (by omega), eq_comm, List.any_eq_false]
    exact fun x hx => by rw [hall x hx]; decide
  · rw [decide_eq_true (by omega), eq_comm, List.any_eq_true]
    exact ⟨x, List.mem_of_getElem? hx, ht⟩
/-- Half of two places. -/
theorem half_wrap {lo hi n : Nat} (h1 : lo < hi) (h2 : hi ≤ n) (hn : n ≤ 9223372036854775807 / 2) : IntKind.i64.wrap ((IntKind.u64.wrap (IntKind.i64.wrap ((lo : Int) + (hi : Int)))).fdiv 2) = (((lo + hi) / 2 : Nat) : Int) := by
  rw [wrap_i64 (x := (lo : Int) + (hi : Int)) (by omega) (by omega), wrap_u64_id (by omega) (by omega), fdiv_pos _ (by omega)]
  rw [wrap_i64 (by omega) (by omega)]
  omega
theorem c77 {l : List TR} {f : TR} {a : Option Addr} {n c : Nat} {fv : Value} (hs : SlE W 4 trE l a n c) (hl : l.length ≤ 1000000) (hsr : SrtF (l.map (·.1))) (hp : ∀ W', Bel W W' → ∀ x ∈ l, RetI Try.prog fv #[trV x, trV f] W' (.int .i64 (cfF x f))) :
    RetQ Try.prog 77 #[.slice a n c, trV f, fv] W fun v _ => ∃ i : Nat, i ≤ l.length ∧ v = .tuple #[.int .i64 i, .bool (decide (f.1 ∈ l.map (·.1)))] ∧ (∀ x ∈ l.take i, aF x.1 f.1 < 0) ∧ (∀ x ∈ l.drop i, ¬ aF x.1 f.1 < 0) := by
  intro R hR
  refine f77_calls a n c _ _ _ _ _ _ fv W R ?_
  unfold f77_vc
  have hn := hs.len_le
  have srt : ∀ {i j : Nat} {x y : TR}, i < j → l[i]? = some x → l[j]? = some y → aF x.1 y.1 < 0 := fun {i j x y} hij hx hy => by
    obtain ⟨h1, e1⟩ := List.getElem?_eq_some_iff.1 hx
    obtain ⟨h2, e2⟩ := List.getElem?_eq_some_iff.1 hy
    have := List.pairwise_iff_getElem.1 (List.pairwise_map.1 hsr) i j h1 h2 hij
    rw [e1, e2] at this
    exact this
  intro n1 hn1
  refine ⟨fun v W' => At W [n1] W' ∧ ∃ lo hi : Nat, v.1 = lo ∧ v.2.1 = hi ∧ lo ≤ hi ∧ hi ≤ l.length ∧ (∀ t x, t < lo → l[t]? = some x → aF x.1 f.1 < 0) ∧ (∀ t x, hi ≤ t → l[t]? = some x → ¬ aF x.1 f.1 < 0), fun v _ => (v.2.1 - v.1).toNat, fun w4 hb4 hu => ⟨⟨((At.refl W).call hb4).chg, hu⟩, 0, n, rfl, rfl, Nat.zero_le _, by omega, fun t x h => by omega, fun t x h hx => ?_⟩, ?_⟩
  · have := (List.getElem?_eq_some_iff.1 hx).1
    omega
  · rintro x5 x6 w7 ⟨hA, lo, hi, e1, e2, hlh, hhl, h1, h2⟩
    simp only at e1 e2
    subst e1 e2
    have hsz := hA.size
    refine brD (fun hlt => ?_) (fun hge => ?_)
    · rw [half_wrap (n := l.length) (by omega) hhl (by omega)]
      generalize hm : (lo + hi) / 2 = m
      obtain ⟨x, hx⟩ : ∃ x, l[m]? = some x := ⟨_, List.getElem?_eq_getElem (by omega)⟩
      obtain ⟨ad, g1, el, _⟩ := elt_at (P := Try.prog) (k := .i64) (t := 111) (hs.call hA.below) hx (e := 25) (by kernel_rfl) (by kernel_rfl)
      refine ⟨ad, g1, _, _, _, _, _, _, el.agg 4 (by kernel_rfl) (by kernel_rfl) (by simp) (by simp), fun w15 hb15 hu => ?_⟩
      have hA : At W [n1] w15 := ⟨(hA.call hb15).chg, hu⟩
      refine at_inv hA (hp _ hA.below x (List.mem_of_getElem? hx)) fun w17 hA hk _ => ⟨_, rfl, hk, brD (fun hc => ?_) (fun hc => ?_)⟩
      · rw [succ_i m (by omega)]
        refine ⟨⟨hA, m + 1, hi, rfl, rfl, by omega, hhl, fun t y ht hy => ?_, h2⟩, by simp only; omega⟩
        by_cases htm : t = m
        · subst htm
          rw [hx] at hy
          cases hy
          exact hc
        · exact aF_trans (srt (by omega) hy hx) hc
      · refine ⟨⟨hA, lo, m, rfl, rfl, by omega, by omega, h1, fun t y ht hy hh => ?_⟩, by simp only; omega⟩
        by_cases htm : t = m
        · subst htm
          rw [hx] at hy
          cases hy
          exact hc hh
        · exact hc (aF_trans (srt (by omega) hx hy) hh)
    · have hlo : lo = hi := by omega
      subst hlo
      have ht1 : ∀ x ∈ l.take lo, aF x.1 f.1 < 0 := fun x hx => by
        obtain ⟨j, hj, rfl⟩ := List.mem_iff_getElem.1 hx
        rw [List.length_take] at hj
        refine h1 j _ (by omega) ?_
        rw [List.getElem_take]
        exact List.getElem?_eq_getElem _
      have ht2 : ∀ x ∈ l.drop lo, ¬ aF x.1 f.1 < 0 := fun x hx => by
        obtain ⟨j, hj, rfl⟩ := List.mem_iff_getElem.1 hx
        rw [List.length_drop] at hj
        refine h2 (lo + j) _ (by omega) ?_
        rw [List.getElem_drop]
        exact List.getElem?_eq_getElem _
      have out : ∀ {b : Bool} {gs' : List Nat} {w' : World}, At W gs' w' → b = decide (f.1 ∈ l.map (·.1)) → R (.returned (.tuple #[.int .i64 lo, .bool b])) w' := fun hA e => hR _ _ hA.below ⟨lo, hhl, by rw [e], ht1, ht2⟩
      have mem : f.1 ∈ l.map (·.1) → ∃ x, l[lo]? = some x ∧ x.1 = f.1 := fun hm => by
        obtain ⟨x, hx, e⟩ := List.mem_map.1 hm
        obtain ⟨j, hj, rfl⟩ := List.mem_iff_getElem.1 hx
        have hjx := List.getElem?_eq_getElem hj
        rcases Nat.lt_trichotomy j lo with hjl | hjl | hjl
        · have := h1 j _ hjl hjx
          rw [e, aF_self] at this
          omega
        · subst hjl
          exact ⟨_, hjx, e⟩
        · have h3 := srt hjl (List.getElem?_eq_getElem (by omega)) hjx
          rw [e] at h3
          exact absurd h3 (h2 lo _ (Nat.le_refl _) (List.getElem?_eq_getElem (by omega)))
      refine brD (fun hlt => ?_) (fun hge2 w30 hb30 hu => out (gs' := [n1]) ⟨(hA.call hb30).chg, hu⟩ (decide_eq_false fun hm => ?_).symm)
      · obtain ⟨x, hx⟩ : ∃ x, l[lo]? = some x := ⟨_, List.getElem?_eq_getElem (by omega)⟩
        obtain ⟨ad, g1, el, _⟩ := elt_at (P := Try.prog) (k := .i64) (t := 111) (hs.call hA.below) hx (e := 25) (by kernel_rfl) (by kernel_rfl)
        refine ⟨ad, g1, _, _, _, _, _, _, el.agg 4 (by kernel_rfl) (by kernel_rfl) (by simp) (by simp), fun w26 hb26 hu => ?_⟩
        have hA : At W [n1] w26 := ⟨(hA.call hb26).chg, hu⟩
        refine at_inv hA (hp _ hA.below x (List.mem_of_getElem? hx)) fun w28 hA hk _ => ⟨_, rfl, hk, out hA ?_⟩
        rw [Bool.eq_iff_iff]
        simp only [beq_iff_eq, decide_eq_true_eq]
        constructor
        · intro e
          exact List.mem_map.2 ⟨x, List.mem_of_getElem? hx, aF_eq e⟩
        · intro hm
          obtain ⟨y, hy, e⟩ := mem hm
          rw [hx] at hy
          cases hy
          unfold cfF
          rw [e, aF_self]
      · obtain ⟨x, hx, _⟩ := mem hm
        have := (List.getElem?_eq_some_iff.1 hx).1
        omega
theorem c114 {l : List TR} {a : Option Addr} {n c : Nat} (hs : SlE W 4 trE l a n c) (hl : 0 < l.length) : RetQ Try.prog 114 #[.slice a n c, .func (.func 115) #[] #[]] W fun v _ => ∃ x ∈ l, v = trV x ∧ ∀ y ∈ l, x.1.2.2.1 ≤ y.1.2.2.1 := by
  intro R hR
  refine f114_calls a n c _ W R ?_
  unfold f114_vc
  have hn := hs.len_le
  intro n1 hn1
  refine brD (fun h => by omega) (fun _ => ?_)
  obtain ⟨x0, hx0⟩ : ∃ x, l[0]? = some x := ⟨_, List.getElem?_eq_getElem (by omega)⟩
  obtain ⟨ad, g1, el, _⟩ := elt_at (P := Try.prog) (k := .i64) (t := 111) hs hx0 (e := 25) (by kernel_rfl) (by kernel_rfl)
  refine ⟨ad, g1, _, _, _, _, _, _, el.agg 4 (by kernel_rfl) (by kernel_rfl) (by simp) (by simp), fun n51 hn51 => ?_⟩
  refine ⟨fun v W' => At W [n1, n51] W' ∧ ∃ (k : Nat) (x : TR), v.1 = k ∧ k ≤ l.length ∧ x ∈ l ∧ (v.2.1 = x.1.1 ∧ v.2.2.1 = x.1.2.1 ∧ v.2.2.2.1 = x.1.2.2.1 ∧ v.2.2.2.2.1 = x.2) ∧ ∀ t y, t < k → l[t]? = some y → x.1.2.2.1 ≤ y.1.2.2.1, fun v _ => ((n : Int) - v.1).toNat, fun w54 hev hu => ⟨(At.refl W).evo (by simp; omega) hev hu, 1, x0, rfl, by omega, List.mem_of_getElem? hx0, ⟨rfl, rfl, rfl, rfl⟩, fun t y ht hy => ?_⟩, ?_⟩
  · have : t = 0 := by omega
    subst this
    rw [hx0] at hy
    cases hy
    omega
  · rintro x55 x56 x57 x58 a59 n60 n61 w62 ⟨hA, k, ⟨xd, xs⟩, hk, hkl, hxm, ⟨e1, e2, e3, e4⟩, hmin⟩
    simp only at hk e1 e2 e3 e4 hmin
    subst hk e1 e2 e3 e4
    have hsz := hA.size
    refine brD (fun hlt => ?_) (fun hge w82 hev hu => ?_)
    · obtain ⟨y, hy⟩ : ∃ y, l[k]? = some y := ⟨_, List.getElem?_eq_getElem (by omega)⟩
      obtain ⟨ad2, g2, el2, _⟩ := elt_at (P := Try.prog) (k := .i64) (t := 111) hs hy (e := 25) (by kernel_rfl) (by kernel_rfl)
      refine ⟨ad2, g2, _, _, _, _, _, _, (el2.below hA.below).agg 4 (by kernel_rfl) (by kernel_rfl) (by simp) (by simp), fun w70 hb70 hu => ?_⟩
      have hA : At W [n1, n51] w70 := ⟨(hA.call hb70).chg, hu⟩
      refine at_inv hA (RetI.of (by kernel_rfl) (c115 y (xd, (a59, n60, n61)) w70)) fun w72 hA hk hb72 => ⟨_, rfl, hk, brD (fun hc => ?_) (fun hc => ?_)⟩
      · have far : ∀ d ∈ [n51], d ≠ ad2.block := el2.far (by simpa using hn51)
        refine ⟨ad2, g2, _, _, _, _, _, _, (el2.below hA.below).agg 4 (by kernel_rfl) (by kernel_rfl) (by simp) (by simp), fun w81 hev hu => ?_⟩
        rw [succ_i k (by omega)]
        have hlt2 : y.1.2.2.1 < xd.2.2.1  := by simp only at hc; rcases sg_cases y.1.2.2.1 xd.2.2.1 with ⟨h, _⟩ | ⟨_, e⟩ | ⟨_, e⟩ <;> omega
        refine ⟨⟨hA.evo (by simp; omega) hev hu, k + 1, y, rfl, by omega, List.mem_of_getElem? hy, ⟨rfl, rfl, rfl, rfl⟩, fun t z ht hz => ?_⟩, by simp only; omega⟩
        by_cases htk : t = k
        · subst htk
          rw [hy] at hz
          cases hz
          omega
        · have := hmin t z (by omega) hz
          omega
      · rw [succ_i k (by omega)]
        have hge2 : xd.2.2.1 ≤ y.1.2.2.1  := by simp only at hc; rcases sg_cases y.1.2.2.1 xd.2.2.1 with ⟨_, e⟩ | ⟨h, _⟩ | ⟨h, _⟩ <;> omega
        refine ⟨⟨hA, k + 1, (xd, (a59, n60, n61)), rfl, by omega, hxm, ⟨rfl, rfl, rfl, rfl⟩, fun t z ht hz => ?_⟩, by simp only; omega⟩
        by_cases htk : t = k
        · subst htk
          rw [hy] at hz
          cases hz
          exact hge2
        · exact hmin t z (by omega) hz
    · have hA := hA.evo (gs' := []) (by simp; omega) hev (fun _ h => by cases h)
      refine hR _ _ hA.below ⟨_, hxm, rfl, fun y hy => ?_⟩
      obtain ⟨j, hj, rfl⟩ := List.mem_iff_getElem.1 hy
      exact hmin j _ (by omega) (List.getElem?_eq_getElem hj)
end Go.Vc.J

/- Filters: copies of rows; those that go. -/
set_option maxRecDepth 20000
set_option maxHeartbeats 2000000
namespace Go.Vc.J
open Go Go.Vc Go.Vc.V Go.RowKit Go.Proofs Vct

variable {w W W' W2 : World} {M N : Nat → Prop} {gs ds : List Nat}

theorem c140 {l : List TR} {a : Option Addr} {n c : Nat} (hs : SlE W 4 trE l a n c) (h0 : 0 < l.length) (hl : l.length ≤ 100000) : RetL Try.prog 140 #[.slice a n c] W 25 4 trE l := by
  intro R hR
  refine f140_calls a n c W R ?_
  unfold f140_vc
  have hn := hs.len_le
  obtain ⟨ad, rfl⟩ : ∃ ad, a = some ad := by
    cases a with
    | none => have := hs.2.2.2.1 rfl; have := hs.2.1; omega
    | some ad => exact ⟨ad, rfl⟩
  refine ⟨false, (fun W => rfl), (fun e => by cases e), fun _ => ?_⟩
  refine opw_litL (e' := 25) (f := trE) (size := 4) (l := ([] : List TR)) (At.refl W) rfl (fun _ _ => rfl) (by decide) (by kernel_rfl) fun g w3 _ hA _ hb3 ho => ⟨_, _, _, rfl, ?_⟩
  refine opw_appendS (bytes := 48) (by kernel_rfl) hA ho (hs.call hb3) (fun _ _ => rfl) (fun x _ => tr_one x) (by simp only [List.length_nil, maxLen]; omega) (by simp only [List.length_nil]; omega) fun v' w8 hA _ _ ho2 => ?_
  obtain ⟨a2, c2, rfl, _⟩ := ho2.slice fun _ _ => rfl
  exact ⟨_, _, _, rfl, leafl hR hA ho2 (by simp)⟩
theorem c139 {l : List TR} {a : Option Addr} {n c : Nat} {fv : Value} {p : TR → Bool} {w0 : World} {M0 : Nat → Prop} {gs0 : List Nat} (ho : OwnF w0 M0 gs0 W 25 4 trE (.slice a n c) l) (hl : l.length ≤ 100000) (hp : ∀ W', Chg (fun b => (Value.slice a n c).ownBlock = some b) W W' → ∀ x ∈ l, RetI Try.prog fv #[trV x] W' (.bool (p x))) :
    RetF Try.prog 139 #[.slice a n c, fv] W (fun b => (Value.slice a n c).ownBlock = some b) fun v W' => ∃ n', v = .slice a n' c ∧ OwnF W (fun b => (Value.slice a n c).ownBlock = some b) [] W' 25 4 trE (.slice a n' c) (l.filter fun x => !p x) := by
  intro R hR
  refine f139_calls a n c fv W R ?_
  unfold f139_vc
  have hn := ho.len
  have ho1 : OwnF W (fun b => (Value.slice a n c).ownBlock = some b) [] W 25 4 trE (.slice a n c) l := ho.base (fun k hk => .inr hk) (fun _ h => by cases h)
  have hA : AtF W (fun b => (Value.slice a n c).ownBlock = some b) [] W := AtF.refl W _
  refine at_callq hA (c118 (ho1.sl fun _ _ => rfl) fun W' hb x hx => hp W' (Chg.of_below hb) x hx) fun v w2 hA _ hb2 ⟨i0, e, hf⟩ => ⟨_, congrArg Ending.returned e, ?_⟩
  rcases hf with ⟨rfl, hall⟩ | ⟨j, x0, rfl, hx0, ht, hmin⟩
  · refine brE (fun _ => hR _ _ hA.chg ⟨n, rfl, ?_⟩) (fun h => absurd rfl h)
    rw [List.filter_eq_self.2 fun x hx => by rw [hall x hx]; rfl]
    exact ho1.call hb2
  refine brE (fun h => by omega) (fun _ => ?_)
  have hjl := (List.getElem?_eq_some_iff.1 hx0).1
  rw [succ_i j (by omega)]
  refine ⟨fun v W' => AtF W (fun b => (Value.slice a n c).ownBlock = some b) [] W' ∧ ∃ (i k : Nat) (dk : List TR), v.1 = i ∧ v.2.1 = k ∧ i < k ∧ k ≤ l.length ∧ dk.length = l.length ∧ dk.take i = (l.take k).filter (fun x => !p x) ∧ dk.drop k = l.drop k ∧ OwnF W (fun b => (Value.slice a n c).ownBlock = some b) [] W' 25 4 trE (.slice a n c) dk, fun v _ => ((n : Int) - v.2.1).toNat, ⟨hA, j, j + 1, l, rfl, rfl, by omega, by omega, rfl, ?_, rfl, ho1.call hb2⟩, ?_⟩
  · rw [List.take_add_one, hx0, List.filter_append]
    have h1 : (l.take j).filter (fun x => !p x) = l.take j := List.filter_eq_self.2 fun x hx => by
      obtain ⟨t, htl, rfl⟩ := List.mem_iff_getElem.1 hx
      rw [List.length_take] at htl
      rw [hmin t _ (by omega) (by rw [List.getElem_take]; exact List.getElem?_eq_getElem _)]
      rfl
    rw [h1]
    simp [ht]
  rintro x6 x7 w8 ⟨hA, i, k, dk, e6, e7, hik, hkl, hdl, htk, hdk, hod⟩
  simp only at e6 e7
  subst e6 e7
  have hnd := hod.len
  refine brD (fun hlt => ?_) (fun hge => ?_)
  · obtain ⟨x, hx⟩ : ∃ x, l[k]? = some x := ⟨_, List.getElem?_eq_getElem (by omega)⟩
    have hxd : dk[k]? = some x := by
      have h1 := List.getElem?_drop (xs := dk) (i := k) (j := 0)
      have h2 := List.getElem?_drop (xs := l) (i := k) (j := 0)
      rw [hdk, h2, Nat.add_zero] at h1
      rw [← h1, hx]
    have hnext : (l.take (k + 1)).filter (fun x => !p x) = (l.take k).filter (fun x => !p x) ++ (if p x = true then [] else [x]) := by
      rw [List.take_add_one, hx, List.filter_append]
      cases hpx : p x <;> simp [hpx]
    obtain ⟨ad, g1, el, _⟩ := elt_at (P := Try.prog) (k := .i64) (t := 111) (hod.sl fun _ _ => rfl) hxd (e := 25) (by kernel_rfl) (by kernel_rfl)
    refine ⟨ad, g1, _, _, _, _, _, _, el.agg 4 (by kernel_rfl) (by kernel_rfl) (by simp) (by simp), fun n16 hn16 w17 hev hu => ?_⟩
    have hb17 := hev.bel (by simpa using hn16)
    have hsz := hA.size
    have hA := hA.evo (gs' := [n16]) (by simp; omega) hev hu
    have hod := (hod.more (gs' := [n16]) (fun g hg _ => by rw [List.mem_singleton] at hg; omega)).call hb17
    rw [succ_i k (by omega)]
    refine at_inv hA (hp _ hA.chg x (List.mem_of_getElem? hx)) fun w19 hA hk hb19 => ⟨_, rfl, hk, brNB (fun hf => ?_) (fun ht => ?_)⟩
    · have hod := hod.call hb19
      obtain ⟨y, hy⟩ : ∃ y, dk[i]? = some y := ⟨_, List.getElem?_eq_getElem (by omega)⟩
      obtain ⟨g, rfl, g2, _⟩ := own_elt (P := Try.prog) (k := .i64) (t := 111) hod (fun _ _ => rfl) hy (by kernel_rfl) (by kernel_rfl)
      refine ⟨_, g2, ?_⟩
      refine opw_store (i := i) (y := x) hA hod (fun _ _ => rfl) (by omega) rfl rfl rfl (by kernel_rfl) (fun w23 hA hk hg hod => ?_) (fun g' e => by cases e; rfl)
      rw [succ_i i (by omega)]
      refine ⟨hk, ⟨hA.sub (by simp), i + 1, k + 1, dk.set i x, rfl, rfl, by omega, by omega, by rw [List.length_set, hdl], ?_, ?_, hod.base (gs' := []) (fun k hk => hod.mine k hk) (fun _ h => by cases h)⟩, by simp only; omega⟩
      · rw [hnext, hf, if_neg (by decide), ← htk, List.take_add_one, List.getElem?_set_self (by omega), List.take_set_of_le (Nat.le_refl _)]
        rfl
      · rw [List.drop_set_of_lt (by omega)]
        have h1 := congrArg (List.drop 1) hdk
        rwa [List.drop_drop, List.drop_drop] at h1
    · refine ⟨⟨hA.sub (by simp), i, k + 1, dk, rfl, rfl, by omega, by omega, hdl, ?_, ?_, (hod.call hb19).base (gs' := []) (fun k hk => hod.mine k hk) (fun _ h => by cases h)⟩, by simp only; omega⟩
      · rw [hnext, ht, if_pos rfl, List.append_nil, htk]
      · have h1 := congrArg (List.drop 1) hdk
        rwa [List.drop_drop, List.drop_drop] at h1
  · have hkl2 : k = l.length := by omega
    subst hkl2
    rw [List.take_length] at htk
    have hil : i ≤ dk.length := by omega
    refine ⟨_, _, _, gives_slice_l (n := 4) (e := 25) (by kernel_rfl) (by kernel_rfl) (by omega), ?_⟩
    refine opw_clearF (te := 25) (i := i) (e := 25) (size := 4) (bytes := 48) (f := trE) (by kernel_rfl) (fun z hz u hu => ?_) hA hod (fun _ _ => rfl) hil rfl (fun w28 hA hk hc ho2 => ⟨rfl, ?_⟩) rfl
    · have hzz : (Try.prog.info? 25).bind (·.zero) = some (.agg #[.int .i64 0, .int .i64 0, .int .i64 0, .slice none 0 0]) := by kernel_rfl
      rw [hzz] at hz
      cases hz
      simp [Value.cells] at hu
      rcases hu with rfl | rfl | rfl | rfl <;> rfl
    · obtain ⟨g, cur, ea, _⟩ := hod.ptr (by omega)
      subst ea
      have hc0 : ¬ c = 0 := fun e => by
        obtain ⟨g, cur, ea, _, _, h1, _⟩ := hod.ptr (by omega)
        omega
      refine ⟨_, _, _, gives_slice_h (n := 4) (e := 25) (by kernel_rfl) (by kernel_rfl) ?_, ?_⟩
      · obtain ⟨g, cur, ea, _, _, h1, _⟩ := hod.ptr (by omega)
        omega
      rw [if_neg hc0, Option.map_some, show (⟨g, 0, none⟩ : Addr).add (0 * 4) = ⟨g, 0, none⟩ from by rw [addr_add]]
      rw [htk] at ho2
      exact hR _ _ hA.chg ⟨i, rfl, ho2⟩
end Go.Vc.J

/- The formulas of functions, printed by a program (VcTool.lean): each is what the generator's formula comes to, by the kernel's reckoning; whoever proves one has the function's contract. -/
set_option maxRecDepth 100000
set_option maxHeartbeats 1000000
set_option linter.unusedVariables false
namespace Vct
open Go Go.Vc Go.RowKit
/-! (*manciple/filters.Table).Put -/
def h18 : Hints := ⟨[3, 5], [43, 56, 60, 69, 74, 84, 88], [10, 35, 52, 54, 14, 19, 24, 30], [(6, [0, 1, 2, 3, 4, 5, 6, 7, 8, 9, 10, 11, 12]), (9, [0, 1, 2, 3, 4, 5, 6, 7, 8, 9]), (12, [0, 1, 2, 3, 4, 5, 6, 7, 8, 9, 10, 11, 12, 13, 14, 15])], [], [], [], [], []⟩
def f18_vc (t : Option Addr) (f_0 : Int) (f_1 : Int) (f_2 : Int) (f_3a : Option Addr) (f_3n : Nat) (f_3c : Nat) (w : World) (R : Ending → World → Prop) : Prop :=
 ∀ (n1 : Nat),
 w.heap.size ≤ n1 →
 ∀ (w2 : World),
 Bel w w2 →
 Under [n1] w2 →
 Calls Proofs.Try.prog 69 #[Value.pointer t] w2 fun (e3 : Ending) (w4 : World) =>
 ∃ (b5 : Bool),
 e3 = Ending.returned (Value.bool b5) ∧
 Keeps [n1] w2 w4 ∧
 ((!b5) = true → R (Ending.returned (Value.int IntKind.i64 40)) w4) ∧
 ((!b5) = false →
 (decide (f_0 < 1) = true → R (Ending.returned (Value.int IntKind.i64 41)) w4) ∧
 (decide (f_0 < 1) = false →
 (decide (f_1 < 1) = true → R (Ending.returned (Value.int IntKind.i64 41)) w4) ∧
 (decide (f_1 < 1) = false →
 (decide (f_2 < 0) = true → R (Ending.returned (Value.int IntKind.i64 41)) w4) ∧
 (decide (f_2 < 0) = false →
 (((↑f_3n : Int) == 0) = true → R (Ending.returned (Value.int IntKind.i64 41)) w4) ∧
 (((↑f_3n : Int) == 0) = false →
 Calls Proofs.Try.prog 17 #[Value.slice f_3a f_3n f_3c] w4 fun (e6 : Ending) (w7 : World) =>
 ∃ (b8 : Bool),
 e6 = Ending.returned (Value.bool b8) ∧
 Keeps [n1] w4 w7 ∧
 ((!b8) = true → R (Ending.returned (Value.int IntKind.i64 41)) w7) ∧
 ((!b8) = false →
 ∀ (n9 : Nat),
 w7.heap.size ≤ n9 →
 ∃ (ad10 : Addr),
 t = some ad10 ∧
 ∃ (r11 : Option Nat),
 Reads Proofs.Try.prog [n9] (Instr.loadAt 113 (Value.pointer (some (Addr.mk ad10.block (ad10.off + 2) none)))) w7 (Value.map r11) ∧
 ∃ (a12 : Option Addr),
 ∃ (n13 : Nat),
 ∃ (n14 : Nat),
 Reads Proofs.Try.prog [n9] (Instr.lookup 113 (Value.map r11) (Value.agg #[Value.int IntKind.i64 f_0, Value.int IntKind.i64 f_1]) false) w7 (Value.slice a12 n13 n14) ∧
 ∀ (w15 : World),
 Evo [n9] w7 w15 →
 Under [n1, n9] w15 →
 Calls Proofs.Try.prog 77
 #[Value.slice a12 n13 n14, Value.agg #[Value.int IntKind.i64 f_0, Value.int IntKind.i64 f_1, Value.int IntKind.i64 f_2, Value.slice f_3a f_3n f_3c],
 Value.func (Fn.func 78) #[] #[]]
 w15 fun (e16 : Ending) (w17 : World) =>
 ∃ (x18 : Int),
 ∃ (b19 : Bool),
 e16 = Ending.returned (Value.tuple #[Value.int IntKind.i64 x18, Value.bool b19]) ∧
 Keeps [n1, n9] w15 w17 ∧
 Reads Proofs.Try.prog [] (Instr.loadAt 113 (Value.pointer (some (Addr.mk ad10.block (ad10.off + 2) none)))) w17 (Value.map r11) ∧
 (b19 = true → R (Ending.returned (Value.int IntKind.i64 0)) w17) ∧
 (b19 = false →
 ∃ (ad20 : Addr),
 t = some ad20 ∧
 ∃ (x21 : Int),
 Reads Proofs.Try.prog [] (Instr.loadAt 3 (Value.pointer (some (Addr.mk ad20.block (ad20.off + 1) none)))) w17 (Value.int IntKind.i64 x21) ∧
 ∃ (ad22 : Addr),
 t = some ad22 ∧
 ∃ (x23 : Int),
 Reads Proofs.Try.prog [] (Instr.loadAt 3 (Value.pointer (some ad22))) w17 (Value.int IntKind.i64 x23) ∧
 (decide (x21 ≥ x23) = true →
 ∀ (w24 : World), Bel w17 w24 → Under [n1, n9] w24 → R (Ending.returned (Value.int IntKind.i64 32)) w24) ∧
 (decide (x21 ≥ x23) = false →
 ∀ (w25 : World),
 Bel w17 w25 →
 Under [n1, n9] w25 →
 Calls Proofs.Try.prog 79 #[Value.slice f_3a f_3n f_3c] w25 fun (e26 : Ending) (w27 : World) =>
 ∃ (a28 : Option Addr),
 ∃ (n29 : Nat),
 ∃ (n30 : Nat),
 e26 = Ending.returned (Value.slice a28 n29 n30) ∧
 Keeps [n1, n9] w25 w27 ∧
 ∃ (ad31 : Addr),
 t = some ad31 ∧
 ∃ (r32 : Option Nat),
 Reads Proofs.Try.prog [n1]
 (Instr.loadAt 113 (Value.pointer (some (Addr.mk ad31.block (ad31.off + 2) none)))) w27
 (Value.map r32) ∧
 ∃ (ad33 : Addr),
 t = some ad33 ∧
 ∃ (r34 : Option Nat),
 Reads Proofs.Try.prog [n1]
 (Instr.loadAt 113 (Value.pointer (some (Addr.mk ad33.block (ad33.off + 2) none)))) w27
 (Value.map r34) ∧
 ∃ (a35 : Option Addr),
 ∃ (n36 : Nat),
 ∃ (n37 : Nat),
 Reads Proofs.Try.prog [n1]
 (Instr.lookup 113 (Value.map r34)
 (Value.agg #[Value.int IntKind.i64 f_0, Value.int IntKind.i64 f_1]) false)
 w27 (Value.slice a35 n36 n37) ∧
 ∀ (w38 : World),
 Evo [n1] w27 w38 →
 Under [n1, n9] w38 →
 OpW Proofs.Try.prog
 (valueS
 (Instr.buildSlice 111 1
 #[(0,
 Value.agg
 #[Value.int IntKind.i64 f_0, Value.int IntKind.i64 f_1,
 Value.int IntKind.i64 f_2, Value.slice a28 n29 n30])]))
 w38 fun (v39 : Value) (w40 : World) =>
 ∃ (a41 : Option Addr),
 ∃ (n42 : Nat),
 ∃ (n43 : Nat),
 v39 = Value.slice a41 n42 n43 ∧
 Keeps [n1, n9] w38 w40 ∧
 Reads Proofs.Try.prog []
 (Instr.lookup 113 (Value.map r34)
 (Value.agg
 #[Value.int IntKind.i64 f_0, Value.int IntKind.i64 f_1])
 false)
 w40 (Value.slice a35 n36 n37) ∧
 Reads Proofs.Try.prog []
 (Instr.loadAt 113
 (Value.pointer
 (some (Addr.mk ad33.block (ad33.off + 2) none))))
 w40 (Value.map r34) ∧
 Reads Proofs.Try.prog []
 (Instr.loadAt 113
 (Value.pointer
 (some (Addr.mk ad31.block (ad31.off + 2) none))))
 w40 (Value.map r32) ∧
 Calls Proofs.Try.prog 80
 #[Value.slice a35 n36 n37, Value.int IntKind.i64 x18,
 Value.slice a41 n42 n43]
 w40 fun (e44 : Ending) (w45 : World) =>
 ∃ (a46 : Option Addr),
 ∃ (n47 : Nat),
 ∃ (n48 : Nat),
 e44 = Ending.returned (Value.slice a46 n47 n48) ∧
 Keeps [n1, n9] w40 w45 ∧
 Reads Proofs.Try.prog []
 (Instr.loadAt 113
 (Value.pointer
 (some
 (Addr.mk ad33.block (ad33.off + 2)
 none))))
 w45 (Value.map r34) ∧
 Reads Proofs.Try.prog []
 (Instr.loadAt 113
 (Value.pointer
 (some
 (Addr.mk ad31.block (ad31.off + 2)
 none))))
 w45 (Value.map r32) ∧
 OpW Proofs.Try.prog
 (skipS
 (Instr.mapUpdate 113 (Value.map r32)
 (Value.agg
 #[Value.int IntKind.i64 f_0,
 Value.int IntKind.i64 f_1])
 (Value.slice a46 n47 n48)))
 w45 fun (v49 : Value) (w50 : World) =>
 Keeps [n1, n9] w45 w50 ∧
 ∃ (ad51 : Addr),
 t = some ad51 ∧
 ∃ (x52 : Int),
 Reads Proofs.Try.prog []
 (Instr.loadAt 3
 (Value.pointer
 (some
 (Addr.mk ad51.block
 (ad51.off + 1) none))))
 w50
 (Value.int IntKind.i64 x52) ∧
 ∃ (ad53 : Addr),
 t = some ad53 ∧
 OpW Proofs.Try.prog
 (skipS
 (Instr.storeAt 3
 (Value.pointer
 (some
 (Addr.mk ad53.block
 (ad53.off + 1)
 none)))
 (Value.int IntKind.i64
 (IntKind.i64.wrap
 (x52 + 1)))))
 w50
 fun (v54 : Value)
 (w55 : World) =>
 Keeps [n1, n9] w50 w55 ∧
 R
 (Ending.returned
 (Value.int IntKind.i64
 0))
 w55))))))))
theorem f18_eq (t : Option Addr) (f_0 : Int) (f_1 : Int) (f_2 : Int) (f_3a : Option Addr) (f_3n : Nat) (f_3c : Nat) (w : World) (R : Ending → World → Prop) : (fnF Go.Proofs.Try.prog h18 Go.Proofs.Try.f18 [Value.pointer t, Value.agg #[Value.int IntKind.i64 f_0, Value.int IntKind.i64 f_1, Value.int IntKind.i64 f_2, Value.slice f_3a f_3n f_3c]] w R).den = f18_vc t f_0 f_1 f_2 f_3a f_3n f_3c w R := by kernel_rfl
theorem f18_calls (t : Option Addr) (f_0 : Int) (f_1 : Int) (f_2 : Int) (f_3a : Option Addr) (f_3n : Nat) (f_3c : Nat) (w : World) (R : Ending → World → Prop) (h : f18_vc t f_0 f_1 f_2 f_3a f_3n f_3c w R) : Calls Go.Proofs.Try.prog 18 (List.toArray [Value.pointer t, Value.agg #[Value.int IntKind.i64 f_0, Value.int IntKind.i64 f_1, Value.int IntKind.i64 f_2, Value.slice f_3a f_3n f_3c]]) w R :=
 fn_sound (H := h18) (fn := Go.Proofs.Try.f18) (by kernel_rfl) (by kernel_rfl) (by kernel_rfl) ((f18_eq t f_0 f_1 f_2 f_3a f_3n f_3c w R).mpr h)


/-! manciple/manciplelaw26.works -/
def h19 : Hints := ⟨[2], [], [18, 22, 27, 34, 41, 46], [(3, [0, 1, 3, 4, 2, 5, 6, 7])], [], [], [], [], []⟩
def f19_vc  (w : World) (R : Ending → World → Prop) : Prop :=
 Calls Proofs.Try.prog 13 #[Value.int IntKind.i64 2] w fun (e1 : Ending) (w2 : World) =>
 ∃ (a3 : Option Addr),
 e1 = Ending.returned (Value.pointer a3) ∧
 OpW Proofs.Try.prog
 (valueS (Instr.buildSlice 23 2 #[(0, Value.agg #[Value.int IntKind.i64 0, Value.int IntKind.i64 0, Value.int IntKind.i64 2]), (1, Value.agg #[Value.int IntKind.i64 1, Value.int IntKind.i64 0, Value.int IntKind.i64 4])])) w2
 fun (v4 : Value) (w5 : World) =>
 ∃ (a6 : Option Addr),
 ∃ (n7 : Nat),
 ∃ (n8 : Nat),
 v4 = Value.slice a6 n7 n8 ∧
 ∀ (n9 : Nat),
 w5.heap.size ≤ n9 →
 ∀ (w10 : World),
 Evo [n9] w5 w10 →
 Under [n9] w10 →
 Calls Proofs.Try.prog 18 #[Value.pointer a3, Value.agg #[Value.int IntKind.i64 1, Value.int IntKind.i64 5, Value.int IntKind.i64 9, Value.slice a6 n7 n8]] w10 fun (e11 : Ending) (w12 : World) =>
 ∃ (x13 : Int),
 e11 = Ending.returned (Value.int IntKind.i64 x13) ∧
 Keeps [n9] w10 w12 ∧
 Calls Proofs.Try.prog 18 #[Value.pointer a3, Value.agg #[Value.int IntKind.i64 1, Value.int IntKind.i64 5, Value.int IntKind.i64 9, Value.slice a6 n7 n8]] w12 fun (e14 : Ending) (w15 : World) =>
 ∃ (x16 : Int),
 e14 = Ending.returned (Value.int IntKind.i64 x16) ∧
 Keeps [n9] w12 w15 ∧
 ((x13 == 0) = true →
 ((x16 == 0) = true →
 Calls Proofs.Try.prog 65 #[Value.pointer a3] w15 fun (e17 : Ending) (w18 : World) =>
 ∃ (x19 : Int),
 e17 = Ending.returned (Value.int IntKind.i64 x19) ∧
 Keeps [n9] w15 w18 ∧
 ((x19 == 1) = true →
 OpW Proofs.Try.prog
 (valueS
 (Instr.buildSlice 23 2
 #[(0, Value.agg #[Value.int IntKind.i64 0, Value.int IntKind.i64 0, Value.int IntKind.i64 2]),
 (1, Value.agg #[Value.int IntKind.i64 1, Value.int IntKind.i64 0, Value.int IntKind.i64 3])]))
 w18 fun (v20 : Value) (w21 : World) =>
 ∃ (a22 : Option Addr),
 ∃ (n23 : Nat),
 ∃ (n24 : Nat),
 v20 = Value.slice a22 n23 n24 ∧
 Keeps [n9] w18 w21 ∧
 Calls Proofs.Try.prog 15 #[Value.pointer a3, Value.int IntKind.i64 1, Value.int IntKind.i64 5, Value.slice a22 n23 n24] w21 fun (e25 : Ending) (w26 : World) =>
 ∃ (b27 : Bool),
 e25 = Ending.returned (Value.bool b27) ∧
 Keeps [n9] w21 w26 ∧
 (b27 = true →
 OpW Proofs.Try.prog (valueS (Instr.buildSlice 23 1 #[(0, Value.agg #[Value.int IntKind.i64 0, Value.int IntKind.i64 0, Value.int IntKind.i64 3])])) w26
 fun (v28 : Value) (w29 : World) =>
 ∃ (a30 : Option Addr),
 ∃ (n31 : Nat),
 ∃ (n32 : Nat),
 v28 = Value.slice a30 n31 n32 ∧
 Keeps [n9] w26 w29 ∧
 Calls Proofs.Try.prog 15 #[Value.pointer a3, Value.int IntKind.i64 1, Value.int IntKind.i64 5, Value.slice a30 n31 n32] w29
 fun (e33 : Ending) (w34 : World) =>
 ∃ (b35 : Bool),
 e33 = Ending.returned (Value.bool b35) ∧
 Keeps [n9] w29 w34 ∧
 ((!b35) = true →
 Calls Proofs.Try.prog 68 #[Value.pointer a3, Value.int IntKind.i64 8] w34 fun (e36 : Ending) (w37 : World) =>
 ∃ (x38 : Int),
 e36 = Ending.returned (Value.int IntKind.i64 x38) ∧
 Keeps [n9] w34 w37 ∧
 ((x38 == 0) = true →
 Calls Proofs.Try.prog 68 #[Value.pointer a3, Value.int IntKind.i64 9] w37 fun (e39 : Ending) (w40 : World) =>
 ∃ (x41 : Int),
 e39 = Ending.returned (Value.int IntKind.i64 x41) ∧
 Keeps [n9] w37 w40 ∧ R (Ending.returned (Value.bool (x41 == 1))) w40) ∧
 ((x38 == 0) = false → R (Ending.returned (Value.bool false)) w37)) ∧
 ((!b35) = false → R (Ending.returned (Value.bool false)) w34)) ∧
 (b27 = false → R (Ending.returned (Value.bool false)) w26)) ∧
 ((x19 == 1) = false → R (Ending.returned (Value.bool false)) w18)) ∧
 ((x16 == 0) = false → R (Ending.returned (Value.bool false)) w15)) ∧
 ((x13 == 0) = false → R (Ending.returned (Value.bool false)) w15)
theorem f19_eq  (w : World) (R : Ending → World → Prop) : (fnF Go.Proofs.Try.prog h19 Go.Proofs.Try.f19 [] w R).den = f19_vc  w R := by kernel_rfl
theorem f19_calls  (w : World) (R : Ending → World → Prop) (h : f19_vc  w R) : Calls Go.Proofs.Try.prog 19 (List.toArray []) w R :=
 fn_sound (H := h19) (fn := Go.Proofs.Try.f19) (by kernel_rfl) (by kernel_rfl) (by kernel_rfl) ((f19_eq  w R).mpr h)

end Vct

/- Tables of filters in memory: New, Long, Blocks. -/
set_option maxRecDepth 20000
set_option maxHeartbeats 2000000
namespace Go.Vc.J
open Go Go.Vc Go.Vc.V Go.RowKit Go.Proofs Vct

variable {w W W' W2 : World} {M N : Nat → Prop} {gs ds : List Nat}

abbrev slW (s : Sl3) : Value := .slice s.1 s.2.1 s.2.2
/-- A vector in its own memory. -/
def VE (W : World) (x : TR) : Prop := VecR W x ∧ ∀ ad, x.2.1 = some ad → ∃ cur, W.heap[ad.block]? = some (.cells cur 73 (0, 0))
theorem VE.chg {x : TR} (h : VE W x) (hc : Chg N W W') (hN : ∀ b cur, N b → W.heap[b]? ≠ some (.cells cur 73 (0, 0))) : VE W' x :=
  ⟨SlR.chg h.1 hc fun b hb hn => by
    obtain ⟨cur, hcur⟩ := h.2 b hb
    exact hN _ cur hn hcur, fun ad hb => by
    obtain ⟨cur, hcur⟩ := h.2 ad hb
    exact ⟨cur, (hc.block _ (Array.getElem?_eq_some_iff.1 hcur).1 fun hn => hN _ cur hn hcur).trans hcur⟩⟩
theorem VE.call {x : TR} (h : VE W x) (hb : Bel W W') : VE W' x := h.chg (N := noB) (Chg.of_below hb) fun _ _ e => e.elim
theorem VE.of_own {x : TkT} {a : Option Addr} {n c : Nat} (ho : OwnF w M gs W 73 3 partE (.slice a n c) x.2.2.2) : VE W (x, (a, n, c)) :=
  ⟨ho.sl fun _ _ => rfl, fun ad hb => by
    simp only at hb
    subst hb
    exact ho.blk rfl⟩
abbrev FlE := List TR × Sl3
abbrev FlM := List (KyT × FlE)
abbrev FlD := List (KyT × List TkT)
abbrev ftC (cap long : Int) (r : Nat) : List Value := [.int .i64 cap, .int .i64 long, .map (some r)]
abbrev flV (x : FlE) : Value := slW x.2
structure FlS (W : World) (g r : Nat) (cap long : Int) (m : FlM) : Prop where
  tb : W.heap[g]? = some (.cells (ftC cap long r).toArray 115 (0, 0))
  mp : OwnM W (fun b => b = r) [] W r keyV flV m
  nd : (m.map (·.1)).Nodup
  rw : ∀ x ∈ m, OwnF W (fun _ => True) [] W 25 4 trE (slW x.2.2) x.2.1
  ap : ∀ x ∈ m, ∀ y ∈ m, (slW x.2.2).ownBlock = (slW y.2.2).ownBlock → x.1 = y.1
  ne : ∀ x ∈ m, x.2.1 ≠ []
  vs : ∀ x ∈ m, ∀ y ∈ x.2.1, VE W y
def Fk (g r : Nat) (m : FlM) : Nat → Prop := fun b => b = g ∨ b = r ∨ ∃ x ∈ m, (slW x.2.2).ownBlock = some b
variable {g r : Nat} {cap long : Int} {m : FlM} {B : Nat → Prop} {D : FlD}
theorem FlS.glt (h : FlS W g r cap long m) : g < W.heap.size := (Array.getElem?_eq_some_iff.1 h.tb).1
theorem FlS.rlt (h : FlS W g r cap long m) : r < W.heap.size := h.mp.lt
theorem FlS.lt (h : FlS W g r cap long m) : ∀ b, Fk g r m b → b < W.heap.size := by
  rintro b (rfl | rfl | ⟨x, hx, hb⟩)
  · exact h.glt
  · exact h.rlt
  · exact (h.rw x hx).lt b hb
theorem FlS.gr (h : FlS W g r cap long m) : g ≠ r := fun e => by
  obtain ⟨es, cl, h1, _⟩ := h.mp.obj
  have := h.tb
  rw [e, h1] at this
  cases this
theorem FlS.gx (h : FlS W g r cap long m) {x : KyT × FlE} (hx : x ∈ m) : (slW x.2.2).ownBlock ≠ some g := fun e => by
  obtain ⟨cur, hc⟩ := (h.rw x hx).blk e
  exact cells_ne h.tb hc (by decide) rfl
theorem FlS.rx (h : FlS W g r cap long m) {x : KyT × FlE} (hx : x ∈ m) : (slW x.2.2).ownBlock ≠ some r := fun e => by
  obtain ⟨cur, hc⟩ := (h.rw x hx).blk e
  obtain ⟨es, cl, h1, _⟩ := h.mp.obj
  rw [h1] at hc
  cases hc
/-- None of the table's blocks holds a vector. -/
theorem FlS.no (h : FlS W g r cap long m) : ∀ b cur, Fk g r m b → W.heap[b]? ≠ some (.cells cur 73 (0, 0)) := by
  rintro b cur (rfl | rfl | ⟨x, hx, hb⟩) e
  · exact cells_ne h.tb e (by decide) rfl
  · obtain ⟨es, cl, h1, _⟩ := h.mp.obj
    rw [h1] at e
    cases e
  · obtain ⟨cur', hc⟩ := (h.rw x hx).blk hb
    exact cells_ne hc e (by decide) rfl
theorem OwnF.here {α : Type} {e : TypeId} {size : Nat} {f : α → List Value} {v : Value} {l : List α} (h : OwnF w M gs W e size f v l) : OwnF W' (fun _ => True) [] W e size f v l := h.base (fun _ _ => .inr trivial) (fun _ h => by cases h)
theorem FlS.call (h : FlS W g r cap long m) (hb : Bel W W') : FlS W' g r cap long m :=
  ⟨(hb.block h.glt).trans h.tb, OwnM.re h.mp (hb.block h.rlt) (.inr rfl) (by simp), h.nd, fun x hx => OwnF.here (W' := W') ((h.rw x hx).call hb), h.ap, h.ne, fun x hx y hy => (h.vs x hx y hy).call hb⟩
theorem FlS.rdR (h : FlS W g r cap long m) (hd : ∀ d ∈ ds, d ≠ g) : Reads Try.prog ds (Instr.loadAt 113 (.pointer (some (Addr.mk g (0 + 2) none)))) W (.map (some r)) := rd_f 1 h.tb rfl (by kernel_rfl) hd
theorem FlS.rdL (h : FlS W g r cap long m) (hd : ∀ d ∈ ds, d ≠ g) : Reads Try.prog ds (Instr.loadAt 3 (.pointer (some (Addr.mk g (0 + 1) none)))) W (.int .i64 long) := rd_f 0 h.tb rfl (by kernel_rfl) hd
theorem FlS.rdC (h : FlS W g r cap long m) (hd : ∀ d ∈ ds, d ≠ g) : Reads Try.prog ds (Instr.loadAt 3 (ptr g)) W (.int .i64 cap) := rd_f0 h.tb (by kernel_rfl) hd
/-- The row of a key. -/
def rowOf (m : FlM) (k : KyT) : FlE := match mget k m with
  | some e => e
  | none => ([], (none, 0, 0))
theorem FlS.look (h : FlS W g r cap long m) (k : KyT) (hd : ∀ d ∈ ds, d ≠ r) : Reads Try.prog ds (Instr.lookup 113 (.map (some r)) (keyV k) false) W (slW (rowOf m k).2) := by
  have hl := reads_lookup1 (P := Try.prog) (t := 113) (et := 111) (z := .slice none 0 0) keyOk_k (by kernel_rfl) (by kernel_rfl) h.mp k (ds := ds) hd
  unfold rowOf
  cases hx : mget k m with
  | none => rw [hx] at hl; exact hl
  | some x => rw [hx] at hl; exact hl
theorem FlS.row (h : FlS W g r cap long m) (k : KyT) : OwnF W (fun _ => True) [] W 25 4 trE (slW (rowOf m k).2) (rowOf m k).1 := by
  unfold rowOf
  cases hx : mget k m with
  | none => exact OwnF.nil
  | some x => exact h.rw _ (mem_of_mget hx)
theorem FlS.rowV (h : FlS W g r cap long m) (k : KyT) : ∀ y ∈ (rowOf m k).1, VE W y := by
  unfold rowOf
  cases hx : mget k m with
  | none => exact fun y hy => by cases hy
  | some x => exact h.vs _ (mem_of_mget hx)
theorem FlS.sl (h : FlS W g r cap long m) (k : KyT) : SlE W 4 trE (rowOf m k).1 (rowOf m k).2.1 (rowOf m k).2.2.1 (rowOf m k).2.2.2 := (h.row k).sl fun _ _ => rfl
theorem FlS.rowB (_h : FlS W g r cap long m) (k : KyT) {b : Nat} (hb : (slW (rowOf m k).2).ownBlock = some b) : Fk g r m b := by
  unfold rowOf at hb
  cases hx : mget k m with
  | none => rw [hx] at hb; cases hb
  | some x => rw [hx] at hb; exact .inr (.inr ⟨_, mem_of_mget hx, hb⟩)
/-! ### Plainly -/
def okF (t : TkT) : Prop := 1 ≤ t.1 ∧ 1 ≤ t.2.1 ∧ 0 ≤ t.2.2.1 ∧ t.2.2.2 ≠ [] ∧ vecB t.2.2.2 = true
instance (t : TkT) : Decidable (okF t) := by unfold okF; infer_instance
def keyK (t : TkT) : KyT := (t.1, t.2.1)
def plF (m : FlM) : FlD := m.map fun x => (x.1, x.2.1.map (·.1))
def lenD : FlD → Nat
  | [] => 0
  | x :: D => x.2.length + lenD D
def rowD (D : FlD) (k : KyT) : List TkT := match mget k D with
  | some l => l
  | none => []
theorem rowOf_pl (m : FlM) (k : KyT) : (rowOf m k).1.map (·.1) = rowD (plF m) k := by
  have h : mget k (plF m) = (mget k m).map fun e => e.1.map (·.1) := by
    unfold plF
    induction m with
    | nil => rfl
    | cons x m ih =>
      rw [List.map_cons]
      unfold mget
      split
      · rfl
      · exact ih
  unfold rowOf rowD
  rw [h]
  cases mget k m <;> rfl
/-- What a table holds, whatever was done. -/
structure GoodF (D : FlD) : Prop where
  nd : (D.map (·.1)).Nodup
  ne : ∀ x ∈ D, x.2 ≠ []
  srt : ∀ x ∈ D, SrtF x.2
  key : ∀ x ∈ D, ∀ y ∈ x.2, keyK y = x.1
  ok : ∀ x ∈ D, ∀ y ∈ x.2, okF y
def allF (D : FlD) : List TkT := D.flatMap (·.2)
theorem lenD_all : ∀ D : FlD, lenD D = (allF D).length
  | [] => rfl
  | x :: D => by
    unfold lenD allF
    rw [List.flatMap_cons, List.length_append, lenD_all D]
    rfl
theorem GoodF.nil : GoodF [] := ⟨by simp, by simp, by simp, by simp, by simp⟩
theorem GoodF.rowS (h : GoodF D) (k : KyT) : SrtF (rowD D k) := by
  unfold rowD
  cases hx : mget k D with
  | none => exact List.Pairwise.nil
  | some l => exact h.srt _ (mem_of_mget hx)
theorem GoodF.mem_row (h : GoodF D) {k : KyT} {y : TkT} : y ∈ rowD D k ↔ y ∈ allF D ∧ keyK y = k := by
  unfold rowD allF
  rw [List.mem_flatMap]
  cases hx : mget k D with
  | none =>
    have hno := mget_none.1 hx
    constructor
    · intro hy; cases hy
    · rintro ⟨⟨x, hx, hy⟩, e⟩
      exact absurd (List.mem_map.2 ⟨x, hx, by rw [← h.key x hx y hy, e]⟩) hno
  | some l =>
    have hm := mem_of_mget hx
    constructor
    · exact fun hy => ⟨⟨_, hm, hy⟩, h.key _ hm y hy⟩
    · rintro ⟨⟨x, hx', hy⟩, e⟩
      have hk : x.1 = k := by rw [← h.key x hx' y hy, e]
      have := Go.Vc.mget_of_mem (k := x.1) (v := x.2) h.nd hx'
      rw [hk, hx] at this
      cases this
      exact hy
theorem GoodF.nodup (h : GoodF D) : (allF D).Nodup := by
  obtain ⟨h1, h2, h3, h4, h5⟩ := h
  unfold allF
  induction D with
  | nil => exact List.nodup_nil
  | cons x D ih =>
    rw [List.map_cons, List.nodup_cons] at h1
    rw [List.flatMap_cons, List.nodup_append]
    refine ⟨(h3 x (List.mem_cons_self ..)).nodup, ih h1.2 (fun y hy => h2 y (List.mem_cons_of_mem _ hy)) (fun y hy => h3 y (List.mem_cons_of_mem _ hy)) (fun y hy => h4 y (List.mem_cons_of_mem _ hy)) (fun y hy => h5 y (List.mem_cons_of_mem _ hy)), fun a ha b hb e => ?_⟩
    subst e
    obtain ⟨y, hy, hb⟩ := List.mem_flatMap.1 hb
    refine h1.1 (List.mem_map.2 ⟨y, hy, ?_⟩)
    rw [← h4 y (List.mem_cons_of_mem _ hy) a hb, h4 x (List.mem_cons_self ..) a ha]
/-- A table whose blocks are of B. -/
def FlX (W : World) (B : Nat → Prop) (g : Nat) (cap : Int) (D : FlD) : Prop := ∃ r m, FlS W g r cap (lenD D) m ∧ plF m = D ∧ (∀ b, Fk g r m b → B b) ∧ ∀ x ∈ m, ∀ y ∈ x.2.1, ∀ ad, y.2.1 = some ad → B ad.block
theorem FlX.call (h : FlX W B g cap D) (hb : Bel W W') : FlX W' B g cap D := by
  obtain ⟨r, m, h1, h2⟩ := h
  exact ⟨r, m, h1.call hb, h2⟩
theorem FlX.mono {B' : Nat → Prop} (h : FlX W B g cap D) (hb : ∀ b, b < W.heap.size → B b → B' b) : FlX W B' g cap D := by
  obtain ⟨r, m, h1, h2, h3, h4⟩ := h
  exact ⟨r, m, h1, h2, fun b hbk => hb b (h1.lt b hbk) (h3 b hbk), fun x hx y hy ad he => by
    obtain ⟨cur, hcur⟩ := (h1.vs x hx y hy).2 ad he
    exact hb _ (Array.getElem?_eq_some_iff.1 hcur).1 (h4 x hx y hy ad he)⟩
theorem FlX.evo (h : FlX W B g cap D) (hev : Evo ds W W') (hd : ∀ d ∈ ds, ¬ B d) : FlX W' B g cap D := by
  obtain ⟨r, m, h1, h2, h3, h4⟩ := h
  have hc := Chg.of_evo hev
  refine ⟨r, m, ⟨(hc.block g h1.glt fun hm => hd _ hm (h3 _ (.inl rfl))).trans h1.tb, OwnM.re h1.mp (hc.block r h1.rlt fun hm => hd _ hm (h3 _ (.inr (.inl rfl)))) (.inr rfl) (by simp), h1.nd, fun x hx => OwnF.here (W' := W') ((h1.rw x hx).chg hc fun b hb hm => hd _ hm (h3 _ (.inr (.inr ⟨x, hx, hb⟩)))), h1.ap, h1.ne, fun x hx y hy => ⟨SlR.chg (h1.vs x hx y hy).1 hc fun b hb hm => hd _ hm (h4 x hx y hy b hb), fun ad hb => ?_⟩⟩, h2, h3, h4⟩
  obtain ⟨cur, hcur⟩ := (h1.vs x hx y hy).2 ad hb
  exact ⟨cur, (hc.block _ (Array.getElem?_eq_some_iff.1 hcur).1 fun hm => hd _ hm (h4 x hx y hy ad hb)).trans hcur⟩
/-- No table that New made. -/
def NoF (W : World) (t : Option Addr) : Prop := t = none ∨ ∃ g, t = some ⟨g, 0, none⟩ ∧ W.heap[g]? = some (.cells ([.int .i64 0, .int .i64 0, .map none] : List Value).toArray 115 (0, 0))
theorem NoF.call {t : Option Addr} (h : NoF W t) (hb : Bel W W') : NoF W' t := h.imp id fun ⟨g, e, hg⟩ => ⟨g, e, (hb.block (Array.getElem?_eq_some_iff.1 hg).1).trans hg⟩
theorem c69 (h : FlS W g r cap long m) : Ret Try.prog 69 #[ptr g] W (.bool true) := by
  intro R hR
  refine f69_calls _ W R ?_
  unfold f69_vc
  exact ⟨true, (fun W => rfl), brB (fun _ => ⟨_, rfl, _, h.rdR nod, true, (fun W => rfl), leaf hR (At.refl W) rfl⟩) (fun e => by cases e)⟩
theorem c69n {t : Option Addr} (h : NoF W t) : Ret Try.prog 69 #[.pointer t] W (.bool false) := by
  intro R hR
  refine f69_calls _ W R ?_
  unfold f69_vc
  rcases h with rfl | ⟨g, rfl, hg⟩
  · exact ⟨false, (fun W => rfl), brB (fun e => by cases e) (fun _ => leaf hR (At.refl W) rfl)⟩
  · exact ⟨true, (fun W => rfl), brB (fun _ => ⟨_, rfl, _, rd_f 1 hg rfl (by kernel_rfl) nod, false, (fun W => rfl), leaf hR (At.refl W) rfl⟩) (fun e => by cases e)⟩
theorem c13 (cap : Int) (w : World) : RetQ Try.prog 13 #[.int .i64 cap] w fun v w' => (cap < 1 ∧ v = .pointer none) ∨ (1 ≤ cap ∧ ∃ g, v = ptr g ∧ FlX w' (fun b => w.heap.size ≤ b) g cap []) := by
  intro R h
  refine f13_calls cap w R ?_
  unfold f13_vc
  refine brD (fun hlt => h _ _ (Bel.refl _) (.inl ⟨hlt, rfl⟩)) (fun hge => ?_)
  refine opw_makeMap (kf := keyV) (vf := flV) (At.refl w) fun r w2 hr hA _ hb2 ho => ⟨_, rfl, ?_⟩
  refine opw_boxS hA fun g w5 hg hA _ hb5 hblk => ⟨_, rfl, ?_⟩
  have hr5 : w5.heap[r]? = w2.heap[r]? := hb5.block ho.lt
  refine h _ _ hA.below (.inr ⟨by omega, g, rfl, r, [], ⟨hblk, OwnM.re ho hr5 (.inr rfl) (by simp), by simp, by simp, by simp, by simp, by simp⟩, rfl, ?_, by simp⟩)
  have := hb2.size
  rintro b (rfl | rfl | ⟨x, hx, _⟩)
  · omega
  · omega
  · cases hx
theorem c65 (h : FlX W B g cap D) : Ret Try.prog 65 #[ptr g] W (.int .i64 (lenD D)) := by
  intro R hR
  refine f65_calls _ W R ?_
  unfold f65_vc
  obtain ⟨r, m, h, _⟩ := h
  exact at_callb (At.refl W) (c69 h) fun w2 hA _ hb => ⟨_, rfl, brNB (fun e => by cases e) (fun _ => ⟨_, rfl, _, (h.call hb).rdL nod, leaf hR hA rfl⟩)⟩
/-- Does a filter hold a vector? -/
def holdsV (V : List PartT) (y : TkT) : Bool := decide (vecB y.2.2.2 = true ∧ vecB V = true) && (vsub y.2.2.2 V).isSome
def blocksD (D : FlD) (k : KyT) (V : List PartT) : Bool := (rowD D k).any (holdsV V)
theorem c15 (h : FlX W B g cap D) (f a : Int) {V : List PartT} {s : Sl3} (hV : SlE W 3 partE V s.1 s.2.1 s.2.2) : Ret Try.prog 15 #[ptr g, .int .i64 f, .int .i64 a, slW s] W (.bool (blocksD D (f, a) V)) := by
  intro R hR
  refine f15_calls _ f a _ _ _ W R ?_
  unfold f15_vc
  obtain ⟨r, m, h, hpl, _⟩ := h
  refine opw_boxS (At.refl W) fun b w2 hb0 hA _ hb2 hblk => ⟨_, rfl, ?_⟩
  have h2 := h.call hb2
  refine at_callb hA (c69 h2) fun w5 hA _ hb5 => ⟨_, rfl, brNB (fun e => by cases e) (fun _ => ?_)⟩
  have h5 := h2.call hb5
  refine ⟨_, rfl, _, h5.rdR nod, _, _, _, h5.look (f, a) nod, ?_⟩
  have hblk5 := (hb5.block (Array.getElem?_eq_some_iff.1 hblk).1).trans hblk
  have hc := c70 (p := fun y => holdsV V y.1) (h5.sl (f, a)) (fv := .func (.func 71) #[] #[.pointer (some ⟨b, 0, none⟩)]) fun W' hb x hx => RetI.of (by kernel_rfl) (c71 (b := b) (s := s) (by rw [hb.block (Array.getElem?_eq_some_iff.1 hblk5).1, hblk5]; rfl) (SlR.call hV ((hb2.trans hb5).trans hb)) x (((h5.rowV (f, a) x hx).call hb).1))
  refine at_callb hA hc fun w13 hA _ _ => ⟨_, rfl, leaf hR hA ?_⟩
  unfold blocksD
  rw [← hpl, ← rowOf_pl, List.any_map]
  rfl
theorem c15n {t : Option Addr} (f a : Int) {s : Sl3} (h : NoF W t) : Ret Try.prog 15 #[.pointer t, .int .i64 f, .int .i64 a, slW s] W (.bool false) := by
  intro R hR
  refine f15_calls _ f a _ _ _ W R ?_
  unfold f15_vc
  refine opw_boxS (At.refl W) fun b w2 hb0 hA _ hb2 hblk => ⟨_, rfl, ?_⟩
  exact at_callb hA (c69n (h.call hb2)) fun w5 hA _ hb5 => ⟨_, rfl, brNB (fun _ => leaf hR hA rfl) (fun e => by cases e)⟩
end Go.Vc.J

/- Tables of filters: Put. -/
set_option maxRecDepth 20000
set_option maxHeartbeats 2000000
namespace Go.Vc.J
open Go Go.Vc Go.Vc.V Go.RowKit Go.Proofs Vct

variable {w W W' W2 : World} {M N : Nat → Prop} {gs ds : List Nat} {g r : Nat} {cap long : Int} {m : FlM} {B : Nat → Prop} {D : FlD}

theorem mem_msetF {κ α : Type} [DecidableEq κ] {k : κ} {v : α} : ∀ {m : List (κ × α)}, (m.map (·.1)).Nodup → ∀ {x : κ × α}, x ∈ mset k v m → x = (k, v) ∨ (x ∈ m ∧ x.1 ≠ k)
  | [], _, x, h => by
    unfold mset at h
    exact .inl (by simpa using h)
  | y :: m, hn, x, h => by
    rw [List.map_cons, List.nodup_cons] at hn
    unfold mset at h
    split at h
    · rename_i hk
      rcases List.mem_cons.1 h with h | h
      · exact .inl h
      · exact .inr ⟨List.mem_cons_of_mem _ h, fun e => hn.1 (List.mem_map.2 ⟨x, h, by rw [e, hk]⟩)⟩
    · rename_i hk
      rcases List.mem_cons.1 h with h | h
      · subst h
        exact .inr ⟨List.mem_cons_self .., fun e => hk e.symm⟩
      · rcases mem_msetF hn.2 h with h | ⟨h1, h2⟩
        · exact .inl h
        · exact .inr ⟨List.mem_cons_of_mem _ h1, h2⟩
theorem plF_mset (k : KyT) (e : FlE) : ∀ m : FlM, plF (mset k e m) = mset k (e.1.map (·.1)) (plF m)
  | [] => rfl
  | x :: m => by
    unfold plF
    rw [List.map_cons]
    unfold mset
    split
    · rfl
    · rw [List.map_cons]
      exact congrArg _ (plF_mset k e m)
theorem FlS.rowg (h : FlS W g r cap long m) (k : KyT) : (slW (rowOf m k).2).ownBlock ≠ some g := by
  unfold rowOf
  cases hx : mget k m with
  | none => exact fun e => by cases e
  | some x => exact h.gx (mem_of_mget hx)
theorem FlS.rowr (h : FlS W g r cap long m) (k : KyT) : (slW (rowOf m k).2).ownBlock ≠ some r := by
  unfold rowOf
  cases hx : mget k m with
  | none => exact fun e => by cases e
  | some x => exact h.rx (mem_of_mget hx)
theorem FlS.rowk (h : FlS W g r cap long m) {k : KyT} {x : KyT × FlE} (hx : x ∈ m) {b : Nat} (hb : (slW x.2.2).ownBlock = some b) (hr : (slW (rowOf m k).2).ownBlock = some b) : x.1 = k := by
  unfold rowOf at hr
  cases hm : mget k m with
  | none => rw [hm] at hr; cases hr
  | some y =>
    rw [hm] at hr
    exact h.ap x hx (k, y) (mem_of_mget hm) (hb.trans hr.symm)
theorem FlS.some_ (h : FlS W g r cap long m) {x : KyT × FlE} (hx : x ∈ m) : ∃ b, (slW x.2.2).ownBlock = some b := by
  obtain ⟨b, cur, e, _⟩ := (h.rw x hx).ptr (List.length_pos_iff.2 (h.ne x hx))
  exact ⟨b, by unfold slW Value.ownBlock; rw [e]⟩
theorem FlS.put {W1 W2 W3 W4 w0 : World} {M0 : Nat → Prop} {gs0 : List Nat} {long' : Int} {k : KyT} {e : FlE} (h : FlS W1 g r cap long m) (hc2 : Chg (fun b => (slW (rowOf m k).2).ownBlock = some b) W1 W2) (hrow : OwnF W1 (fun b => (slW (rowOf m k).2).ownBlock = some b) [] W2 25 4 trE (slW e.2) e.1)
    (hc3 : Chg (fun b => b = r) W2 W3) (hmp : OwnM w0 M0 gs0 W3 r keyV flV (mset k e m)) (hc4 : Chg (fun b => b = g) W3 W4) (htb : W4.heap[g]? = some (.cells (ftC cap long' r).toArray 115 (0, 0))) (hne : e.1 ≠ []) (hvs : ∀ y ∈ e.1, VE W1 y) : FlS W4 g r cap long' (mset k e m) := by
  have hN : ∀ b, ((slW (rowOf m k).2).ownBlock = some b ∨ b = r ∨ b = g) → Fk g r m b := by
    rintro b (hb | rfl | rfl)
    · exact h.rowB k hb
    · exact .inr (.inl rfl)
    · exact .inl rfl
  have hc : Chg (fun b => (slW (rowOf m k).2).ownBlock = some b ∨ b = r ∨ b = g) W1 W4 := ((hc2.mono fun b _ hb => .inl hb).trans hc3 fun b _ hb => .inr (.inl hb)).trans hc4 fun b _ hb => .inr (.inr hb)
  have hg1 := h.glt
  have hr1 := h.rlt
  have hs2 := hc2.size
  have hs3 := hc3.size
  have eb : ∀ b, (slW e.2).ownBlock = some b → b ≠ r ∧ b ≠ g := fun b hb => by
    rcases hrow.mine b hb with h1 | h1
    · exact ⟨by omega, by omega⟩
    · exact ⟨fun e => h.rowr k (e ▸ h1), fun e => h.rowg k (e ▸ h1)⟩
  have cross : ∀ x ∈ m, x.1 ≠ k → (slW x.2.2).ownBlock ≠ (slW e.2).ownBlock := fun x hx hk he => by
    obtain ⟨b, hb⟩ := h.some_ hx
    rcases hrow.mine b (he ▸ hb) with h1 | h1
    · have := (h.rw x hx).lt b hb
      omega
    · exact hk (h.rowk hx hb h1)
  refine ⟨htb, OwnM.re hmp (hc4.block r (by omega) fun e => h.gr e.symm) (.inr rfl) (by simp), mset_nodup h.nd, fun x hx => ?_, fun x hx y hy he => ?_, fun x hx => ?_, fun x hx y hy => ?_⟩
  · rcases mem_msetF h.nd hx with rfl | ⟨hx, hk⟩
    · exact OwnF.here ((hrow.chg hc3 fun b hb hn => (eb b hb).1 hn).chg hc4 fun b hb hn => (eb b hb).2 hn)
    · refine OwnF.here ((h.rw x hx).chg hc ?_)
      rintro b hb (hn | rfl | rfl)
      · exact hk (h.rowk hx hb hn)
      · exact h.rx hx hb
      · exact h.gx hx hb
  · rcases mem_msetF h.nd hx with rfl | ⟨hx, hk⟩ <;> rcases mem_msetF h.nd hy with rfl | ⟨hy, hk'⟩
    · rfl
    · exact absurd he.symm (cross y hy hk')
    · exact absurd he (cross x hx hk)
    · exact h.ap x hx y hy he
  · rcases mem_msetF h.nd hx with rfl | ⟨hx, hk⟩
    · exact hne
    · exact h.ne x hx
  · rcases mem_msetF h.nd hx with rfl | ⟨hx, hk⟩
    · exact (hvs y hy).chg hc fun b cur hn => h.no b cur (hN b hn)
    · exact (h.vs x hx y hy).chg hc fun b cur hn => h.no b cur (hN b hn)
/-! ### Plainly -/
def insF (f : TkT) (l : List TkT) : List TkT := l.filter (fun x => decide (aF x f < 0)) ++ f :: l.filter (fun x => !decide (aF x f < 0))
def putD (cap : Int) (D : FlD) (f : TkT) : Int × FlD :=
  if ¬ okF f then (41, D) else if f ∈ rowD D (keyK f) then (0, D) else if cap ≤ lenD D then (32, D) else (0, mset (keyK f) (insF f (rowD D (keyK f))) D)
theorem insF_mem {f x : TkT} {l : List TkT} : x ∈ insF f l ↔ x = f ∨ x ∈ l := by
  unfold insF
  simp only [List.mem_append, List.mem_cons, List.mem_filter]
  constructor
  · rintro (⟨h, _⟩ | h | ⟨h, _⟩)
    · exact .inr h
    · exact .inl h
    · exact .inr h
  · rintro (h | h)
    · exact .inr (.inl h)
    · cases hd : decide (aF x f < 0)
      · exact .inr (.inr ⟨h, rfl⟩)
      · exact .inl ⟨h, rfl⟩
theorem insF_srt {f : TkT} {l : List TkT} (h : SrtF l) (hf : f ∉ l) : SrtF (insF f l) := by
  unfold insF SrtF
  rw [List.pairwise_append, List.pairwise_cons]
  have h2 : ∀ x ∈ l.filter (fun x => !decide (aF x f < 0)), aF f x < 0 := fun x hx => by
    obtain ⟨hx, hd⟩ := List.mem_filter.1 hx
    have hd : ¬ aF x f < 0 := by simpa using hd
    have := aF_neg x f
    by_cases h0 : aF x f = 0
    · exact absurd (aF_eq h0 ▸ hx) hf
    · omega
  have h1 : ∀ x ∈ l.filter (fun x => decide (aF x f < 0)), aF x f < 0 := fun x hx => by simpa using (List.mem_filter.1 hx).2
  refine ⟨h.sublist List.filter_sublist, ⟨h2, h.sublist List.filter_sublist⟩, fun x hx y hy => ?_⟩
  rcases List.mem_cons.1 hy with rfl | hy
  · exact h1 x hx
  · exact aF_trans (h1 x hx) (h2 y hy)
theorem filter_at {f : TkT} : ∀ {l : List TR} {i : Nat}, (∀ x ∈ l.take i, aF x.1 f < 0) → (∀ x ∈ l.drop i, ¬ aF x.1 f < 0) → (l.take i).map (·.1) = (l.map (·.1)).filter (fun x => decide (aF x f < 0)) ∧ (l.drop i).map (·.1) = (l.map (·.1)).filter (fun x => !decide (aF x f < 0)) := fun {l i} h1 h2 => by
  have e : l.map (·.1) = (l.take i).map (·.1) ++ (l.drop i).map (·.1) := by rw [← List.map_append, List.take_append_drop]
  rw [e, List.filter_append, List.filter_append]
  have a1 : ((l.take i).map (·.1)).filter (fun x => decide (aF x f < 0)) = (l.take i).map (·.1) := List.filter_eq_self.2 fun x hx => by
    obtain ⟨y, hy, rfl⟩ := List.mem_map.1 hx
    exact decide_eq_true (h1 y hy)
  have a2 : ((l.take i).map (·.1)).filter (fun x => !decide (aF x f < 0)) = [] := List.filter_eq_nil_iff.2 fun x hx => by
    obtain ⟨y, hy, rfl⟩ := List.mem_map.1 hx
    rw [decide_eq_true (h1 y hy)]
    decide
  have a3 : ((l.drop i).map (·.1)).filter (fun x => decide (aF x f < 0)) = [] := List.filter_eq_nil_iff.2 fun x hx => by
    obtain ⟨y, hy, rfl⟩ := List.mem_map.1 hx
    rw [decide_eq_false (h2 y hy)]
    decide
  have a4 : ((l.drop i).map (·.1)).filter (fun x => !decide (aF x f < 0)) = (l.drop i).map (·.1) := List.filter_eq_self.2 fun x hx => by
    obtain ⟨y, hy, rfl⟩ := List.mem_map.1 hx
    rw [decide_eq_false (h2 y hy)]
    rfl
  rw [a1, a2, a3, a4]
  simp
theorem rowD_mset (D : FlD) (k j : KyT) (l : List TkT) : rowD (mset k l D) j = if j = k then l else rowD D j := by
  unfold rowD
  by_cases h : j = k
  · subst h
    rw [mget_mset_self, if_pos rfl]
  · rw [mget_mset_ne l h, if_neg h]
theorem GoodF.set (h : GoodF D) {k : KyT} {l : List TkT} (h1 : l ≠ []) (h2 : SrtF l) (h3 : ∀ y ∈ l, keyK y = k ∧ okF y) : GoodF (mset k l D) := by
  refine ⟨mset_nodup h.nd, fun x hx => ?_, fun x hx => ?_, fun x hx y hy => ?_, fun x hx y hy => ?_⟩ <;> rcases mem_msetF h.nd hx with rfl | ⟨hx, _⟩
  · exact h1
  · exact h.ne x hx
  · exact h2
  · exact h.srt x hx
  · exact (h3 y hy).1
  · exact h.key x hx y hy
  · exact (h3 y hy).2
  · exact h.ok x hx y hy
theorem GoodF.mem_all (h : GoodF D) {y : TkT} : y ∈ allF D ↔ y ∈ rowD D (keyK y) := by rw [h.mem_row]; simp
theorem GoodF.rowOk (h : GoodF D) {k : KyT} {y : TkT} (hy : y ∈ rowD D k) : keyK y = k ∧ okF y := by
  obtain ⟨h1, h2⟩ := h.mem_row.1 hy
  obtain ⟨x, hx, hy⟩ := List.mem_flatMap.1 h1
  exact ⟨h2, h.ok x hx y hy⟩
theorem GoodF.put (h : GoodF D) (cap : Int) (f : TkT) : GoodF (putD cap D f).2 := by
  unfold putD
  split
  · exact h
  · rename_i hok
    split
    · exact h
    · rename_i hf
      split
      · exact h
      · refine h.set (fun e => by unfold insF at e; simp at e) (insF_srt (h.rowS _) hf) fun y hy => ?_
        rcases insF_mem.1 hy with rfl | hy
        · exact ⟨rfl, Decidable.not_not.1 hok⟩
        · exact h.rowOk hy
/-- Whoever is put in is there, with all that were. -/
theorem GoodF.put_mem (h : GoodF D) {cap : Int} {f : TkT} (h1 : okF f) (h2 : f ∉ allF D) (h3 : ¬ cap ≤ lenD D) (y : TkT) : y ∈ allF (putD cap D f).2 ↔ y = f ∨ y ∈ allF D := by
  have hG := h.put cap f
  have e : (putD cap D f).2 = mset (keyK f) (insF f (rowD D (keyK f))) D := by
    unfold putD
    rw [if_neg fun hh => hh h1, if_neg fun hh => h2 (h.mem_all.2 hh), if_neg h3]
  rw [hG.mem_all, e, rowD_mset, h.mem_all (y := y)]
  split
  · rename_i hk
    rw [insF_mem, hk]
  · rename_i hk
    exact ⟨.inr, fun hh => hh.resolve_left fun e => hk (by rw [e])⟩
theorem GoodF.put_len (h : GoodF D) {cap : Int} {f : TkT} (h1 : okF f) (h2 : f ∉ allF D) (h3 : ¬ cap ≤ lenD D) : lenD (putD cap D f).2 = lenD D + 1 := by
  have hp : (allF (putD cap D f).2).Perm (f :: allF D) := (List.perm_ext_iff_of_nodup (h.put cap f).nodup (List.nodup_cons.2 ⟨h2, h.nodup⟩)).2 fun y => by rw [h.put_mem h1 h2 h3, List.mem_cons]
  rw [lenD_all, lenD_all, hp.length_eq, List.length_cons]
theorem mem_len : ∀ {D : FlD} {x : KyT × List TkT}, x ∈ D → x.2.length ≤ lenD D
  | y :: D, x, h => by
    unfold lenD
    rcases List.mem_cons.1 h with rfl | h
    · omega
    · have := mem_len h
      omega
theorem rowD_len (D : FlD) (k : KyT) : (rowD D k).length ≤ lenD D := by
  unfold rowD
  cases hx : mget k D with
  | none => simp
  | some l => exact mem_len (mem_of_mget hx)
/-! ### Put -/
theorem c18 (h : FlX W B g cap D) (hG : GoodF D) (hl : lenD D ≤ 1000) {f : TR} (hV : VecR W f) : RetF Try.prog 18 #[ptr g, trV f] W B fun v W' => v = .int .i64 (putD cap D f.1).1 ∧ FlX W' (fun b => B b ∨ W.heap.size ≤ b) g cap (putD cap D f.1).2 := by
  intro R hR
  refine f18_calls _ _ _ _ _ _ _ W R ?_
  unfold f18_vc
  obtain ⟨r, m, h, hpl, hB, hvB⟩ := h
  have hn := SlR.len_le hV
  have hg := h.glt
  have hr := h.rlt
  intro n1 hn1 w2 hb2 hu2
  have hA : At W [n1] w2 := ⟨((At.refl W).call hb2).chg, hu2⟩
  have same : ∀ {gs w'} {c : Int}, At W gs w' → (putD cap D f.1) = (c, D) → R (.returned (.int .i64 c)) w' := fun hA e => by
    rw [e] at hR
    exact hR _ _ (Chg.of_below hA.below) ⟨rfl, r, m, h.call hA.below, hpl, fun b hb => .inl (hB b hb), fun x hx y hy ad he => .inl (hvB x hx y hy ad he)⟩
  have bad : ∀ {gs w'}, At W gs w' → ¬ okF f.1 → R (.returned (.int .i64 41)) w' := fun hA e => same hA (by unfold putD; rw [if_pos e])
  refine at_callb hA (c69 (h.call hb2)) fun w4 hA hk hb4 => ⟨_, rfl, hk, brNB (fun e => by cases e) (fun _ => ?_)⟩
  refine brD (fun h1 => bad hA fun hh => by have := hh.1; omega) (fun h1 => brD (fun h2 => bad hA fun hh => by have := hh.2.1; omega) (fun h2 => brD (fun h3 => bad hA fun hh => by have := hh.2.2.1; omega) (fun h3 => brE (fun h4 => bad hA fun hh => hh.2.2.2.1 (List.eq_nil_of_length_eq_zero (by omega))) (fun h4 => ?_))))
  refine at_callb hA (c17 w4 (SlR.call hV hA.below)) fun w7 hA hk hb7 => ⟨_, rfl, hk, brNB (fun hv => bad hA fun hh => by rw [hh.2.2.2.2] at hv; cases hv) (fun hv => ?_)⟩
  have hok : okF f.1 := ⟨by omega, by omega, by omega, fun e => h4 (by rw [hn.1, e]; rfl), hv⟩
  intro n9 hn9
  have h7 := h.call hA.below
  have hsz7 := hA.size
  have hrow := hG.rowS (keyK f.1)
  have hrl : (rowOf m (keyK f.1)).1.map (·.1) = rowD D (keyK f.1) := by rw [rowOf_pl, hpl]
  have hlen : (rowOf m (keyK f.1)).1.length ≤ 1000 := by
    have h1 := rowD_len D (keyK f.1)
    rw [← hrl, List.length_map] at h1
    omega
  refine ⟨_, rfl, _, h7.rdR (by simp; omega), _, _, _, h7.look (keyK f.1) (by simp; omega), fun w15 hev hu => ?_⟩
  have hA := hA.evo (gs' := [n1, n9]) (by simp; omega) hev hu
  have h15 := h.call hA.below
  have hc77 := c77 (f := f) (fv := .func (.func 78) #[] #[]) (h15.sl (keyK f.1)) (by omega) (by rw [hrl]; exact hrow) fun W' hb x hx => RetI.of (by kernel_rfl) (c78 x f W' (((h15.rowV _ x hx).call hb).1) (SlR.call (SlR.call hV hA.below) hb))
  refine at_callq hA hc77 fun v w17 hA hk hb17 ⟨i, hil, ev, ht1, ht2⟩ => ?_
  rw [hrl] at ev
  subst ev
  have h17 := h.call hA.below
  refine ⟨_, _, rfl, hk, h17.rdR nod, brD (fun hin => same hA ?_) (fun hnin => ?_)⟩
  · unfold putD
    rw [if_neg fun hh => hh hok, if_pos hin]
  refine ⟨_, rfl, _, h17.rdL nod, _, rfl, _, h17.rdC nod, brD (fun hge w24 hb24 hu => same (gs := [n1, n9]) ⟨(hA.call hb24).chg, hu⟩ ?_) (fun hlt w25 hb25 hu => ?_)⟩
  · unfold putD
    rw [if_neg fun hh => hh hok, if_neg hnin, if_pos hge]
  have hput : putD cap D f.1 = (0, mset (keyK f.1) (insF f.1 (rowD D (keyK f.1))) D) := by
    unfold putD
    rw [if_neg fun hh => hh hok, if_neg hnin, if_neg hlt]
  have hplen := hG.put_len hok (fun hh => hnin (hG.mem_all.1 hh)) hlt
  rw [hput] at hR hplen
  have hA : At W [n1, n9] w25 := ⟨(hA.call hb25).chg, hu⟩
  have hvl := vec_len' hv
  refine at_calll hA (c79 w25 (SlR.call hV hA.below) (by omega)) (fun _ _ => rfl) fun a28 c30 w27 hA hk hb27 ho28 hs28 => ⟨_, _, _, rfl, hk, ?_⟩
  have h27 := h.call hA.below
  have hsz27 := hA.size
  refine ⟨_, rfl, _, h27.rdR (by simp; omega), _, rfl, _, h27.rdR (by simp; omega), _, _, _, h27.look (keyK f.1) (by simp; omega), fun w38 hev hu => ?_⟩
  have hA := hA.evo (gs' := [n1, n9]) (by simp; omega) hev hu
  have ho38 := ho28.evo (by intro d hd hd2; simp at hd hd2; omega) hev
  have hve := VE.of_own (x := f.1) ho38
  generalize hx' : ((f.1, (a28, f.1.2.2.2.length, c30)) : TR) = x' at hve
  have ex1 : x'.1 = f.1 := by rw [← hx']
  refine opw_lit (e' := 25) (cs := trE x') hA (by rw [← hx']; kernel_rfl) fun w40 hA hk hb40 hcell hblk => ⟨_, _, _, rfl, hk, ?_⟩
  have h40 := h.call hA.below
  have hsz38 := hev.size
  refine ⟨h40.look (keyK f.1) nod, h40.rdR nod, h40.rdR nod, ?_⟩
  have hAF : AtF W (Fk g r m) [n1, n9] w40 := ⟨hA.chg.mono fun b _ hh => hh.elim, hA.under⟩
  have hown : ∀ {b}, (slW (rowOf m (keyK f.1)).2).ownBlock = some b → b < W.heap.size := fun hb => h.lt _ (h.rowB _ hb)
  have hwl := hA.size
  have hs38 : W.heap.size ≤ w38.heap.size := by omega
  have hc80 := c80 (x := x') (i := i) (gv := w38.heap.size) (h40.row (keyK f.1)) hblk (fun hh => by have := hown hh; omega) hil (by omega)
  refine at_callF hAF hc80 (fun b _ hb => .inr (h.rowB _ hb)) (fun b hb hh => by have := hown hh; simp at hb; omega) fun v w45 hA hk hc45 ⟨a46, c48, ev, hrow45⟩ => ?_
  subst ev
  have g45 : w45.heap[g]? = w40.heap[g]? := hc45.block g h40.glt fun hh => h.rowg _ hh
  have r45 : w45.heap[r]? = w40.heap[r]? := hc45.block r h40.rlt fun hh => h.rowr _ hh
  have tb45 := g45.trans h40.tb
  refine ⟨_, _, _, rfl, hk, rd_f 1 tb45 rfl (by kernel_rfl) nod, rd_f 1 tb45 rfl (by kernel_rfl) nod, ?_⟩
  have hmp45 : OwnM W (Fk g r m) [n1, n9] w45 r keyV flV m := OwnM.re h40.mp r45 (.inr (.inr (.inl rfl))) (by simp; omega)
  refine opw_mapUpdate (P := Try.prog) (t := 113) (et := 111) (k := keyK f.1) (kf := keyV) (vf := flV) (v := ((rowOf m (keyK f.1)).1.take i ++ x' :: (rowOf m (keyK f.1)).1.drop i, (a46, (rowOf m (keyK f.1)).1.length + 1, c48))) keyOk_k (by kernel_rfl) hA hmp45 fun w50 hA hk hc50 hmp50 => ?_
  have tb50 := (hc50.block g (Array.getElem?_eq_some_iff.1 tb45).1 h.gr).trans tb45
  refine ⟨hk, _, rfl, _, rd_f 0 tb50 rfl (by kernel_rfl) nod, _, rfl, ?_⟩
  refine opw_storeF (off := 0 + 1) (cells' := ftC cap ((lenD D : Int) + 1) r) hA tb50 (.inr (.inl rfl)) (by simp; omega) (by rw [wrap_i64 (by omega) (by omega)]; kernel_rfl) fun w55 hA hk hc55 hb55 => ⟨hk, ?_⟩
  have hfin := h40.put (k := keyK f.1) (e := ((rowOf m (keyK f.1)).1.take i ++ x' :: (rowOf m (keyK f.1)).1.drop i, (a46, (rowOf m (keyK f.1)).1.length + 1, c48))) (long' := (lenD D : Int) + 1) hc45 hrow45 hc50 hmp50 hc55 hb55 (by simp) fun y hy => by
    rcases List.mem_append.1 hy with hy | hy
    · exact h40.rowV _ y (List.mem_of_mem_take hy)
    · rcases List.mem_cons.1 hy with rfl | hy
      · exact hve.call hb40
      · exact h40.rowV _ y (List.mem_of_mem_drop hy)
  refine hR _ _ (hA.chg.mono fun b _ hb => hB b hb) ⟨rfl, r, mset (keyK f.1) ((rowOf m (keyK f.1)).1.take i ++ x' :: (rowOf m (keyK f.1)).1.drop i, (a46, (rowOf m (keyK f.1)).1.length + 1, c48)) m, ?_, ?_, fun b hb => ?_, fun x hx y hy ad he => ?_⟩
  · rw [hplen, show ((lenD D + 1 : Nat) : Int) = (lenD D : Int) + 1 by omega]
    exact hfin
  · rw [plF_mset, hpl]
    congr 1
    obtain ⟨e1, e2⟩ := filter_at ht1 ht2
    rw [List.map_append, List.map_cons, e1, e2, hrl, ex1]
    rfl
  · rcases hb with rfl | rfl | ⟨x, hx, hxb⟩
    · exact .inl (hB _ (.inl rfl))
    · exact .inl (hB _ (.inr (.inl rfl)))
    · rcases mem_msetF h.nd hx with rfl | ⟨hx, _⟩
      · rcases hrow45.mine b hxb with h1 | h1
        · exact .inr (by omega)
        · exact .inl (hB _ (h.rowB _ h1))
      · exact .inl (hB _ (.inr (.inr ⟨x, hx, hxb⟩)))
  · rcases mem_msetF h.nd hx with rfl | ⟨hx, _⟩
    · have old : ∀ y ∈ (rowOf m (keyK f.1)).1, ∀ ad, y.2.1 = some ad → B ad.block := fun y hy ad he => by
        unfold rowOf at hy
        cases hm : mget (keyK f.1) m with
        | none => rw [hm] at hy; cases hy
        | some e => rw [hm] at hy; exact hvB _ (mem_of_mget hm) y hy ad he
      rcases List.mem_append.1 hy with hy | hy
      · exact .inl (old y (List.mem_of_mem_take hy) ad he)
      · rcases List.mem_cons.1 hy with rfl | hy
        · rw [← hx'] at he
          simp only at he
          have := ho28.mine ad.block (by unfold Value.ownBlock; rw [he])
          exact .inr (this.resolve_right id)
        · exact .inl (old y (List.mem_of_mem_drop hy) ad he)
    · exact .inl (hvB x hx y hy ad he)
end Go.Vc.J

/- A range over a map whose entry at hand is taken out. -/
namespace Go.Vc
open Go Go.RowKit
section
variable {κ α : Type} {P : Program} {w W W' : World} {M N : Nat → Prop} {gs gs' ds : List Nat} {q r : Nat} {kf : κ → Value} {vf : α → Value} {m rest : List (κ × α)} {cur : Option (κ × α)} {kt : TypeId}

theorem KeyOk.inj [DecidableEq κ] (K : KeyOk P kt kf) {k k' : κ} (h : kf k = kf k') : k = k' := by
  have h1 := K.eq k k
  rw [show eqB P 30 kt (kf k) (kf k) = eqB P 30 kt (kf k) (kf k') from by rw [← h]] at h1
  rw [K.eq k k'] at h1
  simpa using h1
theorem filter_erase {β : Type} {p : β → Bool} : ∀ {l : List β} {j : Nat} {x : β}, l[j]? = some x → p x = false → (l.eraseIdx j).filter p = l.filter p
  | [], j, x, h, _ => by simp at h
  | y :: l, 0, x, h, hp => by
    simp at h
    subst h
    rw [List.eraseIdx_cons_zero, List.filter_cons, if_neg (by rw [hp]; decide)]
  | y :: l, j + 1, x, h, hp => by
    rw [List.eraseIdx_cons_succ, List.filter_cons, List.filter_cons, filter_erase (by simpa using h) hp]
theorem opw_deleteIt [DecidableEq κ] {t et ty t2 : TypeId} {fl : Array Bool} {x : κ × α} {K : Value → World → Prop} (Ko : KeyOk P kt kf) (ht : P.underlying t = some (.map kt et)) (hA : AtF w M gs W) (hi : Itr w M gs W q r kf vf m rest (some x)) (hnd : (m.map (·.1)).Nodup) (hm : w.heap.size ≤ r ∨ M r) (hgs : r ∉ gs)
    (h : ∀ w', AtF w M gs w' → Keeps gs W w' → Chg (fun b => b = r) W w' → Itr w M gs w' q r kf vf (mdel x.1 m) rest none → K (.tuple #[]) w') : OpW P (builtin .delete #[t, t2] ty fl #[.map (some r), kf x.1]) W K := by
  have hlt := hi.lts
  obtain ⟨es, clock, since, c0, seen, hr, he, hn, hb, hq, hs1, hs2, hs3, hl, hc⟩ := hi.obj
  obtain ⟨_, e, hem, hback, hek, hev⟩ := hc x rfl
  obtain ⟨j0, hj0, hje⟩ := List.mem_iff_getElem.1 hem
  have hj0' : es.toList[j0]? = some e := by rw [List.getElem?_eq_getElem hj0, hje]
  obtain ⟨y, hy, hyk⟩ : ∃ y, m[j0]? = some y ∧ y.1 = x.1 := by
    have hlen := EntR.len he
    have hy : m[j0]? = some m[j0] := List.getElem?_eq_getElem (by omega)
    obtain ⟨e', he', hk', _⟩ := EntR.at_ he hy
    rw [hj0'] at he'
    cases he'
    exact ⟨_, hy, Ko.inj (hk'.symm.trans hek)⟩
  have hmid : midx x.1 m = some j0 := by
    have hmem : ∃ j, midx x.1 m = some j := by
      cases hmm : midx x.1 m with
      | some j => exact ⟨j, rfl⟩
      | none =>
        have : mget x.1 m = none := by rw [mget_idx, hmm]; rfl
        exact absurd (List.mem_map.2 ⟨y, List.mem_of_getElem? hy, hyk⟩) (mget_none.1 this)
    obtain ⟨j, hj⟩ := hmem
    obtain ⟨v, hv⟩ := midx_key hj
    have h1 : (m.map (·.1))[j]? = some x.1 := by rw [List.getElem?_map, hv]; rfl
    have h2 : (m.map (·.1))[j0]? = some x.1 := by rw [List.getElem?_map, hy]; simp [hyk]
    obtain ⟨l1, e1⟩ := List.getElem?_eq_some_iff.1 h1
    obtain ⟨l2, e2⟩ := List.getElem?_eq_some_iff.1 h2
    have := (List.getElem_inj hnd).1 (e1.trans e2.symm)
    rw [hj, this]
  have hel : (es.eraseIdxIfInBounds j0).toList = es.toList.eraseIdx j0 := by
    have hjl : j0 < es.size := by simpa using hj0
    simp [Array.eraseIdxIfInBounds, hjl]
  have hrun : (Builtin.delete_ #[t, t2] ty #[.map (some r), kf x.1]).run P W = .ok (.tuple #[]) { W with heap := W.heap.setIfInBounds r (.map (es.eraseIdxIfInBounds j0) clock) } := by
    unfold Builtin.delete_
    simp only [List.getElem?_toArray, List.getElem?_cons_zero, List.getElem?_cons_succ]
    rw [run_bind_ok (run_underlying ht W)]
    simp only
    rw [run_bind_ok (run_getObj_m hr)]
    simp only
    rw [run_bind_ok (Ko.chk es.isEmpty x.1 W), run_bind_ok (findKey_run Ko x.1 W he), hmid]
    simp only [Option.bind_some, hy, Option.map_some]
    rw [run_bind_ok (run_setObj_m hr _)]
    rfl
  have hrun2 : (builtin .delete #[t, t2] ty fl #[.map (some r), kf x.1]).run P W = .ok (.value (.tuple #[])) { W with heap := W.heap.setIfInBounds r (.map (es.eraseIdxIfInBounds j0) clock) } := by
    show (do pure (Next.value (← Builtin.delete_ #[t, t2] ty #[.map (some r), kf x.1])) : Sem Next).run P W = _
    rw [run_bind_ok hrun]
    rfl
  unfold OpW
  rw [hrun2]
  have hch : Chg (fun b => b = r) W { W with heap := W.heap.setIfInBounds r (.map (es.eraseIdxIfInBounds j0) clock) } := chg_setObj
  refine h _ (hA.setObjF hm) (keeps_setObj hgs) hch ⟨hi.mine, hi.apart, es.eraseIdxIfInBounds j0, clock, since, c0, seen, setObj_heap hlt.2.1 _, ?_, ?_, ?_, ?_, ?_, hs2, hs3, ?_, fun y hy => by cases hy⟩
  · rw [hel, mdel_at hmid]
    unfold EntR at he ⊢
    rw [map_eraseIdx', he, map_eraseIdx']
  · rw [hel, map_eraseIdx']
    exact hn.sublist (List.eraseIdx_sublist ..)
  · intro e' hem'
    rw [hel] at hem'
    exact hb e' (List.mem_of_mem_eraseIdx hem')
  · rw [hch.block q hlt.1 hlt.2.2]
    exact hq
  · intro e' hem'
    rw [hel] at hem'
    exact hs1 e' (List.mem_of_mem_eraseIdx hem')
  · have hleft : (leftOf (es.eraseIdxIfInBounds j0) seen).toList = (leftOf es seen).toList := by
      unfold leftOf
      rw [Array.toList_filter, Array.toList_filter, hel]
      refine filter_erase hj0' ?_
      obtain ⟨s, rfl⟩ := Array.back?_eq_some_iff.1 hback
      simp
    rw [hleft]
    exact hl
end
end Go.Vc

/- Tables of filters: those that go. -/
set_option maxRecDepth 20000
set_option maxHeartbeats 2000000
namespace Go.Vc.J
open Go Go.Vc Go.Vc.V Go.RowKit Go.Proofs Vct

variable {w W W' W2 : World} {M N : Nat → Prop} {gs ds : List Nat} {g r : Nat} {cap long : Int} {m : FlM} {B : Nat → Prop} {D : FlD}

/-! ### Plainly -/
def dropD (p : TkT → Bool) (L : FlD) : FlD := (L.map fun x => (x.1, x.2.filter fun y => !p y)).filter fun x => !x.2.isEmpty
theorem dropD_append (p : TkT → Bool) (A C : FlD) : dropD p (A ++ C) = dropD p A ++ dropD p C := by
  unfold dropD
  rw [List.map_append, List.filter_append]
theorem dropD_mem {p : TkT → Bool} {L : FlD} {x : KyT × List TkT} : x ∈ dropD p L ↔ x.2 ≠ [] ∧ ∃ l, (x.1, l) ∈ L ∧ x.2 = l.filter fun y => !p y := by
  unfold dropD
  rw [List.mem_filter, List.mem_map]
  constructor
  · rintro ⟨⟨y, hy, rfl⟩, h⟩
    exact ⟨by simpa using h, y.2, hy, rfl⟩
  · rintro ⟨h, l, hl, e⟩
    refine ⟨⟨(x.1, l), hl, ?_⟩, by simpa using h⟩
    rw [← e]
theorem dropD_keys (p : TkT → Bool) (L : FlD) : ((dropD p L).map (·.1)).Sublist (L.map (·.1)) := by
  unfold dropD
  have h1 := (List.filter_sublist (p := fun x : KyT × List TkT => !x.2.isEmpty) (l := L.map fun x => (x.1, x.2.filter fun y => !p y))).map (·.1)
  rw [List.map_map] at h1
  exact h1
theorem GoodF.perm {D1 : FlD} (h : GoodF D) (hp : D1.Perm D) : GoodF D1 :=
  ⟨(hp.map _).nodup_iff.2 h.nd, fun x hx => h.ne x (hp.mem_iff.1 hx), fun x hx => h.srt x (hp.mem_iff.1 hx), fun x hx => h.key x (hp.mem_iff.1 hx), fun x hx => h.ok x (hp.mem_iff.1 hx)⟩
theorem GoodF.drop {D1 : FlD} (h : GoodF D) (hp : D1.Perm D) (p : TkT → Bool) : GoodF (dropD p D1) := by
  have h1 := h.perm hp
  refine ⟨h1.nd.sublist (dropD_keys p D1), fun x hx => (dropD_mem.1 hx).1, fun x hx => ?_, fun x hx y hy => ?_, fun x hx y hy => ?_⟩ <;> obtain ⟨_, l, hl, e⟩ := dropD_mem.1 hx
  · rw [e]
    exact (h1.srt _ hl).sublist List.filter_sublist
  · rw [e] at hy
    exact h1.key _ hl y (List.mem_filter.1 hy).1
  · rw [e] at hy
    exact h1.ok _ hl y (List.mem_filter.1 hy).1
theorem drop_all {D1 : FlD} (hp : D1.Perm D) (p : TkT → Bool) (y : TkT) : y ∈ allF (dropD p D1) ↔ y ∈ allF D ∧ p y = false := by
  unfold allF
  rw [List.mem_flatMap, List.mem_flatMap]
  constructor
  · rintro ⟨x, hx, hy⟩
    obtain ⟨_, l, hl, e⟩ := dropD_mem.1 hx
    rw [e, List.mem_filter] at hy
    exact ⟨⟨_, hp.mem_iff.1 hl, hy.1⟩, by simpa using hy.2⟩
  · rintro ⟨⟨x, hx, hy⟩, hpy⟩
    have hyf : y ∈ x.2.filter fun y => !p y := List.mem_filter.2 ⟨hy, by rw [hpy]; rfl⟩
    exact ⟨(x.1, x.2.filter fun y => !p y), dropD_mem.2 ⟨fun e => (by simp only at e; rw [e] at hyf; cases hyf), x.2, hp.mem_iff.2 hx, rfl⟩, hyf⟩
theorem lenD_append : ∀ A C : FlD, lenD (A ++ C) = lenD A + lenD C
  | [], C => by simp [lenD]
  | x :: A, C => by
    show x.2.length + lenD (A ++ C) = x.2.length + lenD A + lenD C
    rw [lenD_append A C]
    omega
theorem lenD_perm {D1 : FlD} (hp : D1.Perm D) : lenD D1 = lenD D := by
  rw [lenD_all, lenD_all]
  exact (hp.flatMap_right _).length_eq
theorem lenD_drop_le (p : TkT → Bool) : ∀ L : FlD, lenD (dropD p L) ≤ lenD L
  | [] => Nat.le_refl _
  | x :: L => by
    have h := lenD_drop_le p L
    have e : x :: L = [x] ++ L := rfl
    rw [e, dropD_append, lenD_append, lenD_append]
    have h1 : lenD (dropD p [x]) ≤ lenD [x] := by
      unfold dropD
      rw [List.map_cons, List.map_nil, List.filter_cons, List.filter_nil]
      have := List.length_filter_le (fun y => !p y) x.2
      split <;> simp [lenD] <;> exact this
    omega
theorem plF_append (a c : FlM) : plF (a ++ c) = plF a ++ plF c := List.map_append
/-! ### The new rows -/
structure NwS (w W : World) (r : Nat) (m : FlM) : Prop where
  mp : OwnM w noB [] W r keyV flV m
  nd : (m.map (·.1)).Nodup
  rw : ∀ x ∈ m, OwnL w [] W 25 4 trE (slW x.2.2) x.2.1
  ap : ∀ x ∈ m, ∀ y ∈ m, (slW x.2.2).ownBlock = (slW y.2.2).ownBlock → x.1 = y.1
  ne : ∀ x ∈ m, x.2.1 ≠ []
theorem NwS.chg (h : NwS w W r m) (hc : Chg N W W') (h1 : ¬ N r) (h2 : ∀ x ∈ m, ∀ b, (slW x.2.2).ownBlock = some b → ¬ N b) : NwS w W' r m :=
  ⟨h.mp.chg hc h1, h.nd, fun x hx => (h.rw x hx).chg hc (h2 x hx), h.ap, h.ne⟩
theorem NwS.call (h : NwS w W r m) (hb : Bel W W') : NwS w W' r m := h.chg (N := noB) (Chg.of_below hb) id fun _ _ _ _ => id
theorem NwS.ge (h : NwS w W r m) {x : KyT × FlE} (hx : x ∈ m) {b : Nat} (hb : (slW x.2.2).ownBlock = some b) : w.heap.size ≤ b := ((h.rw x hx).mine b hb).resolve_right id
theorem NwS.lt (h : NwS w W r m) {x : KyT × FlE} (hx : x ∈ m) {b : Nat} (hb : (slW x.2.2).ownBlock = some b) : b < W.heap.size := (h.rw x hx).lt b hb
theorem NwS.rge (h : NwS w W r m) : w.heap.size ≤ r := h.mp.mine.resolve_right id
theorem NwS.rx (h : NwS w W r m) {x : KyT × FlE} (hx : x ∈ m) : (slW x.2.2).ownBlock ≠ some r := fun e => by
  obtain ⟨cur, hc⟩ := (h.rw x hx).blk e
  obtain ⟨es, cl, h1, _⟩ := h.mp.obj
  rw [h1] at hc
  cases hc
theorem NwS.some_ (h : NwS w W r m) {x : KyT × FlE} (hx : x ∈ m) : ∃ b, (slW x.2.2).ownBlock = some b := by
  obtain ⟨b, cur, e, _⟩ := (h.rw x hx).ptr (List.length_pos_iff.2 (h.ne x hx))
  exact ⟨b, by unfold slW Value.ownBlock; rw [e]⟩
theorem c110 {fv : Value} {p : TkT → Bool} (h : FlX W B g cap D) (hl : lenD D ≤ 1000) (hp : ∀ W', Chg B W W' → ∀ x : TR, RetI Try.prog fv #[trV x] W' (.bool (p x.1))) :
    RetF Try.prog 110 #[ptr g, fv] W B fun v W' => ∃ D1 : FlD, D1.Perm D ∧ v = .int .i64 ((lenD D : Int) - lenD (dropD p D1)) ∧ FlX W' (fun b => B b ∨ W.heap.size ≤ b) g cap (dropD p D1) := by
  intro R hR
  refine f110_calls _ fv W R ?_
  unfold f110_vc
  obtain ⟨r, m, h, hpl, hB, hvB⟩ := h
  have hg := h.glt
  have hr := h.rlt
  have hA : AtF W (fun b => b = g ∨ b = r) [] W := AtF.refl W _
  have hMB : ∀ b, (b = g ∨ b = r) → B b := by
    rintro b (rfl | rfl)
    · exact hB _ (.inl rfl)
    · exact hB _ (.inr (.inl rfl))
  refine at_callb hA (c69 h) fun w2 hA _ hb2 => ⟨_, rfl, brNB (fun e => by cases e) (fun _ => ?_)⟩
  have h2 := h.call hb2
  refine ⟨_, rfl, _, h2.rdL nod, ?_⟩
  refine opw_makeMap (kf := keyV) (vf := flV) hA fun r8 w7 hr8 hA _ hb7 ho8 => ⟨_, rfl, ?_⟩
  have h7 := h2.call hb7
  have hs2 := hb2.size
  have hs7 := hb7.size
  refine ⟨_, rfl, _, h7.rdR nod, ?_⟩
  refine opw_range (kt := 40) (et := 111) (by kernel_rfl) hA h7.mp fun q w12 hq hA _ hb12 hi => ⟨_, rfl, ?_⟩
  have hr8lt := ho8.lt
  have hb12' := (hb2.trans hb7).trans hb12
  have rows : ∀ {gs W'}, AtF W (fun b => b = g ∨ b = r) gs W' → ∀ x ∈ m, OwnF W (fun _ => True) [] W' 25 4 trE (slW x.2.2) x.2.1 := fun hA x hx => (h.rw x hx).chg hA.chg (by
    rintro b hb (rfl | rfl)
    · exact h.gx hx hb
    · exact h.rx hx hb)
  refine ⟨fun _ W' => AtF W (fun b => b = g ∨ b = r) [] W' ∧ ∃ (mN done new rest : FlM) (cur : Option (KyT × FlE)), Itr W (fun b => b = g ∨ b = r) [] W' q r keyV flV mN rest cur ∧ (mN.map (·.1)).Nodup ∧ (done ++ rest).Perm m ∧ NwS W W' r8 new ∧ plF new = dropD p (plF done) ∧ (∀ x ∈ new, ∀ y ∈ x.2.1, ∃ z ∈ m, y ∈ z.2.1) ∧ W'.heap[g]? = some (.cells (ftC cap ((lenD D : Int) - lenD (plF done) + lenD (plF new)) r).toArray 115 (0, 0)), fun _ W' => itLeft W' q r, ⟨hA, m, [], [], m, none, hi, h.nd, List.Perm.refl _, ⟨?_, by simp, by simp, by simp, by simp⟩, rfl, by simp, ?_⟩, ?_⟩
  · exact OwnM.re ho8 (hb12.block hr8lt) (.inl (by omega)) (by simp)
  · have := (h7.call hb12).tb
    have e : (lenD D : Int) - lenD (plF []) + lenD (plF []) = lenD D := by show (lenD D : Int) - 0 + 0 = _; omega
    rw [e]
    exact this
  rintro w16 ⟨hA, mN, done, new, rest, cur, hi, hnN, hperm, hnew, hpn, hvs, htb⟩
  have hleft := hi.left
  have hi16 := hi
  have hA16 := hA
  have hnodup : ((done ++ rest).map (·.1)).Nodup := (hperm.map _).nodup_iff.2 h.nd
  have hlen : lenD (plF done) + lenD (plF rest) = lenD D := by
    rw [← hpl, ← lenD_append, ← plF_append]
    exact lenD_perm (hperm.map _)
  have hqge : W.heap.size ≤ q := by omega
  have hlts := hi.lts
  have hle := lenD_drop_le p (plF done)
  rw [← hpn] at hle
  refine opw_next hA hi (fun hr0 => ⟨.inl rfl, fun _ => ?_, fun _ _ _ _ _ e => by simp at e⟩) fun x ra rb w18 hr0 hA hk hch hi => ⟨.inr ⟨((x.1.1, x.1.2, ()), (x.2.2.1, x.2.2.2.1, x.2.2.2.2), ()), rfl⟩, fun e => by simp at e, fun _ _ _ _ _ _ => ?_⟩
  · subst hr0
    rw [List.append_nil] at hperm
    simp only [plF, List.map_nil, lenD] at hlen
    refine ⟨_, rfl, ?_⟩
    refine opw_storeF (off := 0 + 2) (cells' := ftC cap ((lenD D : Int) - lenD (plF done) + lenD (plF new)) r8) hA htb (.inr (.inl rfl)) (by simp) (by kernel_rfl) fun w21 hA hk hc21 hb21 => ?_
    have hc21 : Chg (fun b => b = g) w16 w21 := hc21
    refine ⟨_, rfl, _, rd_f 0 hb21 rfl (by kernel_rfl) nod, ?_⟩
    have hD1 : (plF done).Perm D := by rw [← hpl]; exact hperm.map _
    have hld := lenD_perm hD1
    have hnew := hnew.chg hc21 (fun e => by have := hnew.rge; omega) (fun x hx b hb e => by have := hnew.ge hx hb; omega)
    have hval : IntKind.i64.wrap ((lenD D : Int) - ((lenD D : Int) - lenD (plF done) + lenD (plF new))) = (lenD D : Int) - lenD (dropD p (plF done)) := by
      rw [wrap_i64 (by omega) (by omega), ← hpn]
      omega
    rw [hval]
    refine hR _ _ (hA.chg.mono fun b _ hb => hMB b hb) ⟨plF done, hD1, rfl, r8, new, ⟨?_, OwnM.re hnew.mp rfl (.inr rfl) (by simp), hnew.nd, fun x hx => OwnF.here (hnew.rw x hx), hnew.ap, hnew.ne, fun x hx y hy => ?_⟩, hpn, ?_, fun x hx y hy ad he => ?_⟩
    · rw [hb21, ← hpn]
      congr 4
      omega
    · obtain ⟨z, hz, hyz⟩ := hvs x hx y hy
      exact (h.vs z hz y hyz).chg hA.chg fun b cur hn => h.no b cur (hn.imp id .inl)
    · rintro b (rfl | rfl | ⟨x, hx, hb⟩)
      · exact .inl (hB _ (.inl rfl))
      · exact .inr hnew.rge
      · exact .inr (hnew.ge hx hb)
    · obtain ⟨z, hz, hyz⟩ := hvs x hx y hy
      exact .inl (hvB z hz y hyz ad he)
  · have hxr : x ∈ rest := by rw [hr0]; simp
    have hxm : x ∈ m := hperm.mem_iff.1 (List.mem_append_right _ hxr)
    have hnew18 : NwS W w18 r8 new := hnew.chg hch (fun e => by
      obtain ⟨es, cl, h1, _⟩ := hnew.mp.obj
      obtain ⟨_, _, _, _, _, _, _, _, _, h5, _⟩ := hi16.obj
      rw [← e, h1] at h5
      cases h5) (fun y hy b hb e => by
      obtain ⟨cur', hc'⟩ := (hnew.rw y hy).blk hb
      obtain ⟨_, _, _, _, _, _, _, _, _, h5, _⟩ := hi16.obj
      rw [e, h5] at hc'
      cases hc')
    have htb18 := (hch.block g (Array.getElem?_eq_some_iff.1 htb).1 (by omega)).trans htb
    have hq18 := hi.lts.1
    have hr818 := hnew18.mp.lt
    refine opw_entry hi ⟨_, _, _, _, _, rfl, ?_⟩
    intro n36 hn36 w37 hev hu
    have hb37 := hev.bel (by simpa using hn36)
    have hA37 : AtF W (fun b => b = g ∨ b = r) [n36] w37 := ⟨(hA.call hb37).chg, hu⟩
    have hrow37 := rows hA37 x hxm
    have hxlen := hrow37.len
    have hx1 : x.2.1.length ≤ lenD D := by
      have : (x.1, x.2.1.map (·.1)) ∈ D := by rw [← hpl]; exact List.mem_map.2 ⟨x, hxm, rfl⟩
      have := mem_len this
      simpa using this
    refine c140 (hrow37.sl fun _ _ => rfl) (List.length_pos_iff.2 (h.ne x hxm)) (by omega) _ fun v w39 hb39 hrow => ?_
    have ho40 : OwnF W (fun b => b = g ∨ b = r) [n36] w39 25 4 trE v x.2.1 := OwnF.ret hA37 hrow rfl rfl
    obtain ⟨a40, c42, rfl, hs40⟩ := ho40.slice fun _ _ => rfl
    have hfresh : ∀ k, (Value.slice a40 x.2.1.length c42).ownBlock = some k → w37.heap.size ≤ k := fun k hk => (hrow.lt k hk).1
    have hA39 := hA37.call hb39
    have hsz18 := hA.size
    have hsz37 := hb37.size
    have hsz39 := hb39.size
    have hnlt := hA37.under n36 (by simp)
    refine ⟨_, _, _, rfl, hA37.keeps hb39, ?_⟩
    have hc139 := c139 (p := fun y => p y.1) (fv := fv) ho40 (by omega) fun W' hc y _ => hp W' ((hA39.step hc fun b _ hb => .inl (by have := hfresh b hb; omega)).chg.mono fun b _ hb => hMB b hb) y
    refine at_callF hA39 hc139 (fun b _ hb => .inl (by have := hfresh b hb; omega)) (fun b hb hh => by have := hfresh b hh; simp at hb; omega) fun v w44 hA44 hk44 hc44 ⟨n46, ev, ho44⟩ => ?_
    subst ev
    have hn46 := ho44.len
    have hfl := List.length_filter_le (fun y : TR => !p y.1) x.2.1
    have hb1839 := hb37.trans hb39
    have h39 : ∀ {b}, b < w18.heap.size → w44.heap[b]? = w18.heap[b]? := fun {b} hb => by
      rw [hc44.block b (by omega) fun hh => by have := hfresh b hh; omega, hb1839.block hb]
    have htb44 := (h39 (Array.getElem?_eq_some_iff.1 htb18).1).trans htb18
    have hi44 := hi.keep (h39 hi.lts.1) (h39 hi.lts.2.1)
    have hnew44 : NwS W w44 r8 new := (hnew18.call hb1839).chg hc44 (fun hh => by have := hfresh _ hh; have := hnew18.mp.lt; omega) (fun y hy b hb hh => by have := hfresh _ hh; have := hnew18.lt hy hb; omega)
    refine ⟨_, _, _, rfl, hk44, _, rfl, _, rd_f 0 htb44 rfl (by kernel_rfl) nod, _, rfl, ?_⟩
    have hlx : lenD (plF (done ++ [x])) = lenD (plF done) + x.2.1.length := by
      rw [plF_append, lenD_append]
      simp [plF, lenD]
    have hlr : lenD (plF rest) = lenD (plF ra) + (x.2.1.length + lenD (plF rb)) := by
      rw [hr0, plF_append, lenD_append]
      simp [plF, lenD]
    have hw : IntKind.i64.wrap (((lenD D : Int) - lenD (plF done) + lenD (plF new)) - IntKind.i64.wrap ((x.2.2.2.1 : Int) - (n46 : Int))) = (lenD D : Int) - lenD (plF (done ++ [x])) + (lenD (plF new) + n46) := by
      have hxe : x.2.2.2.1 = x.2.1.length := hxlen
      rw [hxe, wrap_i64 (x := (x.2.1.length : Int) - n46) (by omega) (by omega), wrap_i64 (by omega) (by omega), hlx]
      omega
    rw [hw]
    refine opw_storeF (off := 0 + 1) (cells' := ftC cap ((lenD D : Int) - lenD (plF (done ++ [x])) + (lenD (plF new) + n46)) r) hA44 htb44 (.inr (.inl rfl)) (by simp; omega) (by kernel_rfl) fun w52 hA52 hk52 hc52 hb52 => ⟨hk52, ?_⟩
    have hc52 : Chg (fun b => b = g) w44 w52 := hc52
    have hi52 := hi44.chg hc52 (by omega) (fun e => h.gr e.symm)
    have hnew52 := hnew44.chg hc52 (fun e => by have := hnew44.rge; omega) (fun y hy b hb e => by have := hnew44.ge hy hb; omega)
    have hxf : (x.2.1.filter fun y => !p y.1).map (·.1) = (x.2.1.map (·.1)).filter fun y => !p y := by
      rw [List.filter_map]
      rfl
    have hperm' : ((done ++ [x]) ++ (ra ++ rb)).Perm m := by
      refine List.Perm.trans ?_ hperm
      rw [hr0, List.append_assoc]
      refine List.Perm.append_left _ ?_
      rw [List.singleton_append]
      exact List.perm_middle.symm
    have hdx : dropD p (plF (done ++ [x])) = dropD p (plF done) ++ dropD p [(x.1, x.2.1.map (·.1))] := by
      rw [plF_append, dropD_append]
      rfl
    refine brE (fun he => ?_) (fun hne => ?_)
    · refine ⟨_, rfl, _, rd_f 1 hb52 rfl (by kernel_rfl) nod, fun w55 hb55 hu => ?_⟩
      have hA55 : AtF W (fun b => b = g ∨ b = r) [n36] w55 := ⟨(hA52.call hb55).chg, hu⟩
      have hi55 : Itr W (fun b => b = g ∨ b = r) [n36] w55 q r keyV flV mN (ra ++ rb) (some x) := (hi52.call hb55).base (.inl hqge) (by simp; omega)
      refine opw_deleteIt (P := Try.prog) (t := 113) (et := 111) keyOk_k (by kernel_rfl) hA55 hi55 hnN (.inr (.inr rfl)) (by simp; omega) fun w57 hA57 hk57 hc57 hi57 => ⟨rfl, hk57, ?_, ?_⟩
      · have hf0 : (x.2.1.filter fun y => !p y.1) = [] := List.eq_nil_of_length_eq_zero (by omega)
        refine ⟨hA57.sub (by simp), mdel x.1 mN, done ++ [x], new, ra ++ rb, none, hi57.base (.inl hqge) (by simp), mdel_nodup hnN, hperm', (hnew52.call hb55).chg hc57 (fun e => by have := hnew52.rge; omega) (fun y hy b hb e => by have := hnew52.ge hy hb; omega), ?_, hvs, ?_⟩
        · rw [hpn, hdx]
          have : dropD p [(x.1, x.2.1.map (·.1))] = [] := by
            unfold dropD
            rw [List.map_cons, List.map_nil, ← hxf, hf0]
            rfl
          rw [this, List.append_nil]
        · rw [hc57.block g (by have := hA55.size; omega) h.gr, hb55.block (by have := hA52.size; omega), hb52, show ((n46 : Nat) : Int) = 0 from he]
          congr 4 <;> omega
      · have h1 := hi57.left
        have h2 := hi16.left
        show itLeft w57 q r < itLeft w16 q r
        rw [h1, h2, hr0]
        simp
    · have hmp := hnew52.mp
      have hxn : x.1 ∉ new.map (·.1) := fun hh => by
        have h1 : (new.map (·.1)) = (plF new).map (·.1) := by unfold plF; rw [List.map_map]; rfl
        rw [h1, hpn] at hh
        have h2 := (dropD_keys p (plF done)).subset hh
        have h3 : (plF done).map (·.1) = done.map (·.1) := by unfold plF; rw [List.map_map]; rfl
        rw [h3] at h2
        rw [List.map_append, List.nodup_append] at hnodup
        exact hnodup.2.2 _ h2 _ (List.mem_map.2 ⟨x, hxr, rfl⟩) rfl
      have hms : ∀ e : FlE, mset x.1 e new = new ++ [(x.1, e)] := fun e => mset_new (by
        cases hm : midx x.1 new with
        | none => rfl
        | some j =>
          obtain ⟨v, hv⟩ := midx_key hm
          exact absurd (List.mem_map.2 ⟨_, List.mem_of_getElem? hv, rfl⟩) hxn)
      have hmp' : OwnM W (fun b => b = g ∨ b = r) [n36] w52 r8 keyV flV new := OwnM.re hmp rfl (.inl hnew52.rge) (by simp; omega)
      refine opw_mapUpdate (P := Try.prog) (t := 113) (et := 111) (k := x.1) (kf := keyV) (vf := flV) (v := (x.2.1.filter fun y => !p y.1, (a40, n46, c42))) keyOk_k (by kernel_rfl) hA52 hmp' fun w59 hA59 hk59 hc59 hmp59 => ⟨hk59, ?_, ?_⟩
      · rw [hms] at hmp59
        have hne2 : (x.2.1.filter fun y => !p y.1) ≠ [] := fun e => hne (by rw [hn46, e]; rfl)
        have hown : ∀ b, (Value.slice a40 n46 c42).ownBlock = some b → w37.heap.size ≤ b := fun b hb => hfresh b (by cases a40 <;> exact hb)
        have ho52 : OwnF W (fun _ => True) [] w52 25 4 trE (.slice a40 n46 c42) (x.2.1.filter fun y => !p y.1) := OwnF.here (ho44.chg hc52 fun b hb e => by have := hown b hb; omega)
        have ho59 : OwnL W [] w59 25 4 trE (.slice a40 n46 c42) (x.2.1.filter fun y => !p y.1) := (ho52.chg hc59 fun b hb e => by have := hown b hb; have := hnew18.mp.lt; omega).base (fun b hb => .inl (by have := hown b hb; omega)) (fun _ h => by cases h)
        have hnew59 : ∀ y ∈ new, OwnL W [] w59 25 4 trE (slW y.2.2) y.2.1 := fun y hy => (hnew52.rw y hy).chg hc59 fun b hb e => hnew52.rx hy (e ▸ hb)
        refine ⟨hA59.sub (by simp), mN, done ++ [x], new ++ [(x.1, (x.2.1.filter fun y => !p y.1, (a40, n46, c42)))], ra ++ rb, some x, (hi52.chg hc59 (fun e => ?_) (fun e => by have := hnew52.rge; omega)).base (.inl hqge) (by simp), hnN, hperm', ⟨OwnM.re hmp59 rfl (.inl hnew52.rge) (by simp), ?_, fun y hy => ?_, fun y hy z hz e => ?_, fun y hy => ?_⟩, ?_, fun y hy u hu => ?_, ?_⟩
        · obtain ⟨es, cl, h1, _⟩ := hmp.obj
          obtain ⟨_, _, _, _, _, _, _, _, _, h5, _⟩ := hi52.obj
          rw [e, h1] at h5
          cases h5
        · rw [List.map_append, List.nodup_append]
          exact ⟨hnew52.nd, by simp, fun a ha b hb e => hxn (by simp at hb; rw [← hb, ← e]; exact ha)⟩
        · rcases List.mem_append.1 hy with hy | hy
          · exact hnew59 y hy
          · rw [List.mem_singleton] at hy
            subst hy
            exact ho59
        · have cross : ∀ y ∈ new, (slW y.2.2).ownBlock ≠ (Value.slice a40 n46 c42).ownBlock := fun y hy he => by
            obtain ⟨b, hb⟩ := hnew52.some_ hy
            have h1 := hown b (he ▸ hb)
            have h2 := hnew18.lt hy hb
            omega
          rcases List.mem_append.1 hy with hy | hy <;> rcases List.mem_append.1 hz with hz | hz
          · exact hnew52.ap y hy z hz e
          · rw [List.mem_singleton] at hz
            subst hz
            exact absurd e (cross y hy)
          · rw [List.mem_singleton] at hy
            subst hy
            exact absurd e.symm (cross z hz)
          · rw [List.mem_singleton] at hy hz
            subst hy hz
            rfl
        · rcases List.mem_append.1 hy with hy | hy
          · exact hnew52.ne y hy
          · rw [List.mem_singleton] at hy
            subst hy
            exact hne2
        · rw [plF_append, hpn, hdx]
          congr 1
          unfold dropD plF
          rw [List.map_cons, List.map_nil, List.map_cons, List.map_nil, ← hxf, List.filter_cons, if_pos, List.filter_nil]
          simp [hne2]
        · rcases List.mem_append.1 hy with hy | hy
          · exact hvs y hy u hu
          · rw [List.mem_singleton] at hy
            subst hy
            exact ⟨x, hxm, (List.mem_filter.1 hu).1⟩
        · rw [hc59.block g (by have := hA52.size; omega) (fun e => by have := hnew52.rge; omega), hb52, plF_append new, lenD_append (plF new)]
          congr 5
          have : lenD (plF [(x.1, (x.2.1.filter fun y => !p y.1, (a40, n46, c42)))]) = n46 := by
            rw [hn46]
            simp [plF, lenD]
          rw [this]
          omega
      · have h3 : Itr W (fun b => b = g ∨ b = r) [] w59 q r keyV flV mN (ra ++ rb) (some x) := hi52.chg hc59 (fun e => by
          obtain ⟨es, cl, h1, _⟩ := hmp.obj
          obtain ⟨_, _, _, _, _, _, _, _, _, h5, _⟩ := hi52.obj
          rw [e, h1] at h5
          cases h5) (fun e => by have := hnew52.rge; omega)
        have h1 := h3.left
        have h2 := hi16.left
        show itLeft w59 q r < itLeft w16 q r
        rw [h1, h2, hr0]
        simp
end Go.Vc.J

/- The library's functions as they lie in this program: tables of numbers, printed by a program; the kernel compares the bodies. -/
set_option maxRecDepth 100000
set_option linter.unusedVariables false
namespace Go.Proofs
open Go.Shelf
def Try.sortTk_ren : Go.Shelf.Ren := ⟨fun | 6 => 126 | 15 => 130 | 14 => 146 | 28 => 155 | 29 => 156 | 20 => 171 | 21 => 172 | 22 => 173 | 23 => 174 | 24 => 175 | 25 => 176 | 26 => 177 | 27 => 178 | 46 => 187 | 47 => 180 | 48 => 181 | 49 => 188 | 50 => 189 | 57 => 192 | n => n, fun | 22 => 44 | 24 => 48 | 25 => 167 | 3 => 3 | 39 => 162 | 0 => 0 | 53 => 193 | 55 => 195 | 4 => 4 | 46 => 187 | 45 => 186 | 50 => 134 | 5 => 5 | 9 => 9 | 66 => 212 | 70 => 216 | 76 => 222 | 77 => 223 | n => n, fun | n => n⟩
theorem Try.sortTk : Go.Proofs.SlLaysF0.n6 Try.prog Try.sortTk_ren := {
  mixed := by kernel_rfl,
  f6 := ⟨Try.f126.name, by decide, Try.func126.trans (congrArg some (by kernel_rfl))⟩,
  f14 := ⟨Try.f146.name, by decide, Try.func146.trans (congrArg some (by kernel_rfl))⟩,
  f15 := Try.func130.trans (congrArg some (by kernel_rfl)),
  f20 := ⟨Try.f171.name, by decide, Try.func171.trans (congrArg some (by kernel_rfl))⟩,
  f21 := ⟨Try.f172.name, by decide, Try.func172.trans (congrArg some (by kernel_rfl))⟩,
  f22 := ⟨Try.f173.name, by decide, Try.func173.trans (congrArg some (by kernel_rfl))⟩,
  f23 := ⟨Try.f174.name, by decide, Try.func174.trans (congrArg some (by kernel_rfl))⟩,
  f24 := ⟨Try.f175.name, by decide, Try.func175.trans (congrArg some (by kernel_rfl))⟩,
  f25 := ⟨Try.f176.name, by decide, Try.func176.trans (congrArg some (by kernel_rfl))⟩,
  f26 := ⟨Try.f177.name, by decide, Try.func177.trans (congrArg some (by kernel_rfl))⟩,
  f27 := ⟨Try.f178.name, by decide, Try.func178.trans (congrArg some (by kernel_rfl))⟩,
  f28 := Try.func155.trans (congrArg some (by kernel_rfl)),
  f29 := Try.func156.trans (congrArg some (by kernel_rfl)),
  f46 := ⟨Try.f187.name, by decide, Try.func187.trans (congrArg some (by kernel_rfl))⟩,
  f47 := Try.func180.trans (congrArg some (by kernel_rfl)),
  f48 := Try.func181.trans (congrArg some (by kernel_rfl)),
  f49 := ⟨Try.f188.name, by decide, Try.func188.trans (congrArg some (by kernel_rfl))⟩,
  f50 := ⟨Try.f189.name, by decide, Try.func189.trans (congrArg some (by kernel_rfl))⟩,
  f57 := ⟨Try.f192.name, by decide, Try.func192.trans (congrArg some (by kernel_rfl))⟩,
  t0 := Try.underlying0,
  a0 := Try.isAgg0,
  z0 := Try.sizeOf0,
  v0 := Try.zeroValue0,
  t3 := Try.underlying3,
  a3 := Try.isAgg3,
  z3 := Try.sizeOf3,
  v3 := Try.zeroValue3,
  t4 := Try.underlying4,
  a4 := Try.isAgg4,
  z4 := Try.sizeOf4,
  v4 := Try.zeroValue4,
  t5 := Try.underlying5,
  a5 := Try.isAgg5,
  z5 := Try.sizeOf5,
  v5 := Try.zeroValue5,
  t9 := Try.underlying9,
  a9 := Try.isAgg9,
  z9 := Try.sizeOf9,
  v9 := Try.zeroValue9,
  t22 := Try.underlying44,
  a22 := Try.isAgg44,
  z22 := Try.sizeOf44,
  v22 := Try.zeroValue44,
  t25 := Try.underlying167,
  a25 := Try.isAgg167,
  z25 := Try.sizeOf167,
  v25 := Try.zeroValue167,
  t39 := Try.underlying162,
  a39 := Try.isAgg162,
  z39 := Try.sizeOf162,
  v39 := Try.zeroValue162,
  t45 := Try.underlying186,
  a45 := Try.isAgg186,
  z45 := Try.sizeOf186,
  v45 := Try.zeroValue186,
  t46 := Try.underlying187,
  a46 := Try.isAgg187,
  z46 := Try.sizeOf187,
  v46 := Try.zeroValue187,
  t50 := Try.underlying134,
  a50 := Try.isAgg134,
  z50 := Try.sizeOf134,
  v50 := Try.zeroValue134,
  t53 := Try.underlying193,
  a53 := Try.isAgg193,
  z53 := Try.sizeOf193,
  v53 := Try.zeroValue193,
  t55 := Try.underlying195,
  a55 := Try.isAgg195,
  z55 := Try.sizeOf195,
  v55 := Try.zeroValue195,
  t66 := Try.underlying212,
  a66 := Try.isAgg212,
  z66 := Try.sizeOf212,
  v66 := Try.zeroValue212,
  t70 := Try.underlying216,
  a70 := Try.isAgg216,
  z70 := Try.sizeOf216,
  v70 := Try.zeroValue216,
  t76 := Try.underlying222,
  a76 := Try.isAgg222,
  z76 := Try.sizeOf222,
  v76 := Try.zeroValue222,
  t77 := Try.underlying223,
  a77 := Try.isAgg223,
  z77 := Try.sizeOf223,
  v77 := Try.zeroValue223}

def Try.sortAg_ren : Go.Shelf.Ren := ⟨fun | 6 => 92 | 15 => 130 | 14 => 129 | 28 => 155 | 29 => 156 | 20 => 147 | 21 => 148 | 22 => 149 | 23 => 150 | 24 => 151 | 25 => 152 | 26 => 153 | 27 => 154 | 46 => 179 | 47 => 180 | 48 => 181 | 49 => 182 | 50 => 183 | 57 => 190 | n => n, fun | 22 => 81 | 24 => 89 | 25 => 147 | 3 => 3 | 39 => 162 | 0 => 0 | 53 => 193 | 55 => 195 | 4 => 4 | 46 => 187 | 45 => 186 | 50 => 134 | 5 => 5 | 9 => 9 | 66 => 212 | 70 => 216 | 76 => 222 | 77 => 223 | n => n, fun | n => n⟩
theorem Try.sortAg : Go.Proofs.SlLaysF0.n6 Try.prog Try.sortAg_ren := {
  mixed := by kernel_rfl,
  f6 := ⟨Try.f92.name, by decide, Try.func92.trans (congrArg some (by kernel_rfl))⟩,
  f14 := ⟨Try.f129.name, by decide, Try.func129.trans (congrArg some (by kernel_rfl))⟩,
  f15 := Try.func130.trans (congrArg some (by kernel_rfl)),
  f20 := ⟨Try.f147.name, by decide, Try.func147.trans (congrArg some (by kernel_rfl))⟩,
  f21 := ⟨Try.f148.name, by decide, Try.func148.trans (congrArg some (by kernel_rfl))⟩,
  f22 := ⟨Try.f149.name, by decide, Try.func149.trans (congrArg some (by kernel_rfl))⟩,
  f23 := ⟨Try.f150.name, by decide, Try.func150.trans (congrArg some (by kernel_rfl))⟩,
  f24 := ⟨Try.f151.name, by decide, Try.func151.trans (congrArg some (by kernel_rfl))⟩,
  f25 := ⟨Try.f152.name, by decide, Try.func152.trans (congrArg some (by kernel_rfl))⟩,
  f26 := ⟨Try.f153.name, by decide, Try.func153.trans (congrArg some (by kernel_rfl))⟩,
  f27 := ⟨Try.f154.name, by decide, Try.func154.trans (congrArg some (by kernel_rfl))⟩,
  f28 := Try.func155.trans (congrArg some (by kernel_rfl)),
  f29 := Try.func156.trans (congrArg some (by kernel_rfl)),
  f46 := ⟨Try.f179.name, by decide, Try.func179.trans (congrArg some (by kernel_rfl))⟩,
  f47 := Try.func180.trans (congrArg some (by kernel_rfl)),
  f48 := Try.func181.trans (congrArg some (by kernel_rfl)),
  f49 := ⟨Try.f182.name, by decide, Try.func182.trans (congrArg some (by kernel_rfl))⟩,
  f50 := ⟨Try.f183.name, by decide, Try.func183.trans (congrArg some (by kernel_rfl))⟩,
  f57 := ⟨Try.f190.name, by decide, Try.func190.trans (congrArg some (by kernel_rfl))⟩,
  t0 := Try.underlying0,
  a0 := Try.isAgg0,
  z0 := Try.sizeOf0,
  v0 := Try.zeroValue0,
  t3 := Try.underlying3,
  a3 := Try.isAgg3,
  z3 := Try.sizeOf3,
  v3 := Try.zeroValue3,
  t4 := Try.underlying4,
  a4 := Try.isAgg4,
  z4 := Try.sizeOf4,
  v4 := Try.zeroValue4,
  t5 := Try.underlying5,
  a5 := Try.isAgg5,
  z5 := Try.sizeOf5,
  v5 := Try.zeroValue5,
  t9 := Try.underlying9,
  a9 := Try.isAgg9,
  z9 := Try.sizeOf9,
  v9 := Try.zeroValue9,
  t22 := Try.underlying81,
  a22 := Try.isAgg81,
  z22 := Try.sizeOf81,
  v22 := Try.zeroValue81,
  t25 := Try.underlying147,
  a25 := Try.isAgg147,
  z25 := Try.sizeOf147,
  v25 := Try.zeroValue147,
  t39 := Try.underlying162,
  a39 := Try.isAgg162,
  z39 := Try.sizeOf162,
  v39 := Try.zeroValue162,
  t45 := Try.underlying186,
  a45 := Try.isAgg186,
  z45 := Try.sizeOf186,
  v45 := Try.zeroValue186,
  t46 := Try.underlying187,
  a46 := Try.isAgg187,
  z46 := Try.sizeOf187,
  v46 := Try.zeroValue187,
  t50 := Try.underlying134,
  a50 := Try.isAgg134,
  z50 := Try.sizeOf134,
  v50 := Try.zeroValue134,
  t53 := Try.underlying193,
  a53 := Try.isAgg193,
  z53 := Try.sizeOf193,
  v53 := Try.zeroValue193,
  t55 := Try.underlying195,
  a55 := Try.isAgg195,
  z55 := Try.sizeOf195,
  v55 := Try.zeroValue195,
  t66 := Try.underlying212,
  a66 := Try.isAgg212,
  z66 := Try.sizeOf212,
  v66 := Try.zeroValue212,
  t70 := Try.underlying216,
  a70 := Try.isAgg216,
  z70 := Try.sizeOf216,
  v70 := Try.zeroValue216,
  t76 := Try.underlying222,
  a76 := Try.isAgg222,
  z76 := Try.sizeOf222,
  v76 := Try.zeroValue222,
  t77 := Try.underlying223,
  a77 := Try.isAgg223,
  z77 := Try.sizeOf223,
  v77 := Try.zeroValue223}

def Try.sortFl_ren : Go.Shelf.Ren := ⟨fun | 6 => 108 | 15 => 130 | 14 => 138 | 28 => 155 | 29 => 156 | 20 => 160 | 21 => 161 | 22 => 162 | 23 => 163 | 24 => 164 | 25 => 165 | 26 => 166 | 27 => 167 | 46 => 184 | 47 => 180 | 48 => 181 | 49 => 185 | 50 => 186 | 57 => 191 | n => n, fun | 22 => 111 | 24 => 25 | 25 => 136 | 3 => 3 | 39 => 162 | 0 => 0 | 53 => 193 | 55 => 195 | 4 => 4 | 46 => 187 | 45 => 186 | 50 => 134 | 5 => 5 | 9 => 9 | 66 => 212 | 70 => 216 | 76 => 222 | 77 => 223 | n => n, fun | n => n⟩
theorem Try.sortFl : Go.Proofs.SlLaysF0.n6 Try.prog Try.sortFl_ren := {
  mixed := by kernel_rfl,
  f6 := ⟨Try.f108.name, by decide, Try.func108.trans (congrArg some (by kernel_rfl))⟩,
  f14 := ⟨Try.f138.name, by decide, Try.func138.trans (congrArg some (by kernel_rfl))⟩,
  f15 := Try.func130.trans (congrArg some (by kernel_rfl)),
  f20 := ⟨Try.f160.name, by decide, Try.func160.trans (congrArg some (by kernel_rfl))⟩,
  f21 := ⟨Try.f161.name, by decide, Try.func161.trans (congrArg some (by kernel_rfl))⟩,
  f22 := ⟨Try.f162.name, by decide, Try.func162.trans (congrArg some (by kernel_rfl))⟩,
  f23 := ⟨Try.f163.name, by decide, Try.func163.trans (congrArg some (by kernel_rfl))⟩,
  f24 := ⟨Try.f164.name, by decide, Try.func164.trans (congrArg some (by kernel_rfl))⟩,
  f25 := ⟨Try.f165.name, by decide, Try.func165.trans (congrArg some (by kernel_rfl))⟩,
  f26 := ⟨Try.f166.name, by decide, Try.func166.trans (congrArg some (by kernel_rfl))⟩,
  f27 := ⟨Try.f167.name, by decide, Try.func167.trans (congrArg some (by kernel_rfl))⟩,
  f28 := Try.func155.trans (congrArg some (by kernel_rfl)),
  f29 := Try.func156.trans (congrArg some (by kernel_rfl)),
  f46 := ⟨Try.f184.name, by decide, Try.func184.trans (congrArg some (by kernel_rfl))⟩,
  f47 := Try.func180.trans (congrArg some (by kernel_rfl)),
  f48 := Try.func181.trans (congrArg some (by kernel_rfl)),
  f49 := ⟨Try.f185.name, by decide, Try.func185.trans (congrArg some (by kernel_rfl))⟩,
  f50 := ⟨Try.f186.name, by decide, Try.func186.trans (congrArg some (by kernel_rfl))⟩,
  f57 := ⟨Try.f191.name, by decide, Try.func191.trans (congrArg some (by kernel_rfl))⟩,
  t0 := Try.underlying0,
  a0 := Try.isAgg0,
  z0 := Try.sizeOf0,
  v0 := Try.zeroValue0,
  t3 := Try.underlying3,
  a3 := Try.isAgg3,
  z3 := Try.sizeOf3,
  v3 := Try.zeroValue3,
  t4 := Try.underlying4,
  a4 := Try.isAgg4,
  z4 := Try.sizeOf4,
  v4 := Try.zeroValue4,
  t5 := Try.underlying5,
  a5 := Try.isAgg5,
  z5 := Try.sizeOf5,
  v5 := Try.zeroValue5,
  t9 := Try.underlying9,
  a9 := Try.isAgg9,
  z9 := Try.sizeOf9,
  v9 := Try.zeroValue9,
  t22 := Try.underlying111,
  a22 := Try.isAgg111,
  z22 := Try.sizeOf111,
  v22 := Try.zeroValue111,
  t25 := Try.underlying136,
  a25 := Try.isAgg136,
  z25 := Try.sizeOf136,
  v25 := Try.zeroValue136,
  t39 := Try.underlying162,
  a39 := Try.isAgg162,
  z39 := Try.sizeOf162,
  v39 := Try.zeroValue162,
  t45 := Try.underlying186,
  a45 := Try.isAgg186,
  z45 := Try.sizeOf186,
  v45 := Try.zeroValue186,
  t46 := Try.underlying187,
  a46 := Try.isAgg187,
  z46 := Try.sizeOf187,
  v46 := Try.zeroValue187,
  t50 := Try.underlying134,
  a50 := Try.isAgg134,
  z50 := Try.sizeOf134,
  v50 := Try.zeroValue134,
  t53 := Try.underlying193,
  a53 := Try.isAgg193,
  z53 := Try.sizeOf193,
  v53 := Try.zeroValue193,
  t55 := Try.underlying195,
  a55 := Try.isAgg195,
  z55 := Try.sizeOf195,
  v55 := Try.zeroValue195,
  t66 := Try.underlying212,
  a66 := Try.isAgg212,
  z66 := Try.sizeOf212,
  v66 := Try.zeroValue212,
  t70 := Try.underlying216,
  a70 := Try.isAgg216,
  z70 := Try.sizeOf216,
  v70 := Try.zeroValue216,
  t76 := Try.underlying222,
  a76 := Try.isAgg222,
  z76 := Try.sizeOf222,
  v76 := Try.zeroValue222,
  t77 := Try.underlying223,
  a77 := Try.isAgg223,
  z77 := Try.sizeOf223,
  v77 := Try.zeroValue223}

end Go.Proofs

/- Tables of filters: all, the next one; what is done. -/
set_option maxRecDepth 20000
set_option maxHeartbeats 2000000
namespace Go.Vc.J
open Go Go.Vc Go.Vc.V Go.RowKit Go.Proofs Go.Sort Vct

variable {w W W' W2 : World} {M N : Nat → Prop} {gs ds : List Nat} {g r : Nat} {cap long : Int} {m : FlM} {B : Nat → Prop} {D : FlD}

/-! ### What is done -/
def goneP (kind n : Int) (y : TkT) : Bool := if kind = 1 then decide (y.1 = n) else if kind = 2 then decide (y.2.1 = n) else decide (y.2.2.1 ≤ n)
def goneR (p : TkT → Bool) (D : FlD) (res : Int) (D' : FlD) : Prop := ∃ D1 : FlD, D1.Perm D ∧ res = (lenD D : Int) - lenD (dropD p D1) ∧ D' = dropD p D1
def doneR (cap : Int) (D : FlD) (kind n : Int) (f : TkT) (res : Int) (D' : FlD) : Prop := if kind = 0 then (res, D') = putD cap D f else goneR (goneP kind n) D res D'
theorem gone_at {fid : FuncId} {cl : FuncId} (h : FlX W B g cap D) (_hG : GoodF D) (hl : lenD D ≤ 1000) (n : Int) (p : TkT → Bool) (he : ∀ (b : Nat) (x : TR), pureRun Try.prog (invokeS (.func (.func cl) #[] #[.pointer (some ⟨b, 0, none⟩)]) #[trV x]) = some (.enter cl ((#[] ++ #[trV x]) ++ #[.pointer (some ⟨b, 0, none⟩)])))
    (hcl : ∀ (W' : World) (b : Nat), W'.heap[b]? = some (.cells #[.int .i64 n] 2 (0, 0)) → ∀ x : TR, Ret Try.prog cl #[trV x, .pointer (some ⟨b, 0, none⟩)] W' (.bool (p x.1)))
    (hf : ∀ R, OpW Try.prog (valueS (Instr.box 2 (.int .i64 n))) W (fun v1 w2 => ∃ ad3, v1 = .pointer (some ad3) ∧ Calls Try.prog 110 #[ptr g, .func (.func cl) #[] #[.pointer (some ad3)]] w2 fun e4 w5 => ∃ x6, e4 = .returned (.int .i64 x6) ∧ R (.returned (.int .i64 x6)) w5) → Calls Try.prog fid #[ptr g, .int .i64 n] W R) :
    RetF Try.prog fid #[ptr g, .int .i64 n] W B fun v W' => ∃ res D', v = .int .i64 res ∧ goneR p D res D' ∧ FlX W' (fun b => B b ∨ W.heap.size ≤ b) g cap D' := by
  intro R hR
  refine hf R ?_
  refine opw_boxS (At.refl W) fun b w2 hb0 hA _ hb2 hblk => ⟨_, rfl, ?_⟩
  have h2 : FlX w2 (fun x => B x ∧ x < W.heap.size) g cap D := (h.mono fun x hx hB => ⟨hB, hx⟩).call hb2
  have hc := c110 (p := p) (fv := .func (.func cl) #[] #[.pointer (some ⟨b, 0, none⟩)]) h2 hl fun W' hch x => RetI.of (he b x) (hcl W' b (by
    rw [hch.block b (Array.getElem?_eq_some_iff.1 hblk).1 fun hh => by have := hh.2; omega, hblk]
    rfl) x)
  have hA2 : AtF W (fun x => B x ∧ x < W.heap.size) [] w2 := ⟨Chg.of_below hb2, fun _ h => by cases h⟩
  have hs2 := hb2.size
  refine at_callF hA2 hc (fun b _ hb => .inr hb) (fun _ h => by cases h) fun v w5 hA _ hch ⟨D1, hp, ev, hX⟩ => ⟨_, congrArg Ending.returned ev, ?_⟩
  refine hR _ _ (hA.chg.mono fun b _ hb => hb.1) ⟨_, _, rfl, ⟨D1, hp, rfl, rfl⟩, hX.mono fun b _ hb => hb.imp And.left fun hb => by omega⟩
theorem c59 (h : FlX W B g cap D) (hG : GoodF D) (hl : lenD D ≤ 1000) (n : Int) : RetF Try.prog 59 #[ptr g, .int .i64 n] W B fun v W' => ∃ res D', v = .int .i64 res ∧ goneR (goneP 1 n) D res D' ∧ FlX W' (fun b => B b ∨ W.heap.size ≤ b) g cap D' :=
  gone_at (cl := 111) h hG hl n _ (fun b x => by kernel_rfl) (fun W' b hb x => c111 hb x) fun R hR => f59_calls _ _ W R hR
theorem c67 (h : FlX W B g cap D) (hG : GoodF D) (hl : lenD D ≤ 1000) (n : Int) : RetF Try.prog 67 #[ptr g, .int .i64 n] W B fun v W' => ∃ res D', v = .int .i64 res ∧ goneR (goneP 2 n) D res D' ∧ FlX W' (fun b => B b ∨ W.heap.size ≤ b) g cap D' :=
  gone_at (cl := 116) h hG hl n _ (fun b x => by kernel_rfl) (fun W' b hb x => c116 hb x) fun R hR => f67_calls _ _ W R hR
theorem c68 (h : FlX W B g cap D) (hG : GoodF D) (hl : lenD D ≤ 1000) (n : Int) : RetF Try.prog 68 #[ptr g, .int .i64 n] W B fun v W' => ∃ res D', v = .int .i64 res ∧ goneR (goneP 3 n) D res D' ∧ FlX W' (fun b => B b ∨ W.heap.size ≤ b) g cap D' :=
  gone_at (cl := 117) h hG hl n _ (fun b x => by kernel_rfl) (fun W' b hb x => c117 hb x) fun R hR => f68_calls _ _ W R hR
abbrev AcF := Int × Int × TR
abbrev acfE (x : AcF) : List Value := [.int .i64 x.1, .int .i64 x.2.1, .int .i64 x.2.2.1.1, .int .i64 x.2.2.1.2.1, .int .i64 x.2.2.1.2.2.1, slW x.2.2.2]
theorem c14 (h : FlX W B g cap D) (hG : GoodF D) (hl : lenD D ≤ 1000) (kind n : Int) {f : TR} (hV : VecR W f) : RetF Try.prog 14 #[ptr g, .agg #[.int .i64 kind, .int .i64 n, .int .i64 f.1.1, .int .i64 f.1.2.1, .int .i64 f.1.2.2.1, slW f.2]] W B fun v W' => ∃ res D', v = .int .i64 res ∧ doneR cap D kind n f.1 res D' ∧ FlX W' (fun b => B b ∨ W.heap.size ≤ b) g cap D' := by
  intro R hR
  refine f14_calls _ _ _ _ _ _ _ _ _ W R ?_
  unfold f14_vc
  intro n1 hn1
  have h' : ∀ {w2 : World}, Bel W w2 → FlX w2 (fun x => B x ∧ x < W.heap.size) g cap D := fun hb => (h.mono fun x hx hB => ⟨hB, hx⟩).call hb
  have hA : ∀ {w2 : World}, Bel W w2 → Under [n1] w2 → AtF W (fun x => B x ∧ x < W.heap.size) [n1] w2 := fun hb hu => ⟨Chg.of_below hb, hu⟩
  have gn : ∀ {b : Nat}, b ∈ [n1] → ¬ (B b ∧ b < W.heap.size) := fun hb hh => by simp at hb; have := hh.2; omega
  refine brE (fun h0 w2 hb2 hu => ?_) (fun h0 => brE (fun h1 w6 hb6 hu => ?_) (fun h1 => brE (fun h2 w10 hb10 hu => ?_) (fun h2 w14 hb14 hu => ?_)))
  · have hs := hb2.size
    refine at_callF (hA hb2 hu) (c18 (h' hb2) hG hl (SlR.call hV hb2)) (fun b _ hb => .inr hb) (fun b => gn) fun v w4 hA hk hch ⟨ev, hX⟩ => ⟨_, congrArg Ending.returned ev, hk, ?_⟩
    exact hR _ _ (hA.chg.mono fun b _ hb => hb.1) ⟨_, _, rfl, by unfold doneR; rw [if_pos h0], hX.mono fun b _ hb => hb.imp And.left fun hb => by omega⟩
  · have hs := hb6.size
    refine at_callF (hA hb6 hu) (c59 (h' hb6) hG hl n) (fun b _ hb => .inr hb) (fun b => gn) fun v w4 hA hk hch ⟨res, D', ev, hgo, hX⟩ => ⟨_, congrArg Ending.returned ev, hk, ?_⟩
    exact hR _ _ (hA.chg.mono fun b _ hb => hb.1) ⟨_, _, rfl, by unfold doneR; rw [if_neg h0, h1]; exact hgo, hX.mono fun b _ hb => hb.imp And.left fun hb => by omega⟩
  · have hs := hb10.size
    refine at_callF (hA hb10 hu) (c67 (h' hb10) hG hl n) (fun b _ hb => .inr hb) (fun b => gn) fun v w4 hA hk hch ⟨res, D', ev, hgo, hX⟩ => ⟨_, congrArg Ending.returned ev, hk, ?_⟩
    exact hR _ _ (hA.chg.mono fun b _ hb => hb.1) ⟨_, _, rfl, by unfold doneR; rw [if_neg h0, h2]; exact hgo, hX.mono fun b _ hb => hb.imp And.left fun hb => by omega⟩
  · have hs := hb14.size
    refine at_callF (hA hb14 hu) (c68 (h' hb14) hG hl n) (fun b _ hb => .inr hb) (fun b => gn) fun v w4 hA hk hch ⟨res, D', ev, hgo, hX⟩ => ⟨_, congrArg Ending.returned ev, hk, ?_⟩
    refine hR _ _ (hA.chg.mono fun b _ hb => hb.1) ⟨_, _, rfl, ?_, hX.mono fun b _ hb => hb.imp And.left fun hb => by omega⟩
    have e : goneP kind n = goneP 3 n := by
      funext y
      unfold goneP
      rw [if_neg h1, if_neg h2, if_neg (by decide), if_neg (by decide)]
    unfold doneR
    rw [if_neg h0, e]
    exact hgo
/-! ### All -/
theorem sub_list {α : Type} {P : α → Prop} : ∀ {l : List α}, (∀ x ∈ l, P x) → ∃ l2 : List { x // P x }, l2.map (·.1) = l
  | [], _ => ⟨[], rfl⟩
  | x :: l, h => by
    obtain ⟨l2, e⟩ := sub_list (l := l) fun y hy => h y (List.mem_cons_of_mem _ hy)
    exact ⟨⟨x, h x (List.mem_cons_self ..)⟩ :: l2, by rw [List.map_cons, e]⟩
theorem flat_sub {P : TR → Prop} (l2 : List { x // P x }) : l2.flatMap (fun x => trE x.1) = (l2.map (·.1)).flatMap trE := by rw [List.flatMap_map]
theorem at_sortF {a : Option Addr} {n c : Nat} {l : List TR} {K : Ending → World → Prop} (hA : AtF w M gs W) (ho : OwnF w M gs W 25 4 trE (.slice a n c) l) (hv : ∀ x ∈ l, VE W x) (hl : l.length < 4611686018427387904)
    (hK : ∀ l' w', AtF w M gs w' → Keeps gs W w' → Chg (fun b => (Value.slice a n c).ownBlock = some b) W w' → OwnF w M gs w' 25 4 trE (.slice a n c) l' → l'.Perm l → l'.Pairwise (fun x y => ¬ aF y.1 x.1 < 0) → K (.returned (.tuple #[])) w') :
    Calls Try.prog 108 #[.slice a n c, .func (.func 78) #[] #[]] W K := by
  obtain ⟨l2, rfl⟩ := sub_list hv
  have ho2 : OwnF w M gs W 25 4 (fun x : { x // VE W x } => trE x.1) (.slice a n c) l2 := ⟨by have := ho.row0; rwa [List.length_map, ← flat_sub] at this, ho.mine, ho.apart⟩
  haveI : Inhabited { x // VE W x } := ⟨⟨((0, 0, 0, []), (none, 0, 0)), ⟨⟨rfl, Nat.le_refl _, Nat.zero_le _, fun _ => rfl, fun i x hx => by simp at hx⟩, fun ad h => by cases h⟩⟩⟩
  refine at_sortFunc (P := Try.prog) (ρ := Try.sortFl_ren) Try.sortFl (k := 4) (f := fun x : { x // VE W x } => trE x.1) (e := 25) (by kernel_rfl) (by kernel_rfl) (fun _ => rfl) (fun x => tr_one x.1) (fun x y => cfF x.1 y.1) ⟨fun x => swoF.irrefl x.1, fun x y z => swoF.trans x.1 y.1 z.1, fun x y z => swoF.ntrans x.1 y.1 z.1⟩ (g := 78) (cb := #[])
    (enters_of Try.func78 (by kernel_rfl) rfl) hA ho2 (fun W' hc x y => c78 x.1 y.1 W' (x.2.chg hc fun b cur hb hcu => ?_).1 (y.2.chg hc fun b cur hb hcu => ?_).1) (by rwa [List.length_map] at hl) fun l' w' hA hk hc ho' hp hw => ?_
  · obtain ⟨cur', hc'⟩ := ho.blk hb
    exact cells_ne hc' hcu (by decide) rfl
  · obtain ⟨cur', hc'⟩ := ho.blk hb
    exact cells_ne hc' hcu (by decide) rfl
  · exact hK (l'.map (·.1)) w' hA hk hc ⟨by have := ho'.row0; rwa [flat_sub, ← List.length_map (f := Subtype.val)] at this, ho'.mine, ho'.apart⟩ (hp.map _) (List.pairwise_map (f := Subtype.val) (R := fun x y : TR => ¬ aF y.1 x.1 < 0) |>.2 hw)
/-- A filter whose vector lies in new memory. -/
def VX (W0 W : World) (x : TR) : Prop := VE W x ∧ ∀ ad, x.2.1 = some ad → W0.heap.size ≤ ad.block
theorem VX.chg {W0 : World} {x : TR} (h : VX W0 W x) (hc : Chg N W W') (hN : ∀ b cur, N b → W.heap[b]? ≠ some (.cells cur 73 (0, 0))) : VX W0 W' x := ⟨h.1.chg hc hN, h.2⟩
theorem VX.call {W0 : World} {x : TR} (h : VX W0 W x) (hb : Bel W W') : VX W0 W' x := ⟨h.1.call hb, h.2⟩
theorem VX.far {W0 : World} {x : TR} (h : VX W0 W x) (hc : Chg N W W') (hN : ∀ b, N b → b < W0.heap.size) : VX W0 W' x :=
  ⟨⟨SlR.chg h.1.1 hc fun b hb hn => by have := h.2 b hb; have := hN _ hn; omega, fun ad hb => by
    obtain ⟨cur, hcur⟩ := h.1.2 ad hb
    exact ⟨cur, (hc.block _ (Array.getElem?_eq_some_iff.1 hcur).1 fun hn => by have := h.2 ad hb; have := hN _ hn; omega).trans hcur⟩⟩, h.2⟩
/-- What All tells. -/
def allFQ (W : World) (D : FlD) (v : Value) (w' : World) : Prop := ∃ (l : List TR) (a : Option Addr) (c : Nat), v = .slice a l.length c ∧ OwnL W [] w' 25 4 trE (.slice a l.length c) l ∧ (∀ x ∈ l, VX W w' x) ∧ SrtF (l.map (·.1)) ∧ (∀ y, y ∈ l.map (·.1) ↔ y ∈ allF D)
theorem c57 (h : FlX W B g cap D) (hG : GoodF D) (hl : lenD D ≤ 1000) : RetQ Try.prog 57 #[ptr g] W (allFQ W D) := by
  intro R hR
  refine f57_calls _ W R ?_
  unfold f57_vc
  obtain ⟨r, m, h, hpl, _⟩ := h
  have hall : allF D = allF (plF m) := by rw [hpl]
  refine at_callb (At.refl W) (c69 h) fun w2 hA _ hb2 => ⟨_, rfl, brB (fun _ => ?_) (fun e => by cases e)⟩
  have h2 := h.call hb2
  refine ⟨_, rfl, _, h2.rdR nod, ?_⟩
  refine opw_range (kt := 40) (et := 111) (by kernel_rfl) hA h2.mp fun q w7 hq hA _ hb7 hi => ⟨_, rfl, ?_⟩
  have hrlt := h.rlt
  refine ⟨fun v W' => At W [] W' ∧ ∃ out rest cur, OwnL W [] W' 25 4 trE (.slice v.1.1 v.1.2.1 v.1.2.2) out ∧ Itr W noB [] W' q r keyV flV m rest cur ∧ (∀ x ∈ out, VX W W' x) ∧ (out.map (·.1) ++ allF (plF rest)).Perm (allF D) ∧ (∀ x ∈ rest, x ∈ m),
    fun _ W' => itLeft W' q r, ⟨hA, [], m, none, OwnL.nil, hi, by simp, by rw [hall]; simp, fun x hx => hx⟩, ?_⟩
  rintro a11 n12 n13 w14 ⟨hA, out, rest, cur, hout, hi, hvo, hperm, hsub⟩
  simp only at hout
  have hn12 := hout.len
  have hlen : out.length + (allF (plF rest)).length = lenD D := by
    have h1 := hperm.length_eq
    rw [List.length_append, List.length_map, ← lenD_all D] at h1
    exact h1
  have hi14 := hi
  have hob : ∀ k, (Value.slice a11 n12 n13).ownBlock = some k → k ≠ q := fun k hk e => by
    obtain ⟨cur', hcur⟩ := hout.blk hk
    obtain ⟨es, clock, since, c0, seen, _, _, _, _, h5, _⟩ := hi.obj
    subst e
    rw [hcur] at h5
    cases h5
  refine opw_next hA hi (fun hr => ⟨.inl rfl, fun _ => ?_, fun _ _ _ _ _ e => by simp at e⟩) fun x ra rb w16 hr hA hk hch hi => ⟨.inr ⟨((x.1.1, x.1.2, ()), (x.2.2.1, x.2.2.2.1, x.2.2.2.2), ()), rfl⟩, fun e => by simp at e, fun _ _ _ _ _ _ => ?_⟩
  · subst hr
    have hperm : (out.map (·.1)).Perm (allF D) := by
      have : allF (plF []) = [] := rfl
      rwa [this, List.append_nil] at hperm
    refine at_sortF hA hout (fun x hx => (hvo x hx).1) (by omega) fun l' w18 hA _ hch ho' hp hw => ⟨rfl, ?_⟩
    have hll : l'.length = out.length := hp.length_eq
    have e : n12 = l'.length := by omega
    subst e
    have hpm := (hp.map (·.1)).trans hperm
    refine hR _ _ hA.below ⟨l', a11, n13, rfl, ho', fun x hx => (hvo x (hp.mem_iff.1 hx)).chg hch fun b cur hown hc => ?_, srtF_of (List.pairwise_map.2 hw) (hpm.nodup_iff.2 hG.nodup), fun y => hpm.mem_iff⟩
    obtain ⟨cur', hc'⟩ := hout.blk hown
    exact cells_ne hc' hc (by decide) rfl
  · have hout := hout.chg hch fun k hk e => hob k hk e
    have hvo : ∀ x ∈ out, VX W w16 x := fun x hx => (hvo x hx).chg hch fun b cur' e hc => by
      obtain ⟨es, clock, since, c0, seen, _, _, _, _, h5, _⟩ := hi14.obj
      rw [e, h5] at hc
      cases hc
    have hxm : x ∈ m := hsub x (by rw [hr]; simp)
    have hxrow := h.rw x hxm
    have hxlen := hxrow.len
    have hallr : allF (plF rest) = allF (plF ra) ++ (x.2.1.map (·.1) ++ allF (plF rb)) := by
      rw [hr, plF_append]
      unfold allF
      rw [List.flatMap_append]
      rfl
    refine opw_entry hi ⟨_, _, _, _, _, rfl, ?_⟩
    refine ⟨fun v W' => At W [] W' ∧ ∃ (o2 : List TR) (k : Nat), v.2.1 = k ∧ k ≤ x.2.1.length ∧ OwnL W [] W' 25 4 trE (.slice v.1.1 v.1.2.1 v.1.2.2) o2 ∧ Itr W noB [] W' q r keyV flV m (ra ++ rb) (some x) ∧ (∀ y ∈ o2, VX W W' y) ∧ o2.map (·.1) = out.map (·.1) ++ (x.2.1.take k).map (·.1), fun v _ => ((x.2.2.2.1 : Int) - v.2.1).toNat, ⟨hA, out, 0, rfl, Nat.zero_le _, hout, hi, hvo, by simp⟩, ?_⟩
    rintro a33 n34 n35 x36 w37 ⟨hA, o2, k, hk, hkl, hout, hi, hvo, hom⟩
    simp only at hk hout
    subst hk
    have hn34 := hout.len
    have ho2l : o2.length ≤ 1000 := by
      have h1 := congrArg List.length hom
      rw [List.length_append, List.length_map, List.length_map, List.length_map, List.length_take] at h1
      have h2 := congrArg List.length hallr
      rw [List.length_append, List.length_append, List.length_map] at h2
      omega
    have hxe : x.2.2.2.1 = x.2.1.length := hxlen
    have hx1 : x.2.1.length ≤ 1000 := by
      have h2 := congrArg List.length hallr
      rw [List.length_append, List.length_append, List.length_map] at h2
      omega
    refine brD (fun hlt => ?_) (fun hge => ?_)
    · obtain ⟨y, hy⟩ : ∃ y, x.2.1[k]? = some y := ⟨_, List.getElem?_eq_getElem (by omega)⟩
      have hym := List.mem_of_getElem? hy
      have hyv := h.vs x hxm y hym
      have hyok : okF y.1 := hG.ok (x.1, x.2.1.map (·.1)) (by rw [← hpl]; exact List.mem_map.2 ⟨x, hxm, rfl⟩) y.1 (List.mem_map.2 ⟨y, hym, rfl⟩)
      have hvl := vec_len' hyok.2.2.2.2
      obtain ⟨ad, g1, el, _⟩ := elt_at (P := Try.prog) (k := .i64) (t := 111) ((hxrow.sl fun _ _ => rfl).call hA.below) hy (e := 25) (by kernel_rfl) (by kernel_rfl)
      refine ⟨ad, g1, _, _, _, _, _, _, el.agg 4 (by kernel_rfl) (by kernel_rfl) (by simp) (by simp), fun n45 hn45 w46 hev hu => ?_⟩
      have hb46 := hev.bel (by simpa using hn45)
      have hA46 : At W [n45] w46 := ⟨(hA.call hb46).chg, hu⟩
      have hsz37 := hA.size
      refine at_calll hA46 (c79 w46 (SlR.call hyv.1 hA46.below) (by omega)) (fun _ _ => rfl) fun a49 c51 w48 hA hk hb48 ho49 hs49 => ⟨_, _, _, rfl, hk, fun w52 hev2 hu2 => ?_⟩
      have ho52 := ho49.evo (by intro d hd hd2; simp at hd hd2; omega) hev2
      have hA52 := hA.evo (gs' := [n45]) (by simp; omega) hev2 hu2
      have hb52 : Bel w37 w52 := by
        have h1 : AtF w37 noB [n45] w46 := ⟨Chg.of_below hb46, hu⟩
        exact ((h1.call hb48).evo (gs' := [n45]) (by simp; omega) hev2 hu2).below
      have hout52 := (hout.more (gs' := [n45]) (by intro g h1 _; simp at h1; omega)).call hb52
      have hnew : VX W w52 (y.1, (a49, y.1.2.2.2.length, c51)) := ⟨VE.of_own ho52, fun ad' he => by
        simp only at he
        subst he
        have := ho52.mine ad'.block rfl
        simpa using this⟩
      have hvo52 : ∀ z ∈ o2, VX W w52 z := fun z hz => (hvo z hz).call hb52
      have hi52 := hi.call hb52
      rw [succ_i k (by omega)]
      refine opw_push (f := trE) (e' := 25) (bytes := 48) hA52 hout52 (y.1, (a49, y.1.2.2.2.length, c51)) (by kernel_rfl) (by kernel_rfl) rfl (fun _ _ => rfl) (tr_one _) (by omega) (by decide) fun a60 c62 w59 hA59 hout59 hgr _ => ?_
      have keep73 : ∀ (b : Nat) (cur : Array Value), (Value.slice a33 n34 n35).ownBlock = some b → w52.heap[b]? ≠ some (Obj.cells cur 73 (0, 0)) := fun b cur e hc => by
        obtain ⟨cur', hc'⟩ := hout52.blk e
        exact cells_ne hc' hc (by decide) rfl
      have vxg : ∀ {z}, VX W w52 z → VX W w59 z := fun {z} hz => ⟨⟨?_, fun ad' he => ?_⟩, hz.2⟩
      rotate_left
      · obtain ⟨h1, h2, h3, h4, h6⟩ := hz.1.1
        refine ⟨h1, h2, h3, h4, fun i u hu => ?_⟩
        obtain ⟨ad', cs, ha, hl, hcs, hr⟩ := h6 i u hu
        obtain ⟨cur', hcur⟩ := hz.1.2 ad' ha
        refine ⟨ad', cs, ha, hl, fun j v hv => ?_, hr⟩
        rw [World.cell?_of_block (w := w52) (w' := w59) (by rw [add_block, add_block]; exact hgr.block _ (Array.getElem?_eq_some_iff.1 hcur).1 fun e => keep73 _ cur' e.symm hcur)]
        exact hcs j v hv
      · obtain ⟨cur', hcur⟩ := hz.1.2 ad' he
        exact ⟨cur', (hgr.block _ (Array.getElem?_eq_some_iff.1 hcur).1 fun e => keep73 _ cur' e.symm hcur).trans hcur⟩
      have hq59 : w59.heap[q]? = w52.heap[q]? := hgr.block q hi52.lts.1 fun e => by
        obtain ⟨cur', hc'⟩ := hout52.blk e.symm
        obtain ⟨_, _, _, _, _, _, _, _, _, h5, _⟩ := hi52.obj
        rw [hc'] at h5
        cases h5
      have hr59 : w59.heap[r]? = w52.heap[r]? := hgr.block r hi52.lts.2.1 fun e => by
        obtain ⟨cur', hc'⟩ := hout52.blk e.symm
        obtain ⟨_, _, _, _, _, h5, _⟩ := hi52.obj
        rw [hc'] at h5
        cases h5
      refine ⟨⟨hA59.sub (by simp), o2 ++ [(y.1, (a49, y.1.2.2.2.length, c51))], k + 1, rfl, by omega, hout59.more (by simp), hi52.keep hq59 hr59, fun z hz => ?_, ?_⟩, by simp only; omega⟩
      · rcases List.mem_append.1 hz with hz | hz
        · exact vxg (hvo52 z hz)
        · rw [List.mem_singleton] at hz
          subst hz
          exact vxg hnew
      · rw [List.map_append, hom, List.take_add_one, hy, List.map_append, List.append_assoc]
        rfl
    · have hkx : k = x.2.1.length := by omega
      subst hkx
      rw [List.take_length] at hom
      refine ⟨⟨hA, o2, ra ++ rb, some x, hout, hi, hvo, ?_, fun y hy => hsub y (by
        rw [hr]
        rcases List.mem_append.1 hy with hy | hy
        · exact List.mem_append_left _ hy
        · exact List.mem_append_right _ (List.mem_cons_of_mem _ hy))⟩, ?_⟩
      · refine List.Perm.trans ?_ hperm
        have e1 : allF (plF (ra ++ rb)) = allF (plF ra) ++ allF (plF rb) := by
          rw [plF_append]
          unfold allF
          rw [List.flatMap_append]
        rw [hom, hallr, e1, List.append_assoc]
        refine List.Perm.append_left _ ?_
        rw [← List.append_assoc, ← List.append_assoc]
        exact List.Perm.append_right _ List.perm_append_comm
      · have h1 := hi.left
        have h2 := hi14.left
        show itLeft w37 q r < itLeft w14 q r
        rw [h1, h2, hr]
        simp
end Go.Vc.J

/- The formulas of functions, printed by a program (VcTool.lean): each is what the generator's formula comes to, by the kernel's reckoning; whoever proves one has the function's contract. -/
set_option maxRecDepth 100000
set_option maxHeartbeats 1000000
set_option linter.unusedVariables false
namespace Vct
open Go Go.Vc Go.RowKit
/-! manciple/manciplelaw26.FiltersGrow -/
def h3 : Hints := ⟨[4], [36], [25, 30, 64, 111, 15, 20, 51, 55, 69, 79, 82, 94, 97, 101], [], [], [(5, ⟨[(8, .int .i64)], []⟩)], [(12, ⟨[], []⟩), (15, ⟨[], []⟩)], [], []⟩
def f3_vc (la : Option Addr) (ln : Nat) (lc : Nat) (f_0 : Int) (f_1 : Int) (f_2 : Int) (f_3a : Option Addr) (f_3n : Nat) (f_3c : Nat) (va : Option Addr) (vn : Nat) (vc : Nat) (w : World) (R : Ending → World → Prop) : Prop :=
 ∀ (n1 : Nat),
 w.heap.size ≤ n1 →
 ∀ (w2 : World),
 Bel w w2 →
 Under [n1] w2 →
 Calls Proofs.Try.prog 12 #[Value.slice la ln lc] w2 fun (e3 : Ending) (w4 : World) =>
 ∃ (b5 : Bool),
 e3 = Ending.returned (Value.bool b5) ∧
 Keeps [n1] w2 w4 ∧
 ((!b5) = true → R (Ending.returned (Value.bool true)) w4) ∧
 ((!b5) = false →
 (decide ((↑vn : Int) > 150) = true → R (Ending.returned (Value.bool true)) w4) ∧
 (decide ((↑vn : Int) > 150) = false →
 (decide ((↑f_3n : Int) > 150) = true → R (Ending.returned (Value.bool true)) w4) ∧
 (decide ((↑f_3n : Int) > 150) = false →
 Calls Proofs.Try.prog 13 #[Value.int IntKind.i64 1000] w4 fun (e6 : Ending) (w7 : World) =>
 ∃ (a8 : Option Addr),
 e6 = Ending.returned (Value.pointer a8) ∧
 Keeps [n1] w4 w7 ∧
 ∃ (J9 : Int × Unit → World → Prop),
 ∃ (J10 : Int × Unit → World → Nat),
 J9 (0, ()) w7 ∧
 ∀ (x11 : Int) (w12 : World),
 J9 (x11, ()) w12 →
 (decide (x11 < (↑ln : Int)) = true →
 ∃ (ad13 : Addr),
 Gives Proofs.Try.prog (Instr.indexAt 22 (Value.slice la ln lc) (Value.int IntKind.i64 x11)) (Value.pointer (some ad13)) ∧
 ∃ (x14 : Int),
 ∃ (x15 : Int),
 ∃ (x16 : Int),
 ∃ (x17 : Int),
 ∃ (x18 : Int),
 ∃ (a19 : Option Addr),
 ∃ (n20 : Nat),
 ∃ (n21 : Nat),
 Reads Proofs.Try.prog [] (Instr.loadAt 31 (Value.pointer (some ad13))) w12
 (Value.agg
 #[Value.int IntKind.i64 x14, Value.int IntKind.i64 x15, Value.int IntKind.i64 x16, Value.int IntKind.i64 x17, Value.int IntKind.i64 x18,
 Value.slice a19 n20 n21]) ∧
 Calls Proofs.Try.prog 14
 #[Value.pointer a8,
 Value.agg
 #[Value.int IntKind.i64 x14, Value.int IntKind.i64 x15, Value.int IntKind.i64 x16, Value.int IntKind.i64 x17, Value.int IntKind.i64 x18,
 Value.slice a19 n20 n21]]
 w12 fun (e22 : Ending) (w23 : World) =>
 ∃ (x24 : Int),
 e22 = Ending.returned (Value.int IntKind.i64 x24) ∧
 Keeps [n1] w12 w23 ∧ J9 (IntKind.i64.wrap (x11 + 1), ()) w23 ∧ J10 (IntKind.i64.wrap (x11 + 1), ()) w23 < J10 (x11, ()) w12) ∧
 (decide (x11 < (↑ln : Int)) = false →
 Calls Proofs.Try.prog 15 #[Value.pointer a8, Value.int IntKind.i64 f_0, Value.int IntKind.i64 f_1, Value.slice va vn vc] w12 fun (e25 : Ending) (w26 : World) =>
 ∃ (b27 : Bool),
 e25 = Ending.returned (Value.bool b27) ∧
 Keeps [n1] w12 w26 ∧
 Calls Proofs.Try.prog 16 #[Value.slice va vn vc, Value.slice f_3a f_3n f_3c] w26 fun (e28 : Ending) (w29 : World) =>
 ∃ (a30 : Option Addr),
 ∃ (n31 : Nat),
 ∃ (n32 : Nat),
 e28 = Ending.returned (Value.slice a30 n31 n32) ∧
 Keeps [n1] w26 w29 ∧
 ∃ (J33 : Unit → World → Prop),
 ((b27 = true →
 Calls Proofs.Try.prog 17 #[Value.slice va vn vc] w29 fun (e34 : Ending) (w35 : World) =>
 ∃ (b36 : Bool),
 e34 = Ending.returned (Value.bool b36) ∧
 Keeps [n1] w29 w35 ∧
 (b36 = true →
 Calls Proofs.Try.prog 15 #[Value.pointer a8, Value.int IntKind.i64 f_0, Value.int IntKind.i64 f_1, Value.slice a30 n31 n32] w35
 fun (e37 : Ending) (w38 : World) =>
 ∃ (b39 : Bool),
 e37 = Ending.returned (Value.bool b39) ∧
 Keeps [n1] w35 w38 ∧ ((!b39) = true → R (Ending.returned (Value.bool false)) w38) ∧ ((!b39) = false → J33 () w38)) ∧
 (b36 = false → J33 () w35)) ∧
 (b27 = false → J33 () w29)) ∧
 ∀ (w40 : World),
 J33 () w40 →
 Calls Proofs.Try.prog 18
 #[Value.pointer a8, Value.agg #[Value.int IntKind.i64 f_0, Value.int IntKind.i64 f_1, Value.int IntKind.i64 f_2, Value.slice f_3a f_3n f_3c]] w40
 fun (e41 : Ending) (w42 : World) =>
 ∃ (x43 : Int),
 e41 = Ending.returned (Value.int IntKind.i64 x43) ∧
 Keeps [n1] w40 w42 ∧
 ∃ (J44 : Unit → World → Prop),
 ((b27 = true →
 Calls Proofs.Try.prog 15 #[Value.pointer a8, Value.int IntKind.i64 f_0, Value.int IntKind.i64 f_1, Value.slice va vn vc] w42
 fun (e45 : Ending) (w46 : World) =>
 ∃ (b47 : Bool),
 e45 = Ending.returned (Value.bool b47) ∧
 Keeps [n1] w42 w46 ∧
 ((!b47) = true → R (Ending.returned (Value.bool false)) w46) ∧
 ((!b47) = false →
 ((x43 == 0) = true →
 Calls Proofs.Try.prog 15 #[Value.pointer a8, Value.int IntKind.i64 f_0, Value.int IntKind.i64 f_1, Value.slice f_3a f_3n f_3c]
 w46 fun (e48 : Ending) (w49 : World) =>
 ∃ (b50 : Bool),
 e48 = Ending.returned (Value.bool b50) ∧
 Keeps [n1] w46 w49 ∧
 ((!b50) = true → R (Ending.returned (Value.bool false)) w49) ∧
 ((!b50) = false →
 ((x43 == 0) = true →
 Calls Proofs.Try.prog 17 #[Value.slice va vn vc] w49 fun (e51 : Ending) (w52 : World) =>
 ∃ (b53 : Bool),
 e51 = Ending.returned (Value.bool b53) ∧
 Keeps [n1] w49 w52 ∧
 (b53 = true →
 Calls Proofs.Try.prog 15
 #[Value.pointer a8, Value.int IntKind.i64 f_0, Value.int IntKind.i64 f_1, Value.slice a30 n31 n32]
 w52 fun (e54 : Ending) (w55 : World) =>
 ∃ (b56 : Bool),
 e54 = Ending.returned (Value.bool b56) ∧
 Keeps [n1] w52 w55 ∧
 ((!b56) = true → R (Ending.returned (Value.bool false)) w55) ∧
 ((!b56) = false → J44 () w55)) ∧
 (b53 = false → J44 () w52)) ∧
 ((x43 == 0) = false → J44 () w49))) ∧
 ((x43 == 0) = false →
 ((x43 == 0) = true →
 Calls Proofs.Try.prog 17 #[Value.slice va vn vc] w46 fun (e57 : Ending) (w58 : World) =>
 ∃ (b59 : Bool),
 e57 = Ending.returned (Value.bool b59) ∧
 Keeps [n1] w46 w58 ∧
 (b59 = true →
 Calls Proofs.Try.prog 15
 #[Value.pointer a8, Value.int IntKind.i64 f_0, Value.int IntKind.i64 f_1, Value.slice a30 n31 n32] w58
 fun (e60 : Ending) (w61 : World) =>
 ∃ (b62 : Bool),
 e60 = Ending.returned (Value.bool b62) ∧
 Keeps [n1] w58 w61 ∧
 ((!b62) = true → R (Ending.returned (Value.bool false)) w61) ∧ ((!b62) = false → J44 () w61)) ∧
 (b59 = false → J44 () w58)) ∧
 ((x43 == 0) = false → J44 () w46)))) ∧
 (b27 = false →
 ((x43 == 0) = true →
 Calls Proofs.Try.prog 15 #[Value.pointer a8, Value.int IntKind.i64 f_0, Value.int IntKind.i64 f_1, Value.slice f_3a f_3n f_3c] w42
 fun (e63 : Ending) (w64 : World) =>
 ∃ (b65 : Bool),
 e63 = Ending.returned (Value.bool b65) ∧
 Keeps [n1] w42 w64 ∧
 ((!b65) = true → R (Ending.returned (Value.bool false)) w64) ∧
 ((!b65) = false →
 ((x43 == 0) = true →
 Calls Proofs.Try.prog 17 #[Value.slice va vn vc] w64 fun (e66 : Ending) (w67 : World) =>
 ∃ (b68 : Bool),
 e66 = Ending.returned (Value.bool b68) ∧
 Keeps [n1] w64 w67 ∧
 (b68 = true →
 Calls Proofs.Try.prog 15
 #[Value.pointer a8, Value.int IntKind.i64 f_0, Value.int IntKind.i64 f_1, Value.slice a30 n31 n32] w67
 fun (e69 : Ending) (w70 : World) =>
 ∃ (b71 : Bool),
 e69 = Ending.returned (Value.bool b71) ∧
 Keeps [n1] w67 w70 ∧
 ((!b71) = true → R (Ending.returned (Value.bool false)) w70) ∧ ((!b71) = false → J44 () w70)) ∧
 (b68 = false → J44 () w67)) ∧
 ((x43 == 0) = false → J44 () w64))) ∧
 ((x43 == 0) = false →
 ((x43 == 0) = true →
 Calls Proofs.Try.prog 17 #[Value.slice va vn vc] w42 fun (e72 : Ending) (w73 : World) =>
 ∃ (b74 : Bool),
 e72 = Ending.returned (Value.bool b74) ∧
 Keeps [n1] w42 w73 ∧
 (b74 = true →
 Calls Proofs.Try.prog 15 #[Value.pointer a8, Value.int IntKind.i64 f_0, Value.int IntKind.i64 f_1, Value.slice a30 n31 n32]
 w73 fun (e75 : Ending) (w76 : World) =>
 ∃ (b77 : Bool),
 e75 = Ending.returned (Value.bool b77) ∧
 Keeps [n1] w73 w76 ∧ ((!b77) = true → R (Ending.returned (Value.bool false)) w76) ∧ ((!b77) = false → J44 () w76)) ∧
 (b74 = false → J44 () w73)) ∧
 ((x43 == 0) = false → J44 () w42)))) ∧
 ∀ (w78 : World),
 J44 () w78 →
 Calls Proofs.Try.prog 19 #[] w78 fun (e79 : Ending) (w80 : World) =>
 ∃ (b81 : Bool), e79 = Ending.returned (Value.bool b81) ∧ Keeps [n1] w78 w80 ∧ R (Ending.returned (Value.bool b81)) w80))))
theorem f3_eq (la : Option Addr) (ln : Nat) (lc : Nat) (f_0 : Int) (f_1 : Int) (f_2 : Int) (f_3a : Option Addr) (f_3n : Nat) (f_3c : Nat) (va : Option Addr) (vn : Nat) (vc : Nat) (w : World) (R : Ending → World → Prop) : (fnF Go.Proofs.Try.prog h3 Go.Proofs.Try.f3 [Value.slice la ln lc, Value.agg #[Value.int IntKind.i64 f_0, Value.int IntKind.i64 f_1, Value.int IntKind.i64 f_2, Value.slice f_3a f_3n f_3c], Value.slice va vn vc] w R).den = f3_vc la ln lc f_0 f_1 f_2 f_3a f_3n f_3c va vn vc w R := by kernel_rfl
theorem f3_calls (la : Option Addr) (ln : Nat) (lc : Nat) (f_0 : Int) (f_1 : Int) (f_2 : Int) (f_3a : Option Addr) (f_3n : Nat) (f_3c : Nat) (va : Option Addr) (vn : Nat) (vc : Nat) (w : World) (R : Ending → World → Prop) (h : f3_vc la ln lc f_0 f_1 f_2 f_3a f_3n f_3c va vn vc w R) : Calls Go.Proofs.Try.prog 3 (List.toArray [Value.slice la ln lc, Value.agg #[Value.int IntKind.i64 f_0, Value.int IntKind.i64 f_1, Value.int IntKind.i64 f_2, Value.slice f_3a f_3n f_3c], Value.slice va vn vc]) w R :=
 fn_sound (H := h3) (fn := Go.Proofs.Try.f3) (by kernel_rfl) (by kernel_rfl) (by kernel_rfl) ((f3_eq la ln lc f_0 f_1 f_2 f_3a f_3n f_3c va vn vc w R).mpr h)


/-! manciple/manciplelaw26.FiltersGo -/
def h10 : Hints := ⟨[14, 17], [31, 53, 92, 102, 112, 122], [20, 25, 48, 82, 129, 57, 63, 66, 73, 76, 89, 99, 109, 119, 137, 143, 149, 154, 159, 163], [(18, [0, 1, 2, 3, 4, 5, 6, 7, 8, 9, 10, 11, 12, 13, 14, 15, 16, 17, 18, 19, 20, 21, 22, 23, 24, 25, 26, 27, 28, 29, 30, 31, 32, 33, 34, 35, 36, 37, 38, 39, 40, 41, 42, 43, 44])], [], [(5, ⟨[(8, .int .i64)], []⟩), (13, ⟨[(10, .int .i64), (12, .int .i64), (13, .int .i64)], []⟩)], [(14, ⟨[(10, .int .i64), (12, .int .i64)], []⟩), (18, ⟨[(10, .int .i64)], []⟩)], [], []⟩
def f10_vc (la : Option Addr) (ln : Nat) (lc : Nat) (kind : Int) (n : Int) (w : World) (R : Ending → World → Prop) : Prop :=
 Calls Proofs.Try.prog 12 #[Value.slice la ln lc] w fun (e1 : Ending) (w2 : World) =>
 ∃ (b3 : Bool),
 e1 = Ending.returned (Value.bool b3) ∧
 ((!b3) = true → R (Ending.returned (Value.bool true)) w2) ∧
 ((!b3) = false →
 Calls Proofs.Try.prog 13 #[Value.int IntKind.i64 1000] w2 fun (e4 : Ending) (w5 : World) =>
 ∃ (a6 : Option Addr),
 e4 = Ending.returned (Value.pointer a6) ∧
 ∃ (J7 : Int × Unit → World → Prop),
 ∃ (J8 : Int × Unit → World → Nat),
 J7 (0, ()) w5 ∧
 ∀ (x9 : Int) (w10 : World),
 J7 (x9, ()) w10 →
 (decide (x9 < (↑ln : Int)) = true →
 ∃ (ad11 : Addr),
 Gives Proofs.Try.prog (Instr.indexAt 22 (Value.slice la ln lc) (Value.int IntKind.i64 x9)) (Value.pointer (some ad11)) ∧
 ∃ (x12 : Int),
 ∃ (x13 : Int),
 ∃ (x14 : Int),
 ∃ (x15 : Int),
 ∃ (x16 : Int),
 ∃ (a17 : Option Addr),
 ∃ (n18 : Nat),
 ∃ (n19 : Nat),
 Reads Proofs.Try.prog [] (Instr.loadAt 31 (Value.pointer (some ad11))) w10
 (Value.agg #[Value.int IntKind.i64 x12, Value.int IntKind.i64 x13, Value.int IntKind.i64 x14, Value.int IntKind.i64 x15, Value.int IntKind.i64 x16, Value.slice a17 n18 n19]) ∧
 Calls Proofs.Try.prog 14
 #[Value.pointer a6,
 Value.agg #[Value.int IntKind.i64 x12, Value.int IntKind.i64 x13, Value.int IntKind.i64 x14, Value.int IntKind.i64 x15, Value.int IntKind.i64 x16, Value.slice a17 n18 n19]]
 w10 fun (e20 : Ending) (w21 : World) =>
 ∃ (x22 : Int), e20 = Ending.returned (Value.int IntKind.i64 x22) ∧ J7 (IntKind.i64.wrap (x9 + 1), ()) w21 ∧ J8 (IntKind.i64.wrap (x9 + 1), ()) w21 < J8 (x9, ()) w10) ∧
 (decide (x9 < (↑ln : Int)) = false →
 Calls Proofs.Try.prog 57 #[Value.pointer a6] w10 fun (e23 : Ending) (w24 : World) =>
 ∃ (a25 : Option Addr),
 ∃ (n26 : Nat),
 ∃ (n27 : Nat),
 e23 = Ending.returned (Value.slice a25 n26 n27) ∧
 Calls Proofs.Try.prog 14
 #[Value.pointer a6,
 Value.agg
 #[Value.int IntKind.i64 (if (if kind < 3 then kind else 3) > 1 then if kind < 3 then kind else 3 else 1), Value.int IntKind.i64 n, Value.int IntKind.i64 0, Value.int IntKind.i64 0,
 Value.int IntKind.i64 0, Value.slice none 0 0]]
 w24 fun (e28 : Ending) (w29 : World) =>
 ∃ (x30 : Int),
 e28 = Ending.returned (Value.int IntKind.i64 x30) ∧
 Calls Proofs.Try.prog 57 #[Value.pointer a6] w29 fun (e31 : Ending) (w32 : World) =>
 ∃ (a33 : Option Addr),
 ∃ (n34 : Nat),
 ∃ (n35 : Nat),
 e31 = Ending.returned (Value.slice a33 n34 n35) ∧
 ∃ (J36 : Int × Int × Int × Unit → World → Prop),
 ∃ (J37 : Int × Int × Int × Unit → World → Nat),
 J36 (x30, 0, 0, ()) w32 ∧
 ∀ (x38 x39 x40 : Int) (w41 : World),
 J36 (x38, x39, x40, ()) w41 →
 (decide (x40 < (↑n26 : Int)) = true →
 ∃ (J42 : Int × Int × Unit → World → Prop),
 (∃ (ad43 : Addr),
 Gives Proofs.Try.prog (Instr.indexAt 111 (Value.slice a25 n26 n27) (Value.int IntKind.i64 x40)) (Value.pointer (some ad43)) ∧
 ∃ (x44 : Int),
 ∃ (x45 : Int),
 ∃ (x46 : Int),
 ∃ (a47 : Option Addr),
 ∃ (n48 : Nat),
 ∃ (n49 : Nat),
 Reads Proofs.Try.prog [] (Instr.loadAt 25 (Value.pointer (some ad43))) w41
 (Value.agg #[Value.int IntKind.i64 x44, Value.int IntKind.i64 x45, Value.int IntKind.i64 x46, Value.slice a47 n48 n49]) ∧
 ∀ (n50 : Nat),
 w41.heap.size ≤ n50 →
 ∃ (J51 : Int × Unit → World → Prop),
 ((decide (kind ≤ 1) = true →
 ((x44 == n) = true → ∀ (w52 : World), Evo [n50] w41 w52 → Under [n50] w52 → J42 (IntKind.i64.wrap (x38 - 1), x39, ()) w52) ∧
 ((x44 == n) = false →
 ((kind == 2) = true →
 ((x45 == n) = true → ∀ (w53 : World), Evo [n50] w41 w53 → Under [n50] w53 → J42 (IntKind.i64.wrap (x38 - 1), x39, ()) w53) ∧
 ((x45 == n) = false →
 (decide (kind ≥ 3) = true →
 (decide (x46 ≤ n) = true →
 ∀ (w54 : World), Evo [n50] w41 w54 → Under [n50] w54 → J42 (IntKind.i64.wrap (x38 - 1), x39, ()) w54) ∧
 (decide (x46 ≤ n) = false → ∀ (w55 : World), Evo [n50] w41 w55 → Under [n50] w55 → J51 (x38, ()) w55)) ∧
 (decide (kind ≥ 3) = false → ∀ (w56 : World), Evo [n50] w41 w56 → Under [n50] w56 → J51 (x38, ()) w56))) ∧
 ((kind == 2) = false →
 (decide (kind ≥ 3) = true →
 (decide (x46 ≤ n) = true →
 ∀ (w57 : World), Evo [n50] w41 w57 → Under [n50] w57 → J42 (IntKind.i64.wrap (x38 - 1), x39, ()) w57) ∧
 (decide (x46 ≤ n) = false → ∀ (w58 : World), Evo [n50] w41 w58 → Under [n50] w58 → J51 (x38, ()) w58)) ∧
 (decide (kind ≥ 3) = false → ∀ (w59 : World), Evo [n50] w41 w59 → Under [n50] w59 → J51 (x38, ()) w59)))) ∧
 (decide (kind ≤ 1) = false →
 ((kind == 2) = true →
 ((x45 == n) = true → ∀ (w60 : World), Evo [n50] w41 w60 → Under [n50] w60 → J42 (IntKind.i64.wrap (x38 - 1), x39, ()) w60) ∧
 ((x45 == n) = false →
 (decide (kind ≥ 3) = true →
 (decide (x46 ≤ n) = true →
 ∀ (w61 : World), Evo [n50] w41 w61 → Under [n50] w61 → J42 (IntKind.i64.wrap (x38 - 1), x39, ()) w61) ∧
 (decide (x46 ≤ n) = false → ∀ (w62 : World), Evo [n50] w41 w62 → Under [n50] w62 → J51 (x38, ()) w62)) ∧
 (decide (kind ≥ 3) = false → ∀ (w63 : World), Evo [n50] w41 w63 → Under [n50] w63 → J51 (x38, ()) w63))) ∧
 ((kind == 2) = false →
 (decide (kind ≥ 3) = true →
 (decide (x46 ≤ n) = true →
 ∀ (w64 : World), Evo [n50] w41 w64 → Under [n50] w64 → J42 (IntKind.i64.wrap (x38 - 1), x39, ()) w64) ∧
 (decide (x46 ≤ n) = false → ∀ (w65 : World), Evo [n50] w41 w65 → Under [n50] w65 → J51 (x38, ()) w65)) ∧
 (decide (kind ≥ 3) = false → ∀ (w66 : World), Evo [n50] w41 w66 → Under [n50] w66 → J51 (x38, ()) w66)))) ∧
 ∀ (x67 : Int) (w68 : World),
 J51 (x67, ()) w68 →
 (decide (x39 ≥ (↑n34 : Int)) = true → ∀ (w69 : World), Bel w68 w69 → Under [n50] w69 → R (Ending.returned (Value.bool false)) w69) ∧
 (decide (x39 ≥ (↑n34 : Int)) = false →
 ∃ (ad70 : Addr),
 Gives Proofs.Try.prog (Instr.indexAt 111 (Value.slice a33 n34 n35) (Value.int IntKind.i64 x39)) (Value.pointer (some ad70)) ∧
 ∃ (x71 : Int),
 Reads Proofs.Try.prog [] (Instr.loadAt 2 (Value.pointer (some ad70))) w68 (Value.int IntKind.i64 x71) ∧
 ((x71 != x44) = true → ∀ (w72 : World), Bel w68 w72 → Under [n50] w72 → R (Ending.returned (Value.bool false)) w72) ∧
 ((x71 != x44) = false →
 ∃ (ad73 : Addr),
 Gives Proofs.Try.prog (Instr.indexAt 111 (Value.slice a33 n34 n35) (Value.int IntKind.i64 x39))
 (Value.pointer (some ad73)) ∧
 ∃ (x74 : Int),
 Reads Proofs.Try.prog [] (Instr.loadAt 2 (Value.pointer (some (Addr.mk ad73.block (ad73.off + 1) none)))) w68
 (Value.int IntKind.i64 x74) ∧
 ((x74 != x45) = true →
 ∀ (w75 : World), Bel w68 w75 → Under [n50] w75 → R (Ending.returned (Value.bool false)) w75) ∧
 ((x74 != x45) = false →
 ∃ (ad76 : Addr),
 Gives Proofs.Try.prog (Instr.indexAt 111 (Value.slice a33 n34 n35) (Value.int IntKind.i64 x39))
 (Value.pointer (some ad76)) ∧
 ∃ (x77 : Int),
 Reads Proofs.Try.prog []
 (Instr.loadAt 2 (Value.pointer (some (Addr.mk ad76.block (ad76.off + 2) none)))) w68
 (Value.int IntKind.i64 x77) ∧
 ((x77 != x46) = true →
 ∀ (w78 : World), Bel w68 w78 → Under [n50] w78 → R (Ending.returned (Value.bool false)) w78) ∧
 ((x77 != x46) = false →
 ∃ (ad79 : Addr),
 Gives Proofs.Try.prog
 (Instr.indexAt 111 (Value.slice a33 n34 n35) (Value.int IntKind.i64 x39))
 (Value.pointer (some ad79)) ∧
 ∃ (a80 : Option Addr),
 ∃ (n81 : Nat),
 ∃ (n82 : Nat),
 Reads Proofs.Try.prog []
 (Instr.loadAt 23 (Value.pointer (some (Addr.mk ad79.block (ad79.off + 3) none))))
 w68 (Value.slice a80 n81 n82) ∧
 ∀ (w83 : World),
 Bel w68 w83 →
 Under [n50] w83 →
 Calls Proofs.Try.prog 58 #[Value.slice a80 n81 n82, Value.slice a47 n48 n49]
 w83 fun (e84 : Ending) (w85 : World) =>
 ∃ (b86 : Bool),
 e84 = Ending.returned (Value.bool b86) ∧
 Keeps [n50] w83 w85 ∧
 Reads Proofs.Try.prog []
 (Instr.loadAt 2
 (Value.pointer (some (Addr.mk ad76.block (ad76.off + 2) none))))
 w85 (Value.int IntKind.i64 x77) ∧
 Reads Proofs.Try.prog []
 (Instr.loadAt 2
 (Value.pointer
 (some (Addr.mk ad73.block (ad73.off + 1) none))))
 w85 (Value.int IntKind.i64 x74) ∧
 Reads Proofs.Try.prog []
 (Instr.loadAt 2 (Value.pointer (some ad70))) w85
 (Value.int IntKind.i64 x71) ∧
 ((!b86) = true → R (Ending.returned (Value.bool false)) w85) ∧
 ((!b86) = false →
 J42 (x67, IntKind.i64.wrap (x39 + 1), ()) w85)))))) ∧
 ∀ (x87 x88 : Int) (w89 : World),
 J42 (x87, x88, ()) w89 → J36 (x87, x88, IntKind.i64.wrap (x40 + 1), ()) w89 ∧ J37 (x87, x88, IntKind.i64.wrap (x40 + 1), ()) w89 < J37 (x38, x39, x40, ()) w41) ∧
 (decide (x40 < (↑n26 : Int)) = false →
 OpW Proofs.Try.prog (valueS (Instr.alloc 115 true (Value.tuple #[]))) w41 fun (v90 : Value) (w91 : World) =>
 ∃ (ad92 : Addr),
 v90 = Value.pointer (some ad92) ∧
 OpW Proofs.Try.prog (valueS (Instr.buildSlice 23 1 #[(0, Value.agg #[Value.int IntKind.i64 0, Value.int IntKind.i64 0, Value.int IntKind.i64 1])])) w91
 fun (v93 : Value) (w94 : World) =>
 ∃ (a95 : Option Addr),
 ∃ (n96 : Nat),
 ∃ (n97 : Nat),
 v93 = Value.slice a95 n96 n97 ∧
 ∀ (n98 : Nat),
 w94.heap.size ≤ n98 →
 ((x38 == 0) = true →
 ((x39 == (↑n34 : Int)) = true →
 ∀ (w99 : World),
 Evo [n98] w94 w99 →
 Under [n98] w99 →
 Calls Proofs.Try.prog 18
 #[Value.pointer none, Value.agg #[Value.int IntKind.i64 1, Value.int IntKind.i64 1, Value.int IntKind.i64 1, Value.slice a95 n96 n97]]
 w99 fun (e100 : Ending) (w101 : World) =>
 ∃ (x102 : Int),
 e100 = Ending.returned (Value.int IntKind.i64 x102) ∧
 Keeps [n98] w99 w101 ∧
 ((x102 == 40) = true →
 Calls Proofs.Try.prog 18
 #[Value.pointer (some ad92),
 Value.agg #[Value.int IntKind.i64 1, Value.int IntKind.i64 1, Value.int IntKind.i64 1, Value.slice a95 n96 n97]]
 w101 fun (e103 : Ending) (w104 : World) =>
 ∃ (x105 : Int),
 e103 = Ending.returned (Value.int IntKind.i64 x105) ∧
 Keeps [n98] w101 w104 ∧
 ((x105 == 40) = true →
 Calls Proofs.Try.prog 15
 #[Value.pointer none, Value.int IntKind.i64 1, Value.int IntKind.i64 1, Value.slice none 0 0] w104
 fun (e106 : Ending) (w107 : World) =>
 ∃ (b108 : Bool),
 e106 = Ending.returned (Value.bool b108) ∧
 Keeps [n98] w104 w107 ∧
 ((!b108) = true →
 Calls Proofs.Try.prog 59 #[Value.pointer (some ad92), Value.int IntKind.i64 1] w107
 fun (e109 : Ending) (w110 : World) =>
 ∃ (x111 : Int),
 e109 = Ending.returned (Value.int IntKind.i64 x111) ∧
 Keeps [n98] w107 w110 ∧
 ((x111 == 0) = true →
 Calls Proofs.Try.prog 19 #[] w110 fun (e112 : Ending) (w113 : World) =>
 ∃ (b114 : Bool),
 e112 = Ending.returned (Value.bool b114) ∧
 Keeps [n98] w110 w113 ∧ R (Ending.returned (Value.bool b114)) w113) ∧
 ((x111 == 0) = false → R (Ending.returned (Value.bool false)) w110)) ∧
 ((!b108) = false → R (Ending.returned (Value.bool false)) w107)) ∧
 ((x105 == 40) = false → R (Ending.returned (Value.bool false)) w104)) ∧
 ((x102 == 40) = false → R (Ending.returned (Value.bool false)) w101)) ∧
 ((x39 == (↑n34 : Int)) = false → ∀ (w115 : World), Evo [n98] w94 w115 → Under [n98] w115 → R (Ending.returned (Value.bool false)) w115)) ∧
 ((x38 == 0) = false → ∀ (w116 : World), Evo [n98] w94 w116 → Under [n98] w116 → R (Ending.returned (Value.bool false)) w116))))
theorem f10_eq (la : Option Addr) (ln : Nat) (lc : Nat) (kind : Int) (n : Int) (w : World) (R : Ending → World → Prop) : (fnF Go.Proofs.Try.prog h10 Go.Proofs.Try.f10 [Value.slice la ln lc, Value.int IntKind.i64 kind, Value.int IntKind.i64 n] w R).den = f10_vc la ln lc kind n w R := by kernel_rfl
theorem f10_calls (la : Option Addr) (ln : Nat) (lc : Nat) (kind : Int) (n : Int) (w : World) (R : Ending → World → Prop) (h : f10_vc la ln lc kind n w R) : Calls Go.Proofs.Try.prog 10 (List.toArray [Value.slice la ln lc, Value.int IntKind.i64 kind, Value.int IntKind.i64 n]) w R :=
 fn_sound (H := h10) (fn := Go.Proofs.Try.f10) (by kernel_rfl) (by kernel_rfl) (by kernel_rfl) ((f10_eq la ln lc kind n w R).mpr h)


/-! manciple/manciplelaw26.FiltersPlays -/
def h11 : Hints := ⟨[8, 10, 12, 14, 19], [33, 47], [27, 31, 42, 54, 64, 76, 89, 135, 23, 34, 106, 111, 128, 141], [(26, [0, 1, 2, 3, 4, 5, 6, 7, 8, 9, 10, 11, 12, 13, 14, 16, 17, 18, 19, 20, 21, 15, 22, 23, 24, 25, 26, 28, 29, 30, 27, 31, 32]), (28, [0, 2, 3, 1, 4, 5, 6, 7, 8])], [], [(8, ⟨[(9, .int .i64)], [(8, .cons (.int .i64) (.cons (.sl) (.nil)))]⟩)], [(23, ⟨[], [(8, .cons (.int .i64) (.cons (.sl) (.nil)))]⟩), (20, ⟨[], [(14, .cons (.int .i64) (.cons (.sl) (.nil)))]⟩)], [], []⟩
def f11_vc (cap : Int) (la : Option Addr) (ln : Nat) (lc : Nat) (va : Option Addr) (vn : Nat) (vc : Nat) (w : World) (R : Ending → World → Prop) : Prop :=
 Calls Proofs.Try.prog 12 #[Value.slice la ln lc] w fun (e1 : Ending) (w2 : World) =>
 ∃ (b3 : Bool),
 e1 = Ending.returned (Value.bool b3) ∧
 ((!b3) = true → R (Ending.returned (Value.bool true)) w2) ∧
 ((!b3) = false →
 (decide ((↑vn : Int) > 150) = true → R (Ending.returned (Value.bool true)) w2) ∧
 (decide ((↑vn : Int) > 150) = false →
 Calls Proofs.Try.prog 13 #[Value.int IntKind.i64 cap] w2 fun (e4 : Ending) (w5 : World) =>
 ∃ (a6 : Option Addr),
 e4 = Ending.returned (Value.pointer a6) ∧
 (decide (cap < 1) = true →
 ∃ (b7 : Bool),
 Gives Proofs.Try.prog (binOpS BinOp.eql 27 (Operand.tmp 32) (Operand.const (Value.pointer none)) (Value.pointer a6) (Value.pointer none)) (Value.bool b7) ∧
 (b7 = true → Calls Proofs.Try.prog 19 #[] w5 fun (e8 : Ending) (w9 : World) => ∃ (b10 : Bool), e8 = Ending.returned (Value.bool b10) ∧ R (Ending.returned (Value.bool b10)) w9) ∧
 (b7 = false → R (Ending.returned (Value.bool false)) w5)) ∧
 (decide (cap < 1) = false →
 ∀ (n11 : Nat),
 w5.heap.size ≤ n11 →
 ∃ (J12 : Int × Int × (Option Addr × Nat × Nat) × Unit → World → Prop),
 ∃ (J13 : Int × Int × (Option Addr × Nat × Nat) × Unit → World → Nat),
 (∀ (w14 : World), Evo [n11] w5 w14 → Under [n11] w14 → J12 (0, cap, (none, 0, 0), ()) w14) ∧
 ∀ (x15 x16 : Int) (a17 : Option Addr) (n18 n19 : Nat) (w20 : World),
 J12 (x15, x16, (a17, n18, n19), ()) w20 →
 (decide (x15 < (↑ln : Int)) = true →
 ∃ (ad21 : Addr),
 Gives Proofs.Try.prog (Instr.indexAt 22 (Value.slice la ln lc) (Value.int IntKind.i64 x15)) (Value.pointer (some ad21)) ∧
 ∃ (x22 : Int),
 ∃ (x23 : Int),
 ∃ (x24 : Int),
 ∃ (x25 : Int),
 ∃ (x26 : Int),
 ∃ (a27 : Option Addr),
 ∃ (n28 : Nat),
 ∃ (n29 : Nat),
 Reads Proofs.Try.prog [] (Instr.loadAt 31 (Value.pointer (some ad21))) w20
 (Value.agg
 #[Value.int IntKind.i64 x22, Value.int IntKind.i64 x23, Value.int IntKind.i64 x24, Value.int IntKind.i64 x25, Value.int IntKind.i64 x26, Value.slice a27 n28 n29]) ∧
 ∀ (n30 : Nat),
 w20.heap.size ≤ n30 →
 ∀ (w31 : World),
 Evo [n30] w20 w31 →
 Under [n11, n30] w31 →
 Calls Proofs.Try.prog 14
 #[Value.pointer a6,
 Value.agg
 #[Value.int IntKind.i64 x22, Value.int IntKind.i64 x23, Value.int IntKind.i64 x24, Value.int IntKind.i64 x25, Value.int IntKind.i64 x26,
 Value.slice a27 n28 n29]]
 w31 fun (e32 : Ending) (w33 : World) =>
 ∃ (x34 : Int),
 e32 = Ending.returned (Value.int IntKind.i64 x34) ∧
 Keeps [n11, n30] w31 w33 ∧
 ∃ (J35 : Int × (Option Addr × Nat × Nat) × Unit → World → Prop),
 (((x22 == 0) = true →
 Calls Proofs.Try.prog 60
 #[Value.agg #[Value.int IntKind.i64 x16, Value.slice a17 n18 n19],
 Value.agg #[Value.int IntKind.i64 x24, Value.int IntKind.i64 x25, Value.int IntKind.i64 x26, Value.slice a27 n28 n29]]
 w33 fun (e36 : Ending) (w37 : World) =>
 ∃ (x38 : Int),
 ∃ (a39 : Option Addr),
 ∃ (n40 : Nat),
 ∃ (n41 : Nat),
 ∃ (x42 : Int),
 e36 = Ending.returned (Value.tuple #[Value.agg #[Value.int IntKind.i64 x38, Value.slice a39 n40 n41], Value.int IntKind.i64 x42]) ∧
 Keeps [n11, n30] w33 w37 ∧
 ∀ (n43 : Nat),
 w37.heap.size ≤ n43 →
 ((x34 != x42) = true →
 ∀ (w44 : World), Evo [n43] w37 w44 → Under [n11, n30, n43] w44 → R (Ending.returned (Value.bool false)) w44) ∧
 ((x34 != x42) = false →
 ∀ (w45 : World), Evo [n11, n43] w37 w45 → Under [n11, n30, n43] w45 → J35 (x38, (a39, n40, n41), ()) w45)) ∧
 ((x22 == 0) = false →
 Calls Proofs.Try.prog 61
 #[Value.agg #[Value.int IntKind.i64 x16, Value.slice a17 n18 n19],
 Value.int IntKind.i64 (if (if x22 < 3 then x22 else 3) > 1 then if x22 < 3 then x22 else 3 else 1), Value.int IntKind.i64 x23]
 w33 fun (e46 : Ending) (w47 : World) =>
 ∃ (x48 : Int),
 ∃ (a49 : Option Addr),
 ∃ (n50 : Nat),
 ∃ (n51 : Nat),
 e46 = Ending.returned (Value.agg #[Value.int IntKind.i64 x48, Value.slice a49 n50 n51]) ∧
 Keeps [n11, n30] w33 w47 ∧
 ∀ (n52 : Nat),
 w47.heap.size ≤ n52 →
 ∃ (J53 : Int × (Option Addr × Nat × Nat) × Unit → World → Prop),
 ((decide (x22 < 0) = true →
 ∀ (w54 : World),
 Evo [n52] w47 w54 →
 Under [n11, n30, n52] w54 →
 Calls Proofs.Try.prog 61
 #[Value.agg #[Value.int IntKind.i64 x16, Value.slice a17 n18 n19], Value.int IntKind.i64 3,
 Value.int IntKind.i64 x23]
 w54 fun (e55 : Ending) (w56 : World) =>
 ∃ (x57 : Int),
 ∃ (a58 : Option Addr),
 ∃ (n59 : Nat),
 ∃ (n60 : Nat),
 e55 = Ending.returned (Value.agg #[Value.int IntKind.i64 x57, Value.slice a58 n59 n60]) ∧
 Keeps [n11, n30, n52] w54 w56 ∧
 ∀ (w61 : World), Evo [n52] w56 w61 → Under [n11, n30, n52] w61 → J53 (x57, (a58, n59, n60), ()) w61) ∧
 (decide (x22 < 0) = false →
 ∀ (w62 : World), Evo [n52] w47 w62 → Under [n11, n30, n52] w62 → J53 (x48, (a49, n50, n51), ()) w62)) ∧
 ∀ (x63 : Int) (a64 : Option Addr) (n65 n66 : Nat) (w67 : World),
 J53 (x63, (a64, n65, n66), ()) w67 →
 ((x34 != IntKind.i64.wrap ((↑n18 : Int) - (↑n65 : Int))) = true → R (Ending.returned (Value.bool false)) w67) ∧
 ((x34 != IntKind.i64.wrap ((↑n18 : Int) - (↑n65 : Int))) = false →
 ∀ (w68 : World), Evo [n11] w67 w68 → Under [n11, n30, n52] w68 → J35 (x63, (a64, n65, n66), ()) w68))) ∧
 ∀ (x69 : Int) (a70 : Option Addr) (n71 n72 : Nat) (w73 : World),
 J35 (x69, (a70, n71, n72), ()) w73 →
 Calls Proofs.Try.prog 62 #[Value.pointer a6] w73 fun (e74 : Ending) (w75 : World) =>
 ∃ (x76 : Int),
 ∃ (b77 : Bool),
 e74 = Ending.returned (Value.tuple #[Value.int IntKind.i64 x76, Value.bool b77]) ∧
 Keeps [n11, n30] w73 w75 ∧
 Calls Proofs.Try.prog 63 #[Value.agg #[Value.int IntKind.i64 x69, Value.slice a70 n71 n72]] w75 fun (e78 : Ending) (w79 : World) =>
 ∃ (x80 : Int),
 ∃ (b81 : Bool),
 e78 = Ending.returned (Value.tuple #[Value.int IntKind.i64 x80, Value.bool b81]) ∧
 Keeps [n11, n30] w75 w79 ∧
 ∀ (n82 : Nat),
 w79.heap.size ≤ n82 →
 ((!b77 == b81) = true →
 ∀ (w83 : World), Evo [n82] w79 w83 → Under [n11, n30, n82] w83 → R (Ending.returned (Value.bool false)) w83) ∧
 ((!b77 == b81) = false →
 ((x76 != x80) = true →
 ∀ (w84 : World), Evo [n82] w79 w84 → Under [n11, n30, n82] w84 → R (Ending.returned (Value.bool false)) w84) ∧
 ((x76 != x80) = false →
 ∀ (w85 : World),
 Evo [n82] w79 w85 →
 Under [n11, n30, n82] w85 →
 Calls Proofs.Try.prog 15
 #[Value.pointer a6, Value.int IntKind.i64 x24, Value.int IntKind.i64 x25, Value.slice va vn vc] w85
 fun (e86 : Ending) (w87 : World) =>
 ∃ (b88 : Bool),
 e86 = Ending.returned (Value.bool b88) ∧
 Keeps [n11, n30, n82] w85 w87 ∧
 Calls Proofs.Try.prog 64
 #[Value.agg #[Value.int IntKind.i64 x69, Value.slice a70 n71 n72], Value.int IntKind.i64 x24,
 Value.int IntKind.i64 x25, Value.slice va vn vc]
 w87 fun (e89 : Ending) (w90 : World) =>
 ∃ (b91 : Bool),
 e89 = Ending.returned (Value.bool b91) ∧
 Keeps [n11, n30, n82] w87 w90 ∧
 ((!b88 == b91) = true → R (Ending.returned (Value.bool false)) w90) ∧
 ((!b88 == b91) = false →
 Calls Proofs.Try.prog 65 #[Value.pointer a6] w90 fun (e92 : Ending) (w93 : World) =>
 ∃ (x94 : Int),
 e92 = Ending.returned (Value.int IntKind.i64 x94) ∧
 Keeps [n11, n30, n82] w90 w93 ∧
 ((x94 != (↑n71 : Int)) = true → R (Ending.returned (Value.bool false)) w93) ∧
 ((x94 != (↑n71 : Int)) = false →
 J12 (IntKind.i64.wrap (x15 + 1), x69, (a70, n71, n72), ()) w93 ∧
 J13 (IntKind.i64.wrap (x15 + 1), x69, (a70, n71, n72), ()) w93 <
 J13 (x15, x16, (a17, n18, n19), ()) w20))))) ∧
 (decide (x15 < (↑ln : Int)) = false →
 ∀ (w95 : World),
 Bel w20 w95 →
 Under [n11] w95 →
 Calls Proofs.Try.prog 57 #[Value.pointer a6] w95 fun (e96 : Ending) (w97 : World) =>
 ∃ (a98 : Option Addr),
 ∃ (n99 : Nat),
 ∃ (n100 : Nat),
 e96 = Ending.returned (Value.slice a98 n99 n100) ∧
 Keeps [n11] w95 w97 ∧
 Calls Proofs.Try.prog 66 #[Value.slice a98 n99 n100, Value.slice a17 n18 n19] w97 fun (e101 : Ending) (w102 : World) =>
 ∃ (b103 : Bool),
 e101 = Ending.returned (Value.bool b103) ∧
 Keeps [n11] w97 w102 ∧
 (b103 = true →
 Calls Proofs.Try.prog 19 #[] w102 fun (e104 : Ending) (w105 : World) =>
 ∃ (b106 : Bool), e104 = Ending.returned (Value.bool b106) ∧ Keeps [n11] w102 w105 ∧ R (Ending.returned (Value.bool b106)) w105) ∧
 (b103 = false → R (Ending.returned (Value.bool false)) w102)))))
theorem f11_eq (cap : Int) (la : Option Addr) (ln : Nat) (lc : Nat) (va : Option Addr) (vn : Nat) (vc : Nat) (w : World) (R : Ending → World → Prop) : (fnF Go.Proofs.Try.prog h11 Go.Proofs.Try.f11 [Value.int IntKind.i64 cap, Value.slice la ln lc, Value.slice va vn vc] w R).den = f11_vc cap la ln lc va vn vc w R := by kernel_rfl
theorem f11_calls (cap : Int) (la : Option Addr) (ln : Nat) (lc : Nat) (va : Option Addr) (vn : Nat) (vc : Nat) (w : World) (R : Ending → World → Prop) (h : f11_vc cap la ln lc va vn vc w R) : Calls Go.Proofs.Try.prog 11 (List.toArray [Value.int IntKind.i64 cap, Value.slice la ln lc, Value.slice va vn vc]) w R :=
 fn_sound (H := h11) (fn := Go.Proofs.Try.f11) (by kernel_rfl) (by kernel_rfl) (by kernel_rfl) ((f11_eq cap la ln lc va vn vc w R).mpr h)


/-! (manciple/mancipleref26.M).Without -/
def h61 : Hints := ⟨[3, 6, 7, 9], [23], [17, 52, 27, 33, 36, 43, 46], [], [], [(3, ⟨[(8, .int .i64)], [(7, .cons (.int .i64) (.cons (.sl) (.nil)))]⟩)], [(4, ⟨[], [(7, .cons (.int .i64) (.cons (.sl) (.nil)))]⟩), (7, ⟨[], []⟩)], [], []⟩
def f61_vc (m_0 : Int) (m_1a : Option Addr) (m_1n : Nat) (m_1c : Nat) (what : Int) (n : Int) (w : World) (R : Ending → World → Prop) : Prop :=
 ∀ (n1 : Nat),
 w.heap.size ≤ n1 →
 ∀ (n2 : Nat),
 w.heap.size ≤ n2 →
 ∀ (n3 : Nat),
 w.heap.size ≤ n3 →
 ∃ (J4 : Int × Int × (Option Addr × Nat × Nat) × Unit → World → Prop),
 ∃ (J5 : Int × Int × (Option Addr × Nat × Nat) × Unit → World → Nat),
 (∀ (w6 : World), Evo [n3] w w6 → Under [n1, n2, n3] w6 → J4 (0, m_0, (none, 0, 0), ()) w6) ∧
 ∀ (x7 x8 : Int) (a9 : Option Addr) (n10 n11 : Nat) (w12 : World),
 J4 (x7, x8, (a9, n10, n11), ()) w12 →
 (decide (x7 < (↑m_1n : Int)) = true →
 ∃ (J13 : Int × (Option Addr × Nat × Nat) × Unit → World → Prop),
 (∃ (ad14 : Addr),
 Gives Proofs.Try.prog (Instr.indexAt 111 (Value.slice m_1a m_1n m_1c) (Value.int IntKind.i64 x7)) (Value.pointer (some ad14)) ∧
 ∃ (x15 : Int),
 ∃ (x16 : Int),
 ∃ (x17 : Int),
 ∃ (a18 : Option Addr),
 ∃ (n19 : Nat),
 ∃ (n20 : Nat),
 Reads Proofs.Try.prog [] (Instr.loadAt 25 (Value.pointer (some ad14))) w12
 (Value.agg #[Value.int IntKind.i64 x15, Value.int IntKind.i64 x16, Value.int IntKind.i64 x17, Value.slice a18 n19 n20]) ∧
 ∀ (n21 : Nat),
 w12.heap.size ≤ n21 →
 ∃ (J22 : Unit → World → Prop),
 (((what == 1) = true →
 ((x15 == n) = true → ∀ (w23 : World), Evo [n21] w12 w23 → Under [n1, n2, n3, n21] w23 → J13 (x8, (a9, n10, n11), ()) w23) ∧
 ((x15 == n) = false →
 ((what == 2) = true →
 ((x16 == n) = true → ∀ (w24 : World), Evo [n21] w12 w24 → Under [n1, n2, n3, n21] w24 → J13 (x8, (a9, n10, n11), ()) w24) ∧
 ((x16 == n) = false →
 ((what == 3) = true →
 (decide (x17 ≤ n) = true → ∀ (w25 : World), Evo [n21] w12 w25 → Under [n1, n2, n3, n21] w25 → J13 (x8, (a9, n10, n11), ()) w25) ∧
 (decide (x17 ≤ n) = false → ∀ (w26 : World), Evo [n21] w12 w26 → Under [n1, n2, n3, n21] w26 → J22 () w26)) ∧
 ((what == 3) = false → ∀ (w27 : World), Evo [n21] w12 w27 → Under [n1, n2, n3, n21] w27 → J22 () w27))) ∧
 ((what == 2) = false →
 ((what == 3) = true →
 (decide (x17 ≤ n) = true → ∀ (w28 : World), Evo [n21] w12 w28 → Under [n1, n2, n3, n21] w28 → J13 (x8, (a9, n10, n11), ()) w28) ∧
 (decide (x17 ≤ n) = false → ∀ (w29 : World), Evo [n21] w12 w29 → Under [n1, n2, n3, n21] w29 → J22 () w29)) ∧
 ((what == 3) = false → ∀ (w30 : World), Evo [n21] w12 w30 → Under [n1, n2, n3, n21] w30 → J22 () w30)))) ∧
 ((what == 1) = false →
 ((what == 2) = true →
 ((x16 == n) = true → ∀ (w31 : World), Evo [n21] w12 w31 → Under [n1, n2, n3, n21] w31 → J13 (x8, (a9, n10, n11), ()) w31) ∧
 ((x16 == n) = false →
 ((what == 3) = true →
 (decide (x17 ≤ n) = true → ∀ (w32 : World), Evo [n21] w12 w32 → Under [n1, n2, n3, n21] w32 → J13 (x8, (a9, n10, n11), ()) w32) ∧
 (decide (x17 ≤ n) = false → ∀ (w33 : World), Evo [n21] w12 w33 → Under [n1, n2, n3, n21] w33 → J22 () w33)) ∧
 ((what == 3) = false → ∀ (w34 : World), Evo [n21] w12 w34 → Under [n1, n2, n3, n21] w34 → J22 () w34))) ∧
 ((what == 2) = false →
 ((what == 3) = true →
 (decide (x17 ≤ n) = true → ∀ (w35 : World), Evo [n21] w12 w35 → Under [n1, n2, n3, n21] w35 → J13 (x8, (a9, n10, n11), ()) w35) ∧
 (decide (x17 ≤ n) = false → ∀ (w36 : World), Evo [n21] w12 w36 → Under [n1, n2, n3, n21] w36 → J22 () w36)) ∧
 ((what == 3) = false → ∀ (w37 : World), Evo [n21] w12 w37 → Under [n1, n2, n3, n21] w37 → J22 () w37)))) ∧
 ∀ (w38 : World),
 J22 () w38 →
 OpW Proofs.Try.prog (valueS (Instr.buildSlice 111 1 #[(0, Value.agg #[Value.int IntKind.i64 x15, Value.int IntKind.i64 x16, Value.int IntKind.i64 x17, Value.slice a18 n19 n20])]))
 w38 fun (v39 : Value) (w40 : World) =>
 ∃ (a41 : Option Addr),
 ∃ (n42 : Nat),
 ∃ (n43 : Nat),
 v39 = Value.slice a41 n42 n43 ∧
 Keeps [n1, n2, n3, n21] w38 w40 ∧
 OpW Proofs.Try.prog (builtin Builtin.append #[111, 111] 111 #[false, false] #[Value.slice a9 n10 n11, Value.slice a41 n42 n43]) w40 fun (v44 : Value) (w45 : World) =>
 ∃ (a46 : Option Addr),
 ∃ (n47 : Nat),
 ∃ (n48 : Nat),
 v44 = Value.slice a46 n47 n48 ∧
 Keeps [n1, n2, n3, n21] w40 w45 ∧ ∀ (w49 : World), Evo [n3] w45 w49 → Under [n1, n2, n3, n21] w49 → J13 (x8, (a46, n47, n48), ()) w49) ∧
 ∀ (x50 : Int) (a51 : Option Addr) (n52 n53 : Nat) (w54 : World),
 J13 (x50, (a51, n52, n53), ()) w54 → J4 (IntKind.i64.wrap (x7 + 1), x50, (a51, n52, n53), ()) w54 ∧ J5 (IntKind.i64.wrap (x7 + 1), x50, (a51, n52, n53), ()) w54 < J5 (x7, x8, (a9, n10, n11), ()) w12) ∧
 (decide (x7 < (↑m_1n : Int)) = false → ∀ (w55 : World), Evo [n2] w12 w55 → Under [n1, n2, n3] w55 → R (Ending.returned (Value.agg #[Value.int IntKind.i64 x8, Value.slice a9 n10 n11])) w55)
theorem f61_eq (m_0 : Int) (m_1a : Option Addr) (m_1n : Nat) (m_1c : Nat) (what : Int) (n : Int) (w : World) (R : Ending → World → Prop) : (fnF Go.Proofs.Try.prog h61 Go.Proofs.Try.f61 [Value.agg #[Value.int IntKind.i64 m_0, Value.slice m_1a m_1n m_1c], Value.int IntKind.i64 what, Value.int IntKind.i64 n] w R).den = f61_vc m_0 m_1a m_1n m_1c what n w R := by kernel_rfl
theorem f61_calls (m_0 : Int) (m_1a : Option Addr) (m_1n : Nat) (m_1c : Nat) (what : Int) (n : Int) (w : World) (R : Ending → World → Prop) (h : f61_vc m_0 m_1a m_1n m_1c what n w R) : Calls Go.Proofs.Try.prog 61 (List.toArray [Value.agg #[Value.int IntKind.i64 m_0, Value.slice m_1a m_1n m_1c], Value.int IntKind.i64 what, Value.int IntKind.i64 n]) w R :=
 fn_sound (H := h61) (fn := Go.Proofs.Try.f61) (by kernel_rfl) (by kernel_rfl) (by kernel_rfl) ((f61_eq m_0 m_1a m_1n m_1c what n w R).mpr h)

end Vct

