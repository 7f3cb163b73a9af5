/- Own text of this claim: Hp3. -/
import Derived.Test.YtkbjdkkpjjlbeaaHp2
set_option maxRecDepth 20000
namespace Go.Vc.H
open Go Go.Vc Go.RowKit Go.Proofs Vcc

variable {w W W' : World} {M : Nat → Prop} {gs : List Nat} {g c r : Nat} {a : Option Addr} {l pl : List It} {st : Int}

theorem c34 (i : Nat) (x : It) (hi : l[i]? = some x) (hU : Up l i) (hP : PlOk l pl) (_hl : l.length < 1099511627776) (hs : 0 ≤ st ∧ st + l.length < 4611686018427387904) (H : HpR W (fpH g a r) [] W g a c r l pl st) :
    RetF Try.prog 34 #[hpV g, .int .i64 (i : Int)] W (fpH g a r) (fun v W' => v = .tuple #[] ∧ ∃ l' pl' st', (∃ j n : Nat, Same l l' ∧ PlOk l' pl' ∧ Dn l' j ∧ l'[j]? = some x ∧ n + lev j ≤ lev i ∧ st' = st + n) ∧ HpPost W g a r W' l' pl' st') := by
  intro R h
  refine f34_calls _ _ W R ?_
  unfold f34_vc
  have hA : AtF W (fpH g a r) [] W := AtF.refl W _
  have hil := (List.getElem?_eq_some_iff.1 hi).1
  refine ⟨fun x3 w4 => ∃ j n : Nat, x3.1 = j ∧ ∃ a' c' l' pl' st', AtF W (fpH g a r) [] w4 ∧ HpR W (fpH g a r) [] w4 g a' c' r l' pl' st' ∧ Same l l' ∧ PlOk l' pl' ∧ Up l' j ∧ l'[j]? = some x ∧ n + lev j ≤ lev i ∧ st' = st + n, fun x3 _ => x3.1.toNat, ⟨i, 0, rfl, a, c, l, pl, st, hA, H, Same.refl l, hP, hU, hi, by omega, by simp⟩, ?_⟩
  rintro x3 w4 ⟨j, n, hj, a', c', l', pl', st', hA, H, hS, hP, hU, hx, hn, rfl⟩
  simp only at hj
  subst hj
  have hjl := (List.getElem?_eq_some_iff.1 hx).1
  have hjl2 := hS.1 ▸ hjl
  have hll := lev_le i
  refine brD (fun hpos => ?_) (fun hz => ?_)
  · have hpar : IntKind.i64.wrap ((IntKind.i64.wrap ((j : Int) - 1)).tdiv 2) = (((j - 1) / 2 : Nat) : Int) := by
      rw [wrap_i64 (x := (j : Int) - 1) (by omega) (by omega), Int.tdiv_eq_ediv_of_nonneg (by omega), wrap_i64 (by omega) (by omega)]
      omega
    rw [hpar]
    obtain ⟨y, hy⟩ : ∃ y, l'[(j - 1) / 2]? = some y := ⟨_, List.getElem?_eq_getElem (by omega)⟩
    obtain ⟨ad1, g1, r1, -⟩ := H.item (ds := []) hx (by simp)
    obtain ⟨ad2, g2, r2, -⟩ := H.item (ds := []) hy (by simp)
    refine ⟨_, rfl, _, _, _, H.rdI nog, _, g1, _, _, r1, _, rfl, _, _, _, H.rdI nog, _, g2, _, _, r2, ?_⟩
    refine go_below0_too hA fun w5 hA hb => ?_
    have H := H.call hb
    refine at_callb hA (c48 x y w5) fun w6 hA hk hb => ?_
    have H := H.call hb
    refine ⟨_, rfl, H.rdI nog, H.rdI nog, brD (fun hah => ?_) (fun hnah => ?_)⟩
    · refine at_hp hA H (c49 j ((j - 1) / 2) x y hx hy (by omega) H.entry) fun a2 c2 l2 pl2 st2 w7 hA hk2 _ hΦ H2 _ => ?_
      obtain ⟨rfl, rfl, rfl⟩ := hΦ
      have hlp := lev_pos (n := j) (by omega)
      refine ⟨rfl, ⟨(j - 1) / 2, n + 1, rfl, a2, c2, _, _, _, hA, H2, hS.trans (same_swap hx hy), plok_swap hx hy (by omega) hP, up_step (by omega) hx hy hU, ?_, by omega, by omega⟩, by simp only; omega⟩
      rw [swapL_at hx hy, if_pos rfl]
    · refine leafF h hA ⟨rfl, l', pl', _, ⟨j, n, hS, hP, up_stop hU fun _ u v hu hv => ?_, hx, hn, rfl⟩, a', c', H⟩
      rw [hy] at hu; rw [hx] at hv
      cases hu; cases hv
      exact hnah
  · refine go_below0_too hA fun w5 hA hb => ?_
    exact leafF h hA ⟨rfl, l', pl', _, ⟨j, n, hS, hP, up_stop hU fun hh => by omega, hx, hn, rfl⟩, a', c', H.call hb⟩

abbrev inE (x : Int) : List Value := [.int .i64 x]
theorem c35 (i : Nat) (x : It) (hi : l[i]? = some x) (hU : Dn l i) (hP : PlOk l pl) (hl : l.length < 1099511627776) (hs : 0 ≤ st ∧ st + l.length < 4611686018427387904) (H : HpR W (fpH g a r) [] W g a c r l pl st) :
    RetF Try.prog 35 #[hpV g, .int .i64 (i : Int)] W (fpH g a r) (fun v W' => v = .tuple #[] ∧ ∃ l' pl' st', (∃ n : Nat, Same l l' ∧ PlOk l' pl' ∧ Heap l' ∧ n + lev i ≤ lev (l.length - 1) ∧ st' = st + n) ∧ HpPost W g a r W' l' pl' st') := by
  intro R h
  refine f35_calls _ _ W R ?_
  unfold f35_vc
  have hA : AtF W (fpH g a r) [] W := AtF.refl W _
  have hil := (List.getElem?_eq_some_iff.1 hi).1
  refine ⟨fun x3 w4 => ∃ j n : Nat, x3.1 = j ∧ ∃ a' c' l' pl' st', AtF W (fpH g a r) [] w4 ∧ HpR W (fpH g a r) [] w4 g a' c' r l' pl' st' ∧ Same l l' ∧ PlOk l' pl' ∧ Dn l' j ∧ l'[j]? = some x ∧ n + lev i ≤ lev j ∧ st' = st + n, fun x3 _ => (l.length - x3.1).toNat, ⟨i, 0, rfl, a, c, l, pl, st, hA, H, Same.refl l, hP, hU, hi, by omega, by simp⟩, ?_⟩
  rintro x3 w4 ⟨j, n, hj, a', c', l', pl', st', hA, H, hS, hP, hU, hx, hn, rfl⟩
  simp only at hj
  subst hj
  have hjl := (List.getElem?_eq_some_iff.1 hx).1
  have hjl2 := hS.1 ▸ hjl
  have hlj := lev_le j
  have hle : lev j ≤ lev (l.length - 1) := lev_mono _ _ (by omega)
  have e1 : IntKind.i64.wrap (IntKind.i64.wrap (2 * (j : Int)) + 1) = ((2 * j + 1 : Nat) : Int) := by
    rw [wrap_i64 (x := 2 * (j : Int)) (by omega) (by omega), wrap_i64 (by omega) (by omega)]; rfl
  have e2 : IntKind.i64.wrap (IntKind.i64.wrap (2 * (j : Int)) + 2) = ((2 * j + 2 : Nat) : Int) := by
    rw [wrap_i64 (x := 2 * (j : Int)) (by omega) (by omega), wrap_i64 (by omega) (by omega)]; rfl
  rw [e1, e2]
  refine opw_litL (e' := 3) (f := inE) (l := [((2 * j + 1 : Nat) : Int), ((2 * j + 2 : Nat) : Int)]) (size := 1) hA rfl (fun _ _ => rfl) (by decide) (by kernel_rfl) fun gk w6 _ hA _ hb6 ho => ⟨_, _, _, rfl, ?_⟩
  have H := H.call hb6
  let WI : World → Prop := fun w => AtF W (fpH g a r) [] w ∧ HpR W (fpH g a r) [] w g a' c' r l' pl' (st + n) ∧ OwnF W (fpH g a r) [] w 3 1 inE (.slice (some ⟨gk, 0, none⟩) 2 2) [((2 * j + 1 : Nat) : Int), ((2 * j + 2 : Nat) : Int)]
  have wcall : ∀ {w w' : World}, WI w → Bel w w' → WI w' := fun hw hb => ⟨hw.1.call hb, hw.2.1.call hb, hw.2.2.call hb⟩
  let BI : Nat → Nat → Prop := fun b k => k ≤ 2 ∧ ∃ z, l'[b]? = some z ∧ (∀ q, q < k → ∀ y, l'[2 * j + 1 + q]? = some y → le z y) ∧ ((b = j ∧ z = x) ∨ (0 < b ∧ (b - 1) / 2 = j ∧ ahead z x))
  refine ⟨fun v w => ∃ b k : Nat, v.1 = b ∧ v.2.1 = k ∧ WI w ∧ BI b k, fun v _ => (2 - v.2.1).toNat, ⟨j, 0, rfl, rfl, ⟨hA, H, ho⟩, by omega, x, hx, fun q hq => by omega, .inl ⟨rfl, rfl⟩⟩, ?_⟩
  rintro x12 x13 w14 ⟨b, k, hb', hk', hW, hk2, z, hz, hmin, hbz⟩
  simp only at hb' hk'
  subst hb' hk'
  have hbl := (List.getElem?_eq_some_iff.1 hz).1
  refine brD (fun hlt => ?_) (fun hge => ?_)
  · have hk1 : k < 2 := by omega
    have ek : IntKind.i64.wrap ((k : Int) + 1) = ((k + 1 : Nat) : Int) := by rw [wrap_i64 (by omega) (by omega)]; rfl
    refine ⟨fun v w => ∃ b : Nat, v.1 = b ∧ WI w ∧ BI b (k + 1), ⟨?_, ?_⟩⟩
    · have hq : [((2 * j + 1 : Nat) : Int), ((2 * j + 2 : Nat) : Int)][k]? = some ((2 * j + 1 + k : Nat) : Int) := by
        have : k = 0 ∨ k = 1 := by omega
        rcases this with rfl | rfl <;> rfl
      obtain ⟨ad, g1, el, _⟩ := elt_at (P := Try.prog) (k := .i64) (t := 95) (hW.2.2.sl (fun _ _ => rfl)) hq (e := 3) (by kernel_rfl) (by kernel_rfl)
      refine ⟨ad, g1, _, el.one (by kernel_rfl) (by simp), ?_⟩
      refine ⟨fun v w => WI w ∧ (v.1 = true → ∃ y, l'[2 * j + 1 + k]? = some y ∧ ahead y z) ∧ (v.1 = false → ∀ y, l'[2 * j + 1 + k]? = some y → ¬ ahead y z), ⟨?_, ?_⟩⟩
      · refine ⟨_, rfl, _, _, _, hW.2.1.rdI nog, brD (fun hlt2 => ?_) (fun hge2 => ?_)⟩
        · obtain ⟨y, hy⟩ : ∃ y, l'[2 * j + 1 + k]? = some y := ⟨_, List.getElem?_eq_getElem (by omega)⟩
          obtain ⟨ad1, g1, r1, -⟩ := hW.2.1.item (ds := []) hy (by simp)
          obtain ⟨ad2, g2, r2, -⟩ := hW.2.1.item (ds := []) hz (by simp)
          refine ⟨_, rfl, _, _, _, hW.2.1.rdI nog, _, g1, _, _, r1, _, rfl, _, _, _, hW.2.1.rdI nog, _, g2, _, _, r2, ?_⟩
          refine go_below0_too hW.1 fun w5 hA hb => ?_
          refine at_callb hA (c48 y z w5) fun w6 hA _ hb2 => ?_
          have hW := wcall (wcall hW hb) hb2
          refine ⟨_, rfl, hW.2.1.rdI nog, hW.2.1.rdI nog, hW.2.1.rdI nog, hW, fun e => ⟨y, hy, of_decide_eq_true e⟩, fun e y' hy' => ?_⟩
          rw [hy] at hy'
          cases hy'
          exact of_decide_eq_false e
        · intro w5 hb
          show WI w5 ∧ _
          refine ⟨wcall hW hb, (fun e => by cases e), (fun _ y hy => ?_)⟩
          have := (List.getElem?_eq_some_iff.1 hy).1
          omega
      · rintro b42 w43 ⟨hW, ht, hf⟩
        refine ⟨fun e => ?_, fun e => ?_⟩
        · obtain ⟨y, hy, hyz⟩ := ht e
          refine ⟨2 * j + 1 + k, rfl, hW, by omega, y, hy, fun q hq u hu => ?_, .inr ⟨by omega, by omega, ?_⟩⟩
          · by_cases hqk : q = k
            · subst hqk
              rw [hy] at hu
              cases hu
              exact le_refl _
            · exact le_trans (le_of_ahead hyz) (hmin q (by omega) u hu)
          · rcases hbz with ⟨_, rfl⟩ | ⟨_, _, hzx⟩
            · exact hyz
            · exact ahead_trans hyz hzx
        · refine ⟨b, rfl, hW, by omega, z, hz, fun q hq u hu => ?_, hbz⟩
          by_cases hqk : q = k
          · subst hqk
            exact hf e u hu
          · exact hmin q (by omega) u hu
    · rintro x44 w45 ⟨b', hb', hW', hB'⟩
      simp only at hb'
      subst hb'
      rw [ek]
      exact ⟨⟨b', k + 1, rfl, rfl, hW', hB'⟩, by simp only; omega⟩
  · have hk1 : k = 2 := by omega
    subst hk1
    have kids : ∀ cc, 0 < cc → (cc - 1) / 2 = j → ∀ y, l'[cc]? = some y → le z y := fun cc hc hp y hy => by
      have : cc = 2 * j + 1 + 0 ∨ cc = 2 * j + 1 + 1 := by omega
      rcases this with rfl | rfl
      · exact hmin 0 (by omega) y hy
      · exact hmin 1 (by omega) y hy
    refine brE (fun hbj => ?_) (fun hbj => ?_)
    · have hbj : b = j := by omega
      subst hbj
      rw [hx] at hz
      cases hz
      refine leafF h hW.1 ⟨rfl, l', pl', _, ⟨n, hS, hP, dn_stop hU fun cc hc hp u v hu hv => ?_, by omega, rfl⟩, a', c', hW.2.1⟩
      rw [hp, hx] at hu
      cases hu
      exact kids cc hc hp v hv
    · obtain ⟨hb0, hbp, hza⟩ := hbz.resolve_left fun e => hbj (by rw [e.1])
      have hlb := lev_pos hb0
      rw [hbp] at hlb
      have hlb2 : lev b ≤ lev (l.length - 1) := lev_mono _ _ (by have := hS.1; omega)
      have := lev_le b
      have := hS.1
      refine at_hp hW.1 hW.2.1 (c49 j b x z hx hz (by omega) hW.2.1.entry) fun a2 c2 l2 pl2 st2 w7 hA hk2 _ hΦ H2 _ => ?_
      obtain ⟨rfl, rfl, rfl⟩ := hΦ
      refine ⟨rfl, ⟨b, n + 1, rfl, a2, c2, _, _, _, hA, H2, hS.trans (same_swap hx hz), plok_swap hx hz (by omega) hP, dn_step hb0 hbp hx hz hza kids hU, ?_, by omega, by omega⟩, by simp only; omega⟩
      rw [swapL_at hx hz, if_pos rfl]

end Go.Vc.H
