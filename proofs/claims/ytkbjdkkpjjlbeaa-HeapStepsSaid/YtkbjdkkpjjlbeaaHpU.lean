/- Own text of this claim: HpU. -/
import Derived.Test.YtkbjdkkpjjlbeaaHpL
import Derived.Test.YtkbjdkkpjjlbeaaHpT
import Derived.Test.YtkbjdkkpjjlbeaaFc3
set_option maxRecDepth 20000
namespace Go.Vc.H
open Go Go.Vc Go.RowKit Go.Proofs Vcc

variable {w W W' : World} {M : Nat → Prop} {gs : List Nat} {g c r : Nat} {a : Option Addr} {l pl s : List It} {st : Int}

abbrev i1E (x : Int) : List Value := [.int .i64 x]
theorem law3 {keys times : List Int} {a b : Option Addr} {n c n2 c2 : Nat} (w : World) (hs : SlE w 1 i1E keys a n c) (ht : SlE w 1 i1E times b n2 c2) : Ret Try.prog 3 #[.slice a n c, .slice b n2 c2] w (.bool true) := by
  intro R h
  refine f3_calls _ _ _ _ _ _ w R ?_
  unfold f3_vc
  have hn := hs.len_le.1
  have hn2 := ht.len_le.1
  refine brD (fun _ => leaf h (At.refl w) rfl) (fun hle => brD (fun _ => leaf h (At.refl w) rfl) (fun hle2 => ?_))
  let Kf : Nat → Int := fun i => (keys[i]?).getD 0
  let Tf : Nat → Int := fun i => (times[i]?).getD 0
  have rdK : ∀ {W : World} {k : Nat}, At w [] W → k < n → ∃ ad, Gives Try.prog (Instr.indexAt 22 (.slice a n c) (.int .i64 (k : Int))) (.pointer (some ad)) ∧ Reads Try.prog [] (Instr.loadAt 2 (.pointer (some ad))) W (.int .i64 (Kf k)) := fun {W k} hA hk => by
    have hx : keys[k]? = some (Kf k) := by
      obtain ⟨y, hy⟩ : ∃ y, keys[k]? = some y := ⟨_, List.getElem?_eq_getElem (by omega)⟩
      show keys[k]? = some ((keys[k]?).getD 0)
      rw [hy]; rfl
    obtain ⟨ad, g1, el, _⟩ := elt_at (P := Try.prog) (k := .i64) (t := 22) (hs.call hA.below) hx (e := 2) (by kernel_rfl) (by kernel_rfl)
    exact ⟨ad, g1, el.one (by kernel_rfl) (by simp)⟩
  have rdT : ∀ {W : World} {k : Nat}, At w [] W → k < n → ∃ ad, Gives Try.prog (Instr.indexAt 22 (.slice b n2 c2) (.int .i64 (k : Int))) (.pointer (some ad)) ∧ Reads Try.prog [] (Instr.loadAt 2 (.pointer (some ad))) W (.int .i64 (Tf k)) := fun {W k} hA hk => by
    have hx : times[k]? = some (Tf k) := by
      obtain ⟨y, hy⟩ : ∃ y, times[k]? = some y := ⟨_, List.getElem?_eq_getElem (by omega)⟩
      show times[k]? = some ((times[k]?).getD 0)
      rw [hy]; rfl
    obtain ⟨ad, g1, el, _⟩ := elt_at (P := Try.prog) (k := .i64) (t := 22) (ht.call hA.below) hx (e := 2) (by kernel_rfl) (by kernel_rfl)
    exact ⟨ad, g1, el.one (by kernel_rfl) (by simp)⟩
  have hbl : ∀ i, (bl Kf Tf i).length ≤ i := fun i => by rw [len_bl]; exact ct_le _ _
  refine at_new (At.refl w) fun g W hA _ H => ⟨_, rfl, ?_⟩
  refine ⟨fun v W => ∃ k : Nat, v.1 = k ∧ k ≤ n ∧ At w [] W ∧ ∃ st, HpS w W g (bl Kf Tf k) st ∧ 0 ≤ st ∧ st ≤ 2000000 * k, fun v _ => (n - v.1).toNat, ⟨0, rfl, by omega, hA, 0, H, by omega, by omega⟩, ?_⟩
  rintro x6 w7 ⟨k, hk, hkn, hA, st, H, h0, h1⟩
  simp only at hk
  subst hk
  have hb1 := hbl k
  refine brD (fun hlt => ?_) (fun hge => ?_)
  · obtain ⟨ad, g1, r1⟩ := rdK hA (k := k) (by omega)
    obtain ⟨ad2, g2, r2⟩ := rdT hA (k := k) (by omega)
    refine ⟨ad, g1, _, r1, ad2, g2, _, r2, go_below0_too hA fun w12 hA hb => ?_⟩
    obtain ⟨a', c', r, l, pl, H0, hH, hP, hr⟩ := H.ex
    have H : HpS w w12 g (bl Kf Tf k) st := ⟨_, _, _, _, _, H0.call hb, hH, hP, hr⟩
    refine at_put (Kf k) (Tf k) hA H (by omega) (by omega) fun st' W hA _ H h2 h3 => ⟨_, rfl, ?_⟩
    rw [succ_i64 k (by omega)]
    have hb2 := hbl (k + 1)
    have e : putR (Kf k, Tf k) (bl Kf Tf k) = bl Kf Tf (k + 1) := rfl
    rw [e] at H h3
    have hl := lev_le ((bl Kf Tf (k + 1)).length - 1)
    exact ⟨⟨k + 1, rfl, by omega, hA, st', H, by omega, by omega⟩, by simp only; omega⟩
  · have hkn : k = n := by omega
    subst hkn
    generalize hS : bl Kf Tf k = S at H hb1
    have hsrt : Srt S := by rw [← hS]; exact srt_bl k
    have hmem : ∀ x, x ∈ S → fv Kf Tf x.1 k = some x.2 := fun x hx => mem_bl.1 (by rw [hS]; exact hx)
    have hct : S.length = ct Kf k := by rw [← hS]; exact len_bl k
    have hpk : ∀ l : List It, ∃ x y b, peekV l = .tuple #[.int .i64 x, .int .i64 y, .bool b] := fun l => by
      unfold peekV
      split
      · exact ⟨_, _, _, rfl⟩
      · exact ⟨_, _, _, rfl⟩
    refine at_pop hA H (by omega) (by omega) fun st1 W hA _ H h2 h3 => ?_
    obtain ⟨x18, x19, b20, e0⟩ := hpk S
    have hll := lev_le (S.length - 1)
    refine ⟨x18, x19, b20, by rw [e0], ?_⟩
    refine ⟨fun v W => ∃ j : Nat, v.2.2.1 = j ∧ j ≤ S.length ∧ At w [] W ∧ peekV (S.drop j) = .tuple #[.int .i64 v.2.2.2.1, .int .i64 v.2.2.2.2.1, .bool v.2.2.2.2.2.1] ∧ (0 < j → S[j - 1]? = some (v.1, v.2.1)) ∧ ∃ st, HpS w W g (S.drop j).tail st ∧ 0 ≤ st ∧ st ≤ 2000000 * (k + j + 1), fun v _ => (S.length - v.2.2.1).toNat, ⟨0, rfl, by omega, hA, e0, (fun e => by omega), st1, H, by omega, by omega⟩, ?_⟩
    rintro x23 x24 x25 x26 x27 b28 w29 ⟨j, hj, hjn, hA, epk, hwas, st2, H, h4, h5⟩
    simp only at hj epk hwas
    subst hj
    cases hx : S[j]? with
    | none =>
      have hjl : j = S.length := by have := List.getElem?_eq_none_iff.1 hx; omega
      have ed : S.drop j = [] := by rw [hjl]; exact List.drop_length
      rw [ed] at epk
      cases epk
      refine brB (fun e => by cases e) (fun _ => ?_)
      refine ⟨fun v W => ∃ i : Nat, v.2.1 = i ∧ i ≤ k ∧ At w [] W ∧ v.1 = ct Kf i, fun v _ => (k - v.2.1).toNat, ⟨0, rfl, by omega, hA, rfl⟩, ?_⟩
      rintro x52 x53 w54 ⟨i, hi, hik, hA, hc⟩
      simp only at hi hc
      subst hi hc
      refine brD (fun hlt => ?_) (fun hge => ?_)
      · refine ⟨fun v W => ∃ q : Nat, v.2.1 = q ∧ q ≤ i ∧ At w [] W ∧ (v.1 = true ↔ ∀ p, p < q → Kf p ≠ Kf i), fun v _ => (i - v.2.1).toNat, ⟨0, rfl, by omega, hA, fun _ p hp => by omega, fun _ => rfl⟩, ?_⟩
        rintro b57 x58 w59 ⟨q, hq, hqi, hA, hb⟩
        simp only at hq hb
        subst hq
        refine brD (fun hlt2 => ?_) (fun hge2 => ?_)
        · rw [succ_i64 q (by omega)]
          refine brB (fun hbt => ?_) (fun hbf => ?_)
          · obtain ⟨ad, g1, r1⟩ := rdK hA (k := q) (by omega)
            obtain ⟨ad2, g2, r2⟩ := rdK hA (k := i) (by omega)
            refine ⟨ad, g1, _, r1, ad2, g2, _, r2, go_below0_too hA fun w64 hA _ => ⟨⟨q + 1, rfl, by omega, hA, ?_⟩, by simp only; omega⟩⟩
            have hall := hb.1 hbt
            simp only [bne_iff_ne]
            constructor
            · intro hne p hp
              by_cases hpq : p = q
              · subst hpq; exact hne
              · exact hall p (by omega)
            · intro hh; exact hh q (by omega)
          · refine go_below0_too hA fun w64 hA _ => ⟨⟨q + 1, rfl, by omega, hA, (fun e => by cases e), fun hh => ?_⟩, by simp only; omega⟩
            have := hb.2 fun p hp => hh p (by omega)
            rw [hbf] at this
            cases this
        · have hqi : q = i := by omega
          subst hqi
          rw [succ_i64 q (by omega)]
          have hcl := ct_le Kf q
          refine brB (fun hbt => ?_) (fun hbf => ?_)
          · rw [succ_i64 (ct Kf q) (by omega)]
            refine ⟨⟨q + 1, rfl, by omega, hA, ?_⟩, by simp only; omega⟩
            rw [ct, if_pos (hb.1 hbt)]
          · refine ⟨⟨q + 1, rfl, by omega, hA, ?_⟩, by simp only; omega⟩
            rw [ct, if_neg (fun hh => by have := hb.2 hh; rw [hbf] at this; cases this)]
            rfl
      · have hik : i = k := by omega
        subst hik
        refine brE (fun _ => at_callb hA (c12 w54) fun W hA _ _ => ⟨_, rfl, leaf h hA rfl⟩) (fun hne => absurd ?_ hne)
        rw [← hct, hjl]
    | some x =>
      have hjl := (List.getElem?_eq_some_iff.1 hx).1
      have ed : S.drop j = x :: S.drop (j + 1) := drop_next hx
      rw [ed] at epk H
      cases epk
      simp only [List.tail_cons] at H
      refine brB (fun _ => ?_) (fun e => by cases e)
      have hfv := hmem x (List.mem_of_getElem? hx)
      refine ⟨fun v W => v.1 = false ∧ At w [] W ∧ HpS w W g (S.drop (j + 1)) st2, ⟨?_, ?_⟩⟩
      · refine brD (fun hpos => ?_) (fun _ => ⟨rfl, hA, H⟩)
        have hp := hwas (by omega)
        have hah : ahead (x23, x24) x := (List.pairwise_iff_getElem.1 hsrt) (j - 1) j (by omega) hjl (by omega) |> fun hh => by
          rw [(List.getElem?_eq_some_iff.1 hp).2, (List.getElem?_eq_some_iff.1 hx).2] at hh
          exact hh
        unfold ahead at hah
        simp only at hah
        refine brD (fun hlt => by omega) (fun _ => brE (fun he => ⟨?_, hA, H⟩) (fun _ => ⟨rfl, hA, H⟩))
        exact decide_eq_false (by omega)
      · rintro b31 w32 ⟨hb, hA, H⟩
        simp only at hb
        subst hb
        refine brB (fun e => by cases e) (fun _ => ?_)
        refine ⟨fun v W => ∃ i : Nat, v.2.1 = i ∧ i ≤ k ∧ At w [] W ∧ HpS w W g (S.drop (j + 1)) st2 ∧ v.1 = (fv Kf Tf x.1 i == some x.2), fun v _ => (k - v.2.1).toNat, ⟨0, rfl, by omega, hA, H, rfl⟩, ?_⟩
        rintro b35 x36 w37 ⟨i, hi, hik, hA, H, hb⟩
        simp only at hi hb
        subst hi
        refine brD (fun hlt => ?_) (fun hge => ?_)
        · rw [succ_i64 i (by omega)]
          obtain ⟨ad, g1, r1⟩ := rdK hA (k := i) (by omega)
          refine ⟨ad, g1, _, r1, brE (fun he => ?_) (fun hne => ?_)⟩
          · obtain ⟨ad2, g2, r2⟩ := rdT hA (k := i) (by omega)
            refine ⟨ad2, g2, _, r2, ⟨i + 1, rfl, by omega, hA, H, ?_⟩, by simp only; omega⟩
            rw [fv, if_pos he]
            rfl
          · refine ⟨⟨i + 1, rfl, by omega, hA, H, ?_⟩, by simp only; omega⟩
            rw [fv, if_neg hne]
            exact hb
        · have hik : i = k := by omega
          subst hik
          rw [hfv] at hb
          have hb : b35 = true := by simpa using hb
          subst hb
          refine ⟨fun v W => v.1 = false ∧ At w [] W ∧ HpS w W g (S.drop (j + 1)) st2, ⟨⟨(fun e => by cases e), fun _ => ⟨decide_eq_false (by omega), hA, H⟩⟩, ?_⟩⟩
          rintro b43 w44 ⟨hb, hA, H⟩
          simp only at hb
          subst hb
          refine brB (fun e => by cases e) (fun _ => ?_)
          have hdl : (S.drop (j + 1)).length ≤ S.length := by rw [List.length_drop]; omega
          refine at_pop hA H (by omega) (by omega) fun st3 W hA _ H h6 h7 => ?_
          obtain ⟨x47, x48, b49, e1⟩ := hpk (S.drop (j + 1))
          have hll2 := lev_le ((S.drop (j + 1)).length - 1)
          rw [succ_i64 j (by omega)]
          refine ⟨x47, x48, b49, by rw [e1], ⟨j + 1, rfl, by omega, hA, e1, (fun _ => by rw [Nat.add_sub_cancel]; exact hx), st3, H, by omega, by omega⟩, by simp only; omega⟩
end Go.Vc.H
