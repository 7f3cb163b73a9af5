/- Own text of this claim: HpL. -/
import Derived.Test.YtkbjdkkpjjlbeaaHpW
set_option maxRecDepth 20000
namespace Go.Vc.H
open Go Go.Vc Go.RowKit Go.Proofs Vcc

variable {w W W' : World} {M : Nat → Prop} {gs : List Nat} {g c r : Nat} {a : Option Addr} {l pl s : List It} {st : Int}

abbrev Ac := Int × Int × Int
abbrev acE (x : Ac) : List Value := [.int .i64 x.1, .int .i64 x.2.1, .int .i64 x.2.2]

theorem at_does {n c2 : Nat} {a2 : Option Addr} {K : Ending → World → Prop} (x : Ac) (hA : At w [] W) (h : HpS w W g s st) (hs : RefL W s a2 n c2) (hl : s.length ≤ 900) (hst : 0 ≤ st ∧ st < 1152921504606846976)
    (hK : ∀ a' n' c' s' st' W', At w [] W' → HpS w W' g s' st' → RefL W' s' a' n' c' → s'.length ≤ s.length + 1 → st ≤ st' → st' ≤ st + 2000000 → K (.returned (.tuple #[.slice a' n' c', .bool true])) W') : Calls Try.prog 17 #[hpV g, .slice a2 n c2, .agg #[.int .i64 x.1, .int .i64 x.2.1, .int .i64 x.2.2]] W K := by
  obtain ⟨a, c, r, l, pl, H, hH, hP, hr⟩ := h.ex
  have hlen := hr.len hP
  refine at_hpQ hA H (c17 x.1 x.2.1 x.2.2 hH hP (by omega) hst hr hs H.entry) fun v a' c' l' pl' st' W' hA' _ hch hΦ H' => ?_
  obtain ⟨a3, n3, c3, s', rfl, hR, hD⟩ := hΦ
  have := hD.len
  exact hK _ _ _ s' st' W' hA' ⟨_, _, _, _, _, H', hD.heap, hD.pl, hD.rel⟩ hR (by rw [hD.rel.len hD.pl, hlen]; exact hD.len) hD.st0 hD.st1

theorem law5 {acts : List Ac} {a : Option Addr} {n c : Nat} (w : World) (hs : SlE w 3 acE acts a n c) : Ret Try.prog 5 #[.slice a n c] w (.bool true) := by
  intro R h
  refine f5_calls _ _ _ w R ?_
  unfold f5_vc
  have hA := At.refl w
  have hn := hs.len_le.1
  refine brD (fun _ => leaf h hA rfl) (fun hle => ?_)
  refine at_new hA fun g W hA _ H => ⟨_, rfl, ?_⟩
  refine ⟨fun v W => ∃ k : Nat, v.2.1 = k ∧ k ≤ n ∧ At w [] W ∧ ∃ s st, HpS w W g s st ∧ RefL W s v.1.1 v.1.2.1 v.1.2.2 ∧ s.length ≤ k ∧ 0 ≤ st ∧ st ≤ 2000000 * k, fun v _ => (n - v.2.1).toNat, ⟨0, rfl, by omega, hA, [], 0, H, RefL.nil, by simp, by omega, by omega⟩, ?_⟩
  rintro a6 n7 n8 x9 w10 ⟨k, hk, hkn, hA, s, st, H, hR, hsk, h0, h1⟩
  simp only at hk hR
  subst hk
  refine brD (fun hlt => ?_) (fun hge => at_callb hA (c12 w10) fun W hA _ _ => ⟨_, rfl, leaf h hA rfl⟩)
  obtain ⟨x, hx⟩ : ∃ x, acts[k]? = some x := ⟨_, List.getElem?_eq_getElem (by omega)⟩
  have rd : ∀ {W}, At w [] W → ∃ ad, Gives Try.prog (Instr.indexAt 30 (.slice a n c) (.int .i64 (k : Int))) (.pointer (some ad)) ∧ Elt W ad (acE x) := fun hA => by
    obtain ⟨ad, g1, el, _⟩ := elt_at (P := Try.prog) (k := .i64) (t := 30) (hs.call hA.below) hx (e := 33) (by kernel_rfl) (by kernel_rfl)
    exact ⟨ad, g1, el⟩
  obtain ⟨ad, g1, el⟩ := rd hA
  refine ⟨ad, g1, _, _, _, Elt.agg 3 el (by kernel_rfl) (by kernel_rfl) (by simp) (by simp), ?_⟩
  refine at_does x hA H hR (by omega) (by omega) fun a17 n18 c19 s' st' W hA H hR hs' h2 h3 => ⟨_, _, _, _, rfl, brB (fun e => by cases e) (fun _ => ?_)⟩
  have hn18 := hR.1.len_le.1
  refine at_peek hA H fun W hA hb H => ?_
  have hR := hR.call hb
  rw [succ_i64 k (by omega)]
  have next : ∀ {W}, At w [] W → HpS w W g s' st' → RefL W s' a17 n18 c19 → (∃ k' : Nat, ((k + 1 : Nat) : Int) = k' ∧ k' ≤ n ∧ At w [] W ∧ ∃ s st, HpS w W g s st ∧ RefL W s a17 n18 c19 ∧ s.length ≤ k' ∧ 0 ≤ st ∧ st ≤ 2000000 * k') ∧ (n - ((k + 1 : Nat) : Int)).toNat < (n - (k : Int)).toNat := fun hA H hR => ⟨⟨k + 1, rfl, by omega, hA, s', st', H, hR, by omega, by omega, by omega⟩, by omega⟩
  obtain ⟨ad2, g2, el2⟩ := rd hA
  have hat : (plc x.2.1 s' = -1 ∧ atS x.2.1 s' = .tuple #[.int .i64 0, .bool false]) ∨ ∃ (i : Nat) (t : Int), plc x.2.1 s' = i ∧ s'[i]? = some (x.2.1, t) ∧ atS x.2.1 s' = .tuple #[.int .i64 t, .bool true] := by
    rcases plc_cases x.2.1 s' with ⟨e, _⟩ | ⟨i, t, e, hi⟩
    · exact .inl ⟨e, by rw [atS, e]; rfl⟩
    · exact .inr ⟨i, t, e, hi, by rw [atS, e, if_neg (by omega)]; simp [hi]⟩
  cases s' with
  | nil =>
    refine ⟨0, 0, false, rfl, ad2, g2, _, (el2.sub (o := 1) (by decide)).one (by kernel_rfl) (by simp), ?_⟩
    refine at_at x.2.1 hA H fun W hA hb H => ⟨0, false, rfl, ?_⟩
    have hR := hR.call hb
    obtain ⟨ad3, g3, el3⟩ := rd hA
    refine ⟨ad3, g3, _, (el3.sub (o := 1) (by decide)).one (by kernel_rfl) (by simp), ?_⟩
    refine at_callb hA (c20 x.2.1 W hR.1 (by simp)) fun W hA _ hb => ⟨_, rfl, ?_⟩
    have hR := hR.call hb
    obtain ⟨a, c, r, l, pl, H0, hH, hP, hr⟩ := H.ex
    refine at_long hA ⟨_, _, _, _, _, H0.call hb, hH, hP, hr⟩ fun W hA hb H => ⟨_, rfl, ?_⟩
    have hR := hR.call hb
    simp only [List.length_nil] at hn18
    subst hn18
    refine brN (fun e => absurd rfl e) (fun _ => ⟨fun e => absurd e (by decide), fun _ => brB (fun e => by cases e) (fun _ => ⟨fun e => absurd e (by rw [show plc x.2.1 [] = -1 from rfl]; decide), fun _ => brB (fun e => by cases e) (fun _ => ⟨fun _ => brN (fun e => absurd rfl e) (fun _ => next hA H hR), fun e => by cases e⟩)⟩)⟩)
  | cons y t =>
    refine ⟨y.1, y.2, true, rfl, ad2, g2, _, (el2.sub (o := 1) (by decide)).one (by kernel_rfl) (by simp), ?_⟩
    have hy : (y :: t)[0]? = some y := rfl
    simp only [List.length_cons] at hn18 hs'
    have hgt : (((n18 : Nat) : Int) > 0) := by omega
    refine at_at x.2.1 hA H fun W hA hb H => ?_
    have hR := hR.call hb
    obtain ⟨ad3, g3, el3⟩ := rd hA
    rcases hat with ⟨e, e2⟩ | ⟨i, tt, e, hi, e2⟩
    · refine ⟨0, false, by rw [e2], ad3, g3, _, (el3.sub (o := 1) (by decide)).one (by kernel_rfl) (by simp), ?_⟩
      refine at_callb hA (c20 x.2.1 W hR.1 (by simp; omega)) fun W hA _ hb => ⟨_, rfl, ?_⟩
      have hR := hR.call hb
      obtain ⟨a, c, r, l, pl, H0, hH, hP, hr⟩ := H.ex
      refine at_long hA ⟨_, _, _, _, _, H0.call hb, hH, hP, hr⟩ fun W hA hb H => ⟨_, rfl, ?_⟩
      have hR := hR.call hb
      rw [e]
      obtain ⟨ad4, g4, el4, _⟩ := elt_at (P := Try.prog) (k := .i64) (t := 41) hR.1 hy (e := 48) (by kernel_rfl) (by kernel_rfl)
      refine brN (fun e => absurd (by rw [hn18]; rfl) e) (fun _ => ⟨fun e => absurd e (by rw [decide_eq_true hgt]; decide), fun _ => brB (fun _ => ?_) (fun e => by cases e)⟩)
      refine ⟨ad4, g4, _, el4.one (by kernel_rfl) (by simp), brN (fun e => absurd rfl e) (fun _ => ⟨ad4, g4, _, (el4.sub (o := 1) (by decide)).one (by kernel_rfl) (by simp), brN (fun e => absurd rfl e) (fun _ => ?_)⟩)⟩
      exact ⟨fun e => absurd e (by decide), fun _ => brB (fun e => by cases e) (fun _ => ⟨fun _ => brN (fun e => absurd rfl e) (fun _ => next hA H hR), fun e => by cases e⟩)⟩
    · refine ⟨tt, true, by rw [e2], ad3, g3, _, (el3.sub (o := 1) (by decide)).one (by kernel_rfl) (by simp), ?_⟩
      refine at_callb hA (c20 x.2.1 W hR.1 (by simp; omega)) fun W hA _ hb => ⟨_, rfl, ?_⟩
      have hR := hR.call hb
      obtain ⟨a, c, r, l, pl, H0, hH, hP, hr⟩ := H.ex
      refine at_long hA ⟨_, _, _, _, _, H0.call hb, hH, hP, hr⟩ fun W hA hb H => ⟨_, rfl, ?_⟩
      have hR := hR.call hb
      rw [e]
      obtain ⟨ad4, g4, el4, _⟩ := elt_at (P := Try.prog) (k := .i64) (t := 41) hR.1 hy (e := 48) (by kernel_rfl) (by kernel_rfl)
      obtain ⟨ad5, g5, el5, _⟩ := elt_at (P := Try.prog) (k := .i64) (t := 41) hR.1 hi (e := 48) (by kernel_rfl) (by kernel_rfl)
      have hge : (((i : Nat) : Int) ≥ 0) := by omega
      refine brN (fun e => absurd (by rw [hn18]; rfl) e) (fun _ => ⟨fun e => absurd e (by rw [decide_eq_true hgt]; decide), fun _ => brB (fun _ => ?_) (fun e => by cases e)⟩)
      refine ⟨ad4, g4, _, el4.one (by kernel_rfl) (by simp), brN (fun e => absurd rfl e) (fun _ => ⟨ad4, g4, _, (el4.sub (o := 1) (by decide)).one (by kernel_rfl) (by simp), brN (fun e => absurd rfl e) (fun _ => ?_)⟩)⟩
      refine ⟨fun e => absurd e (by rw [decide_eq_true hge]; decide), fun _ => brB (fun _ => ?_) (fun e => by cases e)⟩
      exact ⟨ad5, g5, _, (el5.sub (o := 1) (by decide)).one (by kernel_rfl) (by simp), brN (fun e => absurd rfl e) (fun _ => ⟨(fun e => by cases e), fun _ => next hA H hR⟩)⟩
end Go.Vc.H
