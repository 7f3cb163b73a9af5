/- Own text of this claim: Ra3. -/
import Derived.Test.YtjpmpdckkdhidaaRa2
import Derived.Test.YtjpmpdckkdhidaaVcRow
set_option maxRecDepth 20000
namespace Go.Vc.A
open Go Go.Vc Go.RowKit Go.Proofs Vca

theorem i64_bounds {x : Int} (h1 : IntKind.i64.min ≤ x) (h2 : x ≤ IntKind.i64.max) : I64 x := by
  have e1 : IntKind.i64.min = -9223372036854775808 := by decide
  have e2 : IntKind.i64.max = 9223372036854775807 := by decide
  omega

abbrev FracT := Int × Int × Unit
abbrev fracG : GT := .st (.pair (.int .i64) (.pair (.int .i64) .unit))
theorem frac_R {w : World} {x : FracT} {cs : List Value} (h : fracG.R w x cs) : cs = [.int .i64 x.1, .int .i64 x.2.1] ∧ I64 x.1 ∧ I64 x.2.1 := by
  obtain ⟨c1, c2, rfl, ⟨rfl, h1, h2⟩, c3, c4, rfl, ⟨rfl, h3, h4⟩, rfl⟩ := h
  exact ⟨rfl, i64_bounds h1 h2, i64_bounds h3 h4⟩

theorem frac_V {w : World} {x : FracT} {v : Value} (h : GT.V w fracG x v) : v = fracV x.1 x.2.1 ∧ I64 x.1 ∧ I64 x.2.1 := by
  obtain ⟨cs, rfl, hR⟩ := h
  obtain ⟨rfl, h1, h2⟩ := frac_R (w := w) hR
  exact ⟨rfl, h1, h2⟩
theorem i64_V {w : World} {x : Int} {v : Value} (h : GT.V w (.int .i64) x v) : v = .int .i64 x ∧ I64 x := by
  obtain ⟨h, h1, h2⟩ := h
  simp at h
  exact ⟨h, i64_bounds h1 h2⟩

noncomputable def mxGo : List FracT → Int → Int → Int → Int → Int × Int × Int
  | [], _, b0, b1, a => (b0, b1, a)
  | f :: r, i, b0, b1, a => if right f.1 f.2.1 ∧ (a < 0 ∨ frCmp f.1 f.2.1 b0 b1 > 0) then mxGo r (i + 1) f.1 f.2.1 i else mxGo r (i + 1) b0 b1 a
noncomputable def mx (l : List FracT) : Int × Int × Int := mxGo l 0 0 0 (-1)

theorem c10 {l : List FracT} {a : Option Addr} {n c : Nat} (w : World) (hs : SlR w 2 (fracG.R w) l a n c) : Ret Try.prog 10 #[.slice a n c] w (.tuple #[fracV (mx l).1 (mx l).2.1, .int .i64 (mx l).2.2]) := by
  intro R h
  refine f10_calls a n c w R ?_
  unfold f10_vc
  have hA := At.refl w
  refine go_n hA fun n1 h1 => ?_
  refine go_n hA fun n2 h2 => ?_
  have hn : n = l.length := hs.1
  have hm : l.length ≤ 9223372036854775807 := hn ▸ Nat.le_trans hs.2.1 hs.2.2.1
  refine ⟨fun s W => At w [n1, n2] W ∧ ∃ k : Nat, s.2.1 = k ∧ k ≤ l.length ∧ mxGo (l.drop k) k s.2.2.1 s.2.2.2.1 s.1 = mx l ∧ I64 s.2.2.1 ∧ I64 s.2.2.2.1, fun s _ => n - s.2.1.toNat, ?_, ?_⟩
  · refine go_evo hA (by simp [*]) fun w2 hA => ⟨hA, 0, rfl, Nat.zero_le _, rfl, ?_, ?_⟩ <;> exact ⟨by decide, by decide⟩
  intro at_ i b0 b1 W ⟨hA, k, hik, hk, hg, hb0, hb1⟩
  simp only at hik hg hb0 hb1
  subst hik
  refine brD (fun hlt => ?_) (fun hge => ?_)
  · have hkl : k < l.length := by omega
    obtain ⟨⟨x0, x1, xu⟩, hx⟩ : ∃ x, l[k]? = some x := ⟨_, List.getElem?_eq_getElem hkl⟩
    have hd := drop_cons hx
    obtain ⟨ad, cs, rfl, hcl, hcs, hR⟩ := hs.at_ hx
    obtain ⟨rfl, hI0, hI1⟩ := frac_R hR
    have e1 : IntKind.i64.wrap ((k : Int) + 1) = ((k + 1 : Nat) : Int) := by rw [wrap_i64 (by omega) (by omega)]; rfl
    rw [hd] at hg
    unfold mxGo at hg
    refine ⟨_, gives_index (e := 23) (n := 2) (by kernel_rfl) (by kernel_rfl) (by omega), ?_⟩
    refine ⟨_, _, reads_agg (cs := [.int .i64 x0, .int .i64 x1]) (by kernel_rfl) (by kernel_rfl) (fun _ h => by cases h) (fun j v hv => cell_below (hA.below) _ _ (hcs j v hv)), ?_⟩
    refine go_n hA fun n3 h3 => ?_
    refine go_evo hA (by simp [*]) fun w15 hA => ?_
    refine at_call hA (c14 _ _ _) (fun _ hA hk => ⟨_, rfl, hk, ?_⟩)
    have step : ∀ (W' : World) (a' b0' b1' : Int), At w [n1, n2, n3] W' → I64 b0' → I64 b1' → mxGo (l.drop (k + 1)) ((k : Int) + 1) b0' b1' a' = mx l → (At w [n1, n2] W' ∧ ∃ k' : Nat, IntKind.i64.wrap ((k : Int) + 1) = k' ∧ k' ≤ l.length ∧ mxGo (l.drop k') k' b0' b1' a' = mx l ∧ I64 b0' ∧ I64 b1') ∧ n - (IntKind.i64.wrap ((k : Int) + 1)).toNat < n - (k : Int).toNat := by
      intro W' a' b0' b1' hA h1 h2 hg
      refine ⟨⟨⟨hA.below, fun g hg => hA.under g (by simp at hg ⊢; omega)⟩, k + 1, e1, hkl, hg, h1, h2⟩, ?_⟩
      rw [e1]
      omega
    refine brD (fun hr => ?_) (fun hr => ?_)
    · refine brD (fun ha => ?_) (fun ha => ?_)
      · rw [if_pos ⟨hr, .inl ha⟩] at hg
        exact go_evo hA (by simp [*]) fun w2 hA => step w2 _ _ _ hA hI0 hI1 hg
      · refine at_call hA (c12 _ _ _ _ hI0 hI1 hb0 hb1 _) (fun _ hA hk => ⟨_, rfl, hk, ?_⟩)
        refine brD (fun hc => ?_) (fun hc => ?_)
        · rw [if_pos ⟨hr, .inr hc⟩] at hg
          exact go_evo hA (by simp [*]) fun w2 hA => step w2 _ _ _ hA hI0 hI1 hg
        · rw [if_neg (fun hh => hh.2.elim ha hc)] at hg
          exact step _ _ _ _ hA hb0 hb1 hg
    · rw [if_neg (fun hh => hr hh.1)] at hg
      exact step _ _ _ _ hA hb0 hb1 hg
  · have hke : k = l.length := by omega
    subst hke
    rw [List.drop_length] at hg
    refine go_evo hA (by simp [*]) fun w2 hA => leaf h hA ?_
    rw [← hg]
    rfl
end Go.Vc.A
