/- Own text of this claim: Rb3. -/
import Derived.Test.YtjpmpdckkdhidaaRb2
import Derived.Test.YtjpmpdckkdhidaaRa4
set_option maxRecDepth 20000
namespace Go.Vc.A
open Go Go.Vc Go.RowKit Go.Proofs Vca

abbrev fracE (x : FracT) : List Value := [.int .i64 x.1, .int .i64 x.2.1]
theorem frac_sl {w : World} {l : List FracT} {a : Option Addr} {n c : Nat} (hs : SlR w 2 (fracG.R w) l a n c) : SlE w 2 fracE l a n c ∧ ∀ x ∈ l, I64 x.1 ∧ I64 x.2.1 :=
  ⟨hs.imp fun _ _ h => (frac_R h).1, fun x hx => by obtain ⟨cs, h⟩ := hs.each hx; exact (frac_R h).2⟩

/-- The reference's way of going: the place alone. -/
noncomputable def mxAt (l : List FracT) : List FracT → Int → Int → Int
  | [], _, a => a
  | f :: r, i, a => if right f.1 f.2.1 ∧ (a < 0 ∨ ∃ b, l[a.toNat]? = some b ∧ frCmp f.1 f.2.1 b.1 b.2.1 > 0) then mxAt l r (i + 1) i else mxAt l r (i + 1) a

theorem mx_same (l : List FracT) : ∀ (r : List FracT) (k : Nat) (a b0 b1 : Int), l.drop k = r → (a < 0 ∧ b0 = 0 ∧ b1 = 0 ∧ a = -1 ∨ ∃ j : Nat, a = j ∧ ∃ b, l[j]? = some b ∧ b0 = b.1 ∧ b1 = b.2.1) →
    (mxGo r k b0 b1 a).2.2 = mxAt l r k a ∧ ((mxAt l r k a = -1 ∧ (mxGo r k b0 b1 a).1 = 0 ∧ (mxGo r k b0 b1 a).2.1 = 0) ∨ ∃ j : Nat, mxAt l r k a = j ∧ ∃ b, l[j]? = some b ∧ (mxGo r k b0 b1 a).1 = b.1 ∧ (mxGo r k b0 b1 a).2.1 = b.2.1)
  | [], k, a, b0, b1, _, h => by
    refine ⟨rfl, ?_⟩
    rcases h with ⟨h1, rfl, rfl, rfl⟩ | ⟨j, rfl, b, hb, rfl, rfl⟩
    · exact .inl ⟨rfl, rfl, rfl⟩
    · exact .inr ⟨j, rfl, b, hb, rfl, rfl⟩
  | f :: r, k, a, b0, b1, hd, h => by
    have hf : l[k]? = some f := by
      have := congrArg List.head? hd
      rw [List.head?_drop] at this
      simpa using this
    have hd' : l.drop (k + 1) = r := by
      have := drop_cons hf
      rw [hd] at this
      exact (List.cons.inj this).2.symm
    have hc : (a < 0 ∨ frCmp f.1 f.2.1 b0 b1 > 0) ↔ (a < 0 ∨ ∃ b, l[a.toNat]? = some b ∧ frCmp f.1 f.2.1 b.1 b.2.1 > 0) := by
      rcases h with ⟨h1, rfl, rfl, rfl⟩ | ⟨j, rfl, b, hb, rfl, rfl⟩
      · simp
      · have : ¬ ((j : Int) < 0) := by omega
        simp [this, hb]
    unfold mxGo mxAt
    by_cases hr : right f.1 f.2.1 ∧ (a < 0 ∨ frCmp f.1 f.2.1 b0 b1 > 0)
    · rw [if_pos hr, if_pos ⟨hr.1, hc.1 hr.2⟩]
      exact mx_same l r (k + 1) k f.1 f.2.1 hd' (.inr ⟨k, rfl, f, hf, rfl, rfl⟩)
    · rw [if_neg hr, if_neg (fun hh => hr ⟨hh.1, hc.2 hh.2⟩)]
      exact mx_same l r (k + 1) a b0 b1 hd' h

theorem c11 {l : List FracT} {a : Option Addr} {n c : Nat} (w : World) (hs : SlR w 2 (fracG.R w) l a n c) : Ret Try.prog 11 #[.slice a n c] w (.tuple #[fracV (mx l).1 (mx l).2.1, .int .i64 (mx l).2.2]) := by
  intro R h
  refine f11_calls a n c w R ?_
  unfold f11_vc
  have hA := At.refl w
  refine go_n hA fun n1 h1 => ?_
  obtain ⟨hE, hI⟩ := frac_sl hs
  have hn : n = l.length := hs.1
  have hm := hs.len_le.2
  subst hn
  have hat : ∀ {W : World} {gs : List Nat} {i : Nat} {x : FracT}, At w gs W → l[i]? = some x → ∃ ad, Gives Try.prog (Instr.indexAt 24 (.slice a l.length c) (.int .i64 (i : Int))) (.pointer (some ad)) ∧ Reads Try.prog [] (Instr.loadAt 23 (.pointer (some ad))) W (fracV x.1 x.2.1) := fun hA hx =>
    rd_agg (f := fracE) (hE.call hA.below) hx (e := 23) (by kernel_rfl) (by kernel_rfl) (by kernel_rfl) (by kernel_rfl) (fun _ h => by cases h)
  refine ⟨fun s W => At w [n1] W ∧ ∃ k : Nat, s.2.1 = k ∧ k ≤ l.length ∧ (s.1 = -1 ∨ ∃ j : Nat, s.1 = j ∧ j < l.length) ∧ mxAt l (l.drop k) k s.1 = mxAt l l 0 (-1), fun s _ => l.length - s.2.1.toNat, ?_, ?_⟩
  · exact go_below hA fun w4 hA => ⟨hA, 0, rfl, Nat.zero_le _, .inl rfl, rfl⟩
  intro at_ i W ⟨hA, k, hik, hk, ha, hg⟩
  simp only at hik ha hg
  subst hik
  refine brD (fun hlt => ?_) (fun hge => ?_)
  · obtain ⟨x, hx⟩ : ∃ x, l[k]? = some x := ⟨_, List.getElem?_eq_getElem (by omega)⟩
    have hd := drop_cons hx
    rw [hd] at hg
    rw [mxAt] at hg
    have hIx := hI x (List.mem_of_getElem? hx)
    have e1 : IntKind.i64.wrap ((k : Int) + 1) = ((k + 1 : Nat) : Int) := by rw [wrap_i64 (by omega) (by omega)]; rfl
    rw [e1]
    have step : ∀ (W' : World) (a' : Int), At w [n1] W' → (a' = -1 ∨ ∃ j : Nat, a' = j ∧ j < l.length) → mxAt l (l.drop (k + 1)) ((k : Int) + 1) a' = mxAt l l 0 (-1) → (At w [n1] W' ∧ ∃ k' : Nat, ((k + 1 : Nat) : Int) = k' ∧ k' ≤ l.length ∧ (a' = -1 ∨ ∃ j : Nat, a' = j ∧ j < l.length) ∧ mxAt l (l.drop k') k' a' = mxAt l l 0 (-1)) ∧ l.length - ((k + 1 : Nat) : Int).toNat < l.length - (k : Int).toNat := by
      intro W' a' hA h1 hg
      exact ⟨⟨hA, k + 1, rfl, by omega, h1, hg⟩, by omega⟩
    obtain ⟨ad, g1, r1⟩ := hat hA hx
    refine ⟨_, g1, _, _, r1, go_below hA fun w11 hA => ?_⟩
    refine at_call hA (c15 _ _ _) (fun _ hA hk => ⟨_, rfl, hk, ?_⟩)
    refine brD (fun hr => ?_) (fun hr => ?_)
    · refine brD (fun hneg => ?_) (fun hpos => ?_)
      · rw [if_pos ⟨hr, .inl hneg⟩] at hg
        exact step _ _ hA (.inr ⟨k, rfl, by omega⟩) hg
      · rcases ha with ha | ⟨j, rfl, hj⟩
        · omega
        · obtain ⟨y, hy⟩ : ∃ x, l[j]? = some x := ⟨_, List.getElem?_eq_getElem (by omega)⟩
          have hIy := hI y (List.mem_of_getElem? hy)
          obtain ⟨ad1, g2, r2⟩ := hat hA hx
          obtain ⟨ad2, g3, r3⟩ := hat hA hy
          refine ⟨_, g2, _, _, r2, _, g3, _, _, r3, ?_⟩
          refine at_call hA (c13 _ _ _ _ hIx.1 hIx.2 hIy.1 hIy.2 _) (fun _ hA hk => ⟨_, rfl, hk, ?_⟩)
          refine brD (fun hc => ?_) (fun hc => ?_)
          · rw [if_pos ⟨hr, .inr ⟨y, by simpa using hy, hc⟩⟩] at hg
            exact step _ _ hA (.inr ⟨k, rfl, by omega⟩) hg
          · rw [if_neg] at hg
            · exact step _ _ hA (.inr ⟨j, rfl, hj⟩) hg
            · rintro ⟨_, hh | ⟨b, hb, hh⟩⟩
              · omega
              · rw [Int.toNat_natCast, hy] at hb
                cases hb
                exact hc hh
    · rw [if_neg (fun hh => hr hh.1)] at hg
      exact step _ _ hA ha hg
  · have hke : k = l.length := by omega
    subst hke
    rw [List.drop_length] at hg
    have hg : at_ = mxAt l l 0 (-1) := hg
    have hms := mx_same l l 0 (-1) 0 0 rfl (.inl ⟨by omega, rfl, rfl, rfl⟩)
    change (mx l).2.2 = mxAt l l 0 (-1) ∧ (mxAt l l 0 (-1) = -1 ∧ (mx l).1 = 0 ∧ (mx l).2.1 = 0 ∨ ∃ j : Nat, mxAt l l 0 (-1) = j ∧ ∃ b, l[j]? = some b ∧ (mx l).1 = b.1 ∧ (mx l).2.1 = b.2.1) at hms
    rw [← hg] at hms
    refine brD (fun hneg => ?_) (fun hpos => ?_)
    · refine go_evo hA (by intro d hd; simp at hd; omega) fun w24 hA => leaf h hA ?_
      rcases hms.2 with ⟨e1, e2, e3⟩ | ⟨j, e1, _⟩
      · rw [e2, e3, hms.1, e1]
      · omega
    · rcases hms.2 with ⟨e1, e2, e3⟩ | ⟨j, e1, b, hb, e2, e3⟩
      · omega
      · subst e1
        obtain ⟨ad, g1, r1⟩ := hat hA hb
        refine ⟨_, g1, _, _, r1, ?_⟩
        refine go_evo hA (by intro d hd; simp at hd; omega) fun w24 hA => leaf h hA ?_
        rw [e2, e3, hms.1]

theorem law3 (a0 a1 b0 b1 : Int) {l : List FracT} {a : Option Addr} {n c : Nat} (ha : I64 a0 ∧ I64 a1) (hb : I64 b0 ∧ I64 b1) (w : World) (hs : SlR w 2 (fracG.R w) l a n c) : Ret Try.prog 3 #[fracV a0 a1, fracV b0 b1, .slice a n c] w (.bool true) := by
  intro R h
  refine f3_calls a0 a1 b0 b1 a n c w R ?_
  unfold f3_vc
  have hA := At.refl w
  have hold : ∀ {W : World} {gs : List Nat}, At w gs W → SlR W 2 (fracG.R W) l a n c := fun hA => hs.mono (cell_below hA.below) fun x cs hr => GT.R_below hA.below fracG x cs hr
  refine go_n hA fun n1 h1 => ?_
  refine go_n hA fun n2 h2 => ?_
  refine brD (fun _ => go_below hA fun w3 hA => leaf h hA rfl) (fun _ => ?_)
  refine go_below hA fun w4 hA => ?_
  refine at_call hA (c10 _ (hold hA)) (fun _ hA hk => ⟨_, _, _, rfl, hk, ?_⟩)
  refine go_n hA fun n3 h3 => ?_
  refine go_evo hA (by intro d hd; simp at hd; omega) fun w11 hA => ?_
  refine at_call hA (c11 _ (hold hA)) (fun _ hA hk => ⟨_, _, _, rfl, hk, ?_⟩)
  refine go_n hA fun n4 h4 => ?_
  refine go_evo hA (by intro d hd; simp at hd; omega) fun w18 hA => ?_
  refine at_call hA (c12 _ _ _ _ ha.1 ha.2 hb.1 hb.2 _) (fun _ hA hk => ⟨_, rfl, hk, ?_⟩)
  refine at_call hA (c13 _ _ _ _ ha.1 ha.2 hb.1 hb.2 _) (fun _ hA hk => ⟨_, rfl, hk, ?_⟩)
  refine ⟨fun _ => ?_, fun h => by simp at h⟩
  refine at_call hA (c14 _ _ _) (fun _ hA hk => ⟨_, rfl, hk, ?_⟩)
  refine at_call hA (c15 _ _ _) (fun _ hA hk => ⟨_, rfl, hk, ?_⟩)
  refine ⟨fun _ => ?_, fun h => by simp at h⟩
  refine ⟨fun _ => ⟨fun _ => ?_, fun h => by simp at h⟩, fun h => by simp at h⟩
  exact at_call hA (c16 _) (fun _ hA hk => ⟨_, rfl, hk, leaf h hA rfl⟩)
end Go.Vc.A
