/- Own text of this claim: Hp6. -/
import Derived.Test.YtkbjdkkpjjlbeaaHp5
set_option maxRecDepth 20000
namespace Go.Vc.H
open Go Go.Vc Go.RowKit Go.Proofs Vcc

variable {w W W' : World} {M : Nat → Prop} {gs : List Nat}

theorem succ_i64 (k : Nat) (h : k < 4611686018427387904) : IntKind.i64.wrap ((k : Int) + 1) = ((k + 1 : Nat) : Int) := by rw [wrap_i64 (by omega) (by omega)]; rfl

/-- Where a key stands in a list; -1: nowhere. -/
def plc (key : Int) : List It → Int
  | [] => -1
  | x :: t => if x.1 = key then 0 else if plc key t < 0 then -1 else plc key t + 1
theorem plc_at {key : Int} : ∀ (l : List It) (k : Nat) (x : It), l[k]? = some x → x.1 = key → (∀ q, q < k → ∀ y, l[q]? = some y → y.1 ≠ key) → plc key l = k := by
  intro l
  induction l with
  | nil => intro k x hx; simp at hx
  | cons a t ih =>
    intro k x hx he hmin
    cases k with
    | zero => simp at hx; subst hx; simp [plc, he]
    | succ k =>
      have := ih k x (by simpa using hx) he (fun q hq y hy => hmin (q + 1) (by omega) y (by simpa using hy))
      rw [plc, if_neg (hmin 0 (by omega) a rfl), this, if_neg (by omega)]
      rfl
theorem plc_none {key : Int} : ∀ (l : List It), (∀ y ∈ l, y.1 ≠ key) → plc key l = -1 := by
  intro l
  induction l with
  | nil => intro _; rfl
  | cons a t ih => intro h; rw [plc, if_neg (h a (by simp)), ih (fun y hy => h y (by simp [hy]))]; rfl

theorem c20 {l : List It} {a : Option Addr} {n c : Nat} (key : Int) (w : World) (hs : SlE w 2 itE l a n c) (hl : l.length < 1099511627776) : Ret Try.prog 20 #[.slice a n c, .int .i64 key] w (.int .i64 (plc key l)) := by
  intro R h
  refine f20_calls _ _ _ _ w R ?_
  unfold f20_vc
  have hA := At.refl w
  have hn := hs.len_le.1
  refine ⟨fun v w4 => ∃ k : Nat, v.1 = k ∧ At w [] w4 ∧ (∀ q, q < k → ∀ y, l[q]? = some y → y.1 ≠ key), fun v _ => (n - v.1).toNat, ⟨0, rfl, hA, fun q hq => by omega⟩, ?_⟩
  rintro x3 w4 ⟨k, hk, hA, hmin⟩
  simp only at hk
  subst hk
  have hs4 := hs.call hA.below
  refine brD (fun hlt => ?_) (fun hge => leaf h hA ?_)
  · obtain ⟨x, hx⟩ : ∃ x, l[k]? = some x := ⟨_, List.getElem?_eq_getElem (by omega)⟩
    obtain ⟨ad, g1, el, _⟩ := elt_at (P := Try.prog) (k := .i64) (t := 41) hs4 hx (e := 48) (by kernel_rfl) (by kernel_rfl)
    refine ⟨ad, g1, _, el.one (by kernel_rfl) (by simp), brE (fun he => leaf h hA ?_) (fun hne => ?_)⟩
    · rw [plc_at l k x hx he hmin]
    · rw [succ_i64 k (by omega)]
      refine ⟨⟨k + 1, rfl, hA, fun q hq y hy => ?_⟩, by simp only; omega⟩
      by_cases hqk : q = k
      · subst hqk
        rw [hx] at hy
        cases hy
        exact hne
      · exact hmin q (by omega) y hy
  · rw [plc_none l fun y hy => ?_]
    obtain ⟨q, hq⟩ := List.mem_iff_getElem?.1 hy
    have := (List.getElem?_eq_some_iff.1 hq).1
    exact hmin q (by omega) y hq

theorem c50 (x y : It) (w : World) : Ret Try.prog 50 #[.agg #[.int .i64 x.1, .int .i64 x.2], .agg #[.int .i64 y.1, .int .i64 y.2]] w (.bool (decide (ahead x y))) := by
  intro R h
  refine f50_calls x.1 x.2 y.1 y.2 w R ?_
  unfold f50_vc
  have hA := At.refl w
  refine go_n hA fun n1 h_n1 => ?_
  refine go_n hA fun n2 h_n2 => ?_
  refine brD (fun h1 => go_below hA fun _ hA => leaf h hA (by rw [decide_eq_true (show ahead x y from .inl h1)])) (fun h1 => brE (fun h2 => go_below hA fun _ hA => leaf h hA ?_) (fun h2 => go_below hA fun _ hA => leaf h hA ?_))
  · rw [show decide (ahead x y) = decide (x.1 < y.1) from decide_eq_decide.2 ⟨fun hh => hh.elim (fun e => absurd e h1) (·.2), fun hh => .inr ⟨h2, hh⟩⟩]
  · rw [decide_eq_false (show ¬ ahead x y from fun hh => hh.elim h1 (fun e => h2 e.1))]

theorem take_next {α : Type} {l : List α} {k : Nat} {x : α} (h : l[k]? = some x) : l.take (k + 1) = l.take k ++ [x] := by
  rw [List.take_add_one, h]
  rfl

/-- One more behind a list of items. -/
theorem oc (x : It) : ∀ u ∈ itE x, u.oneCell' = true := by
  intro u hu
  simp at hu
  rcases hu with rfl | rfl <;> rfl

def dropR (key : Int) (l : List It) : List It := l.filter fun x => decide (x.1 ≠ key)
theorem dropR_len (key : Int) (l : List It) : (dropR key l).length ≤ l.length := List.length_filter_le ..
theorem c37 {l : List It} {a : Option Addr} {n c : Nat} (key : Int) (w : World) (hs : SlE w 2 itE l a n c) (hl : l.length < 1099511627776) : RetL Try.prog 37 #[.slice a n c, .int .i64 key] w 48 2 itE (dropR key l) := by
  intro R h
  refine f37_calls _ _ _ _ w R ?_
  unfold f37_vc
  have hA := At.refl w
  have hn := hs.len_le.1
  refine ⟨fun v w4 => ∃ k : Nat, v.2.1 = k ∧ k ≤ n ∧ At w [] w4 ∧ OwnL w [] w4 48 2 itE (.slice v.1.1 v.1.2.1 v.1.2.2) (dropR key (l.take k)), fun v _ => (n - v.2.1).toNat, ⟨0, rfl, by omega, hA, OwnL.nil⟩, ?_⟩
  rintro a3 n4 n5 x6 w7 ⟨k, hk, hkn, hA, ho⟩
  simp only at hk ho
  subst hk
  have hs7 := hs.call hA.below
  refine brD (fun hlt => ?_) (fun hge => leafl h hA ho ?_)
  · obtain ⟨x, hx⟩ : ∃ x, l[k]? = some x := ⟨_, List.getElem?_eq_getElem (by omega)⟩
    obtain ⟨ad, g1, el, _⟩ := elt_at (P := Try.prog) (k := .i64) (t := 41) hs7 hx (e := 48) (by kernel_rfl) (by kernel_rfl)
    refine ⟨ad, g1, _, el.one (by kernel_rfl) (by simp), brN (fun hne => ?_) (fun he => ?_)⟩
    · refine ⟨ad, g1, _, _, Elt.agg 2 el (by kernel_rfl) (by kernel_rfl) (by simp) (by simp), ?_⟩
      obtain ⟨_, _, hv, _⟩ := ho.slice (fun _ _ => rfl)
      cases hv
      have := dropR_len key (l.take k)
      have : (l.take k).length ≤ k := by simp; omega
      refine opw_push0 (e' := 48) (bytes := 16) hA ho x (by kernel_rfl) (by kernel_rfl) rfl (fun _ _ => rfl) (oc x) (by omega) (by decide) fun a2 c2 w9 hA ho _ _ => ?_
      rw [succ_i64 k (by omega)]
      refine ⟨⟨k + 1, rfl, by omega, hA, ?_⟩, by simp only; omega⟩
      have : dropR key (l.take (k + 1)) = dropR key (l.take k) ++ [x] := by
        rw [take_next hx]; simp [dropR, hne]
      rw [this]
      exact ho
    · rw [succ_i64 k (by omega)]
      refine ⟨⟨k + 1, rfl, by omega, hA, ?_⟩, by simp only; omega⟩
      have : dropR key (l.take (k + 1)) = dropR key (l.take k) := by
        rw [take_next hx]; simp [dropR, he]
      simp only
      rw [this]
      exact ho
  · rw [List.take_of_length_le (by omega)]
end Go.Vc.H
