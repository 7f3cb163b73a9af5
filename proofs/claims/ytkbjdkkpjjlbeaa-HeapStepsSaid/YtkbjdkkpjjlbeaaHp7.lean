/- Own text of this claim: Hp7. -/
import Derived.Test.YtkbjdkkpjjlbeaaHp6
set_option maxRecDepth 20000
namespace Go.Vc.H
open Go Go.Vc Go.RowKit Go.Proofs Vcc

variable {w W W' : World} {M : Nat → Prop} {gs : List Nat}

/-- One put in its place. -/
def ins (x : It) : List It → List It
  | [] => [x]
  | y :: t => if ahead x y then x :: y :: t else y :: ins x t
def putR (x : It) (l : List It) : List It := ins x (dropR x.1 l)

theorem drop_next {α : Type} {l : List α} {k : Nat} {x : α} (h : l[k]? = some x) : l.drop k = x :: l.drop (k + 1) := by
  obtain ⟨hk, rfl⟩ := List.getElem?_eq_some_iff.1 h
  exact List.drop_eq_getElem_cons hk

theorem c36 {l : List It} {a : Option Addr} {n c : Nat} (x : It) (w : World) (hs : SlE w 2 itE l a n c) (hl : l.length < 549755813888) : RetL Try.prog 36 #[.slice a n c, .agg #[.int .i64 x.1, .int .i64 x.2]] w 48 2 itE (putR x l) := by
  intro R h
  refine f36_calls _ _ _ x.1 x.2 w R ?_
  unfold f36_vc
  have hA := At.refl w
  have hn := hs.len_le.1
  refine go_n hA fun n1 h_n1 => ?_
  refine go_below_too hA fun w2 hA hb2 => ?_
  refine at_calll hA (c37 x.1 w2 (hs.call hb2) (by omega)) (fun _ _ => rfl) fun a5 c5 w4 hA hk hb4 ho4 hs4 => ⟨_, _, _, rfl, hk, ?_⟩
  have hrl := dropR_len x.1 l
  generalize hrest : dropR x.1 l = rest at ho4 hs4 hrl ⊢
  have hA4 : At w4 [n1] w4 := ⟨Chg.refl _ _, hA.under⟩
  refine ⟨fun v W => ∃ k : Nat, v.2.2.1 = k ∧ k ≤ rest.length ∧ At w4 [n1] W ∧ ∃ out, OwnL w4 [n1] W 48 2 itE (.slice v.1.1 v.1.2.1 v.1.2.2) out ∧ out.length ≤ k + 1 ∧ (v.2.1 = true → out ++ rest.drop k = ins x rest) ∧ (v.2.1 = false → out.length ≤ k ∧ out ++ ins x (rest.drop k) = ins x rest), fun v _ => (rest.length - v.2.2.1).toNat, ⟨0, rfl, by omega, hA4, [], OwnL.nil, by simp, (fun e => by cases e), fun _ => ⟨by simp, rfl⟩⟩, ?_⟩
  rintro a10 n11 n12 b13 x14 w15 ⟨k, hk', hkn, hA5, out, ho, hol, ht, hf⟩
  simp only at hk' ho ht hf
  subst hk'
  have hs15 := hs4.call hA5.below
  obtain ⟨_, _, hv, _⟩ := ho.slice (fun _ _ => rfl)
  cases hv
  have back : ∀ {v : Value} {l' : List It} {W : World}, At w4 [n1] W → OwnL w4 [n1] W 48 2 itE v l' → OwnL w [n1] W 48 2 itE v l' ∧ At w [n1] W := fun hW ho => ⟨ho.base (fun k hk => .inl (Nat.le_trans hA.size ((ho.mine k hk).resolve_right id))) ho.apart, hA.call hW.below⟩
  refine brD (fun hlt => ?_) (fun hge => ?_)
  · have hlt' : k < rest.length := by omega
    obtain ⟨y, hy⟩ : ∃ y, rest[k]? = some y := ⟨_, List.getElem?_eq_getElem hlt'⟩
    have hdr := drop_next hy
    rw [succ_i64 k (by omega)]
    obtain ⟨ad, g1, el, _⟩ := elt_at (P := Try.prog) (k := .i64) (t := 41) hs15 hy (e := 48) (by kernel_rfl) (by kernel_rfl)
    cases b13 with
    | false =>
      refine ⟨fun _ => ?_, (fun e => by cases e)⟩
      refine ⟨ad, g1, _, _, Elt.agg 2 el (by kernel_rfl) (by kernel_rfl) (by simp) (by simp), ?_⟩
      refine go_below_too hA5 fun w19 hA5 hb => ?_
      have ho := (ho.call hb)
      refine at_callb hA5 (c50 x y w19) fun w21 hA5 hk21 hb => ⟨_, rfl, hk21, ?_⟩
      have ho := (ho.call hb)
      obtain ⟨hol, hff⟩ := hf rfl
      refine brD (fun ha => ?_) (fun hna => ?_)
      · refine opw_push (e' := 48) (bytes := 16) hA5 ho x (by kernel_rfl) (by kernel_rfl) rfl (fun _ _ => rfl) (oc x) (by omega) (by decide) fun a2 c2 w29 hA5 ho _ _ => ?_
        obtain ⟨ad2, g2, el2, _⟩ := elt_at (P := Try.prog) (k := .i64) (t := 41) (hs4.call hA5.below) hy (e := 48) (by kernel_rfl) (by kernel_rfl)
        refine ⟨ad2, g2, _, _, Elt.agg 2 el2 (by kernel_rfl) (by kernel_rfl) (by simp) (by simp), ?_⟩
        refine opw_push (e' := 48) (bytes := 16) hA5 ho y (by kernel_rfl) (by kernel_rfl) rfl (fun _ _ => rfl) (oc y) (by simp; omega) (by decide) fun a2 c2 w42 hA5 ho _ _ => ?_
        refine ⟨⟨k + 1, rfl, by omega, hA5, _, ho, by simp; omega, (fun _ => ?_), (fun e => by cases e)⟩, by simp only; omega⟩
        rw [hdr, ins, if_pos ha] at hff
        rw [← hff]
        simp
      · obtain ⟨ad2, g2, el2, _⟩ := elt_at (P := Try.prog) (k := .i64) (t := 41) (hs4.call hA5.below) hy (e := 48) (by kernel_rfl) (by kernel_rfl)
        refine ⟨ad2, g2, _, _, Elt.agg 2 el2 (by kernel_rfl) (by kernel_rfl) (by simp) (by simp), ?_⟩
        refine opw_push (e' := 48) (bytes := 16) hA5 ho y (by kernel_rfl) (by kernel_rfl) rfl (fun _ _ => rfl) (oc y) (by omega) (by decide) fun a2 c2 w42 hA5 ho _ _ => ?_
        refine ⟨⟨k + 1, rfl, by omega, hA5, _, ho, by simp; omega, (fun e => by cases e), fun _ => ⟨by simp; omega, ?_⟩⟩, by simp only; omega⟩
        rw [hdr, ins, if_neg hna] at hff
        rw [← hff]
        simp
    | true =>
      refine ⟨(fun e => by cases e), fun _ => ?_⟩
      refine ⟨ad, g1, _, _, Elt.agg 2 el (by kernel_rfl) (by kernel_rfl) (by simp) (by simp), ?_⟩
      refine go_below_too hA5 fun w19 hA5 hb => ?_
      have ho := (ho.call hb)
      refine opw_push (e' := 48) (bytes := 16) hA5 ho y (by kernel_rfl) (by kernel_rfl) rfl (fun _ _ => rfl) (oc y) (by omega) (by decide) fun a2 c2 w42 hA5 ho _ _ => ?_
      refine ⟨⟨k + 1, rfl, by omega, hA5, _, ho, by simp; omega, (fun _ => ?_), (fun e => by cases e)⟩, by simp only; omega⟩
      rw [← ht rfl, hdr]
      simp
  · have hk2 : k = rest.length := by omega
    subst hk2
    cases b13 with
    | false =>
      refine ⟨fun _ => ?_, (fun e => by cases e)⟩
      refine opw_push (e' := 48) (bytes := 16) hA5 ho x (by kernel_rfl) (by kernel_rfl) rfl (fun _ _ => rfl) (oc x) (by omega) (by decide) fun a2 c2 w42 hA5 ho _ _ => ?_
      refine leafl h (back hA5 ho).2 (back hA5 ho).1 ?_
      rw [putR, hrest, ← (hf rfl).2]
      simp [ins]
    | true =>
      refine ⟨(fun e => by cases e), fun _ => ?_⟩
      refine leafl h (back hA5 ho).2 (back hA5 ho).1 ?_
      rw [putR, hrest, ← ht rfl]
      simp
end Go.Vc.H
