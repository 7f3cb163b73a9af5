/- Own text of this claim: Td8. -/
import Derived.Test.YtfipbnoidoljoaaTd7
set_option maxRecDepth 20000
namespace Go.Vc.T
open Go Go.Vc Go.RowKit Go.Proofs Vcd1

variable {w W W' : World} {M : Nat → Prop} {gs : List Nat} {cf : Int → Int → Int}

theorem succ_i64 (k : Nat) (h : k < 4611686018427387904) : IntKind.i64.wrap ((k : Int) + 1) = ((k + 1 : Nat) : Int) := by rw [wrap_i64 (by omega) (by omega)]; rfl
theorem take_next {α : Type} {l : List α} {k : Nat} {x : α} (h : l[k]? = some x) : l.take (k + 1) = l.take k ++ [x] := by
  rw [List.take_add_one, h]
  rfl
theorem drop_next {α : Type} {l : List α} {k : Nat} {x : α} (h : l[k]? = some x) : l.drop k = x :: l.drop (k + 1) := by
  obtain ⟨hk, rfl⟩ := List.getElem?_eq_some_iff.1 h
  exact List.drop_eq_getElem_cons hk

/-- Where a number stands in a list; -1: nowhere. -/
def plc (key : Int) : List Int → Int
  | [] => -1
  | x :: t => if x = key then 0 else if plc key t < 0 then -1 else plc key t + 1
theorem plc_at {key : Int} : ∀ (l : List Int) (k : Nat), l[k]? = some key → (∀ q, q < k → ∀ y, l[q]? = some y → y ≠ key) → plc key l = k := by
  intro l
  induction l with
  | nil => intro k hx; simp at hx
  | cons a t ih =>
    intro k hx hmin
    cases k with
    | zero => simp at hx; subst hx; simp [plc]
    | succ k =>
      have := ih k (by simpa using hx) (fun q hq y hy => hmin (q + 1) (by omega) y (by simpa using hy))
      rw [plc, if_neg (hmin 0 (by omega) a rfl), this, if_neg (by omega)]
      rfl
theorem plc_none {key : Int} : ∀ (l : List Int), (∀ y ∈ l, y ≠ key) → plc key l = -1 := by
  intro l
  induction l with
  | nil => intro _; rfl
  | cons a t ih => intro h; rw [plc, if_neg (h a (by simp)), ih (fun y hy => h y (by simp [hy]))]; rfl
theorem plc_pl (h : Tr.Ord cf) (x : Int) (t : Tr Int) (hs : Tr.Srt cf t.toL) : plI (Tr.pl cf x t) 0 = plc x t.toL := by
  obtain ⟨h1, h2⟩ := Tr.pl_spec h x t hs
  cases hp : Tr.pl cf x t with
  | none => rw [plc_none _ fun y hy e => by subst e; exact h2 hp hy]; rfl
  | some i =>
    have hi := h1 i hp
    rw [plc_at _ i hi fun q hq y hy e => ?_]
    · simp [plI]
    · subst e
      have hil := (List.getElem?_eq_some_iff.1 hi)
      have hql := (List.getElem?_eq_some_iff.1 hy)
      have := (List.pairwise_iff_getElem.1 hs) q i hql.1 hil.1 hq
      rw [hql.2, hil.2] at this
      exact h.irrefl _ this

theorem c13 {l : List Int} {a : Option Addr} {n c : Nat} (key : Int) (w : World) (hs : SlE w 1 i1E l a n c) (hl : l.length < 1099511627776) : Ret Try.prog 13 #[.slice a n c, .int .i64 key] w (.int .i64 (plc key l)) := by
  intro R h
  refine f13_calls _ _ _ _ w R ?_
  unfold f13_vc
  have hA := At.refl w
  have hn := hs.len_le.1
  refine ⟨fun v w4 => ∃ k : Nat, v.1 = k ∧ At w [] w4 ∧ (∀ q, q < k → ∀ y, l[q]? = some y → y ≠ key), fun v _ => (n - v.1).toNat, ⟨0, rfl, hA, fun q hq => by omega⟩, ?_⟩
  rintro x3 w4 ⟨k, hk, hA, hmin⟩
  simp only at hk
  subst hk
  have hs4 := hs.call hA.below
  refine brD (fun hlt => ?_) (fun hge => leaf h hA ?_)
  · obtain ⟨x, hx⟩ : ∃ x, l[k]? = some x := ⟨_, List.getElem?_eq_getElem (by omega)⟩
    obtain ⟨ad, g1, el, _⟩ := elt_at (P := Try.prog) (k := .i64) (t := 27) hs4 hx (e := 3) (by kernel_rfl) (by kernel_rfl)
    refine ⟨ad, g1, _, el.one (by kernel_rfl) (by simp), brE (fun he => leaf h hA ?_) (fun hne => ?_)⟩
    · subst he; rw [plc_at l k hx hmin]
    · rw [succ_i64 k (by omega)]
      refine ⟨⟨k + 1, rfl, hA, fun q hq y hy => ?_⟩, by simp only; omega⟩
      by_cases hqk : q = k
      · subst hqk
        rw [hx] at hy
        cases hy
        exact hne
      · exact hmin q (by omega) y hy
  · rw [plc_none l fun y hy => ?_]
    obtain ⟨q, hq⟩ := List.mem_iff_getElem?.1 hy
    have := (List.getElem?_eq_some_iff.1 hq).1
    exact hmin q (by omega) y hq

def dropI (key : Int) (l : List Int) : List Int := l.filter fun x => decide (x ≠ key)
theorem dropI_len (key : Int) (l : List Int) : (dropI key l).length ≤ l.length := List.length_filter_le ..
theorem c16 {l : List Int} {a : Option Addr} {n c : Nat} (key : Int) (w : World) (hs : SlE w 1 i1E l a n c) (hl : l.length < 1099511627776) : RetL Try.prog 16 #[.slice a n c, .int .i64 key] w 3 1 i1E (dropI key l) := by
  intro R h
  refine f16_calls _ _ _ _ w R ?_
  unfold f16_vc
  have hA := At.refl w
  have hn := hs.len_le.1
  refine ⟨fun v w4 => ∃ k : Nat, v.2.1 = k ∧ k ≤ n ∧ At w [] w4 ∧ OwnL w [] w4 3 1 i1E (.slice v.1.1 v.1.2.1 v.1.2.2) (dropI key (l.take k)), fun v _ => (n - v.2.1).toNat, ⟨0, rfl, by omega, hA, OwnL.nil⟩, ?_⟩
  rintro a3 n4 n5 x6 w7 ⟨k, hk, hkn, hA, ho⟩
  simp only at hk ho
  subst hk
  have hs7 := hs.call hA.below
  refine brD (fun hlt => ?_) (fun hge => leafl h hA ho ?_)
  · obtain ⟨x, hx⟩ : ∃ x, l[k]? = some x := ⟨_, List.getElem?_eq_getElem (by omega)⟩
    obtain ⟨ad, g1, el, _⟩ := elt_at (P := Try.prog) (k := .i64) (t := 27) hs7 hx (e := 3) (by kernel_rfl) (by kernel_rfl)
    refine ⟨ad, g1, _, el.one (by kernel_rfl) (by simp), brN (fun hne => ?_) (fun he => ?_)⟩
    · refine ⟨ad, g1, _, el.one (by kernel_rfl) (by simp), ?_⟩
      obtain ⟨_, _, hv, _⟩ := ho.slice (fun _ _ => rfl)
      cases hv
      have := dropI_len key (l.take k)
      have : (l.take k).length ≤ k := by simp; omega
      refine opw_push0 (e' := 3) (bytes := 8) hA ho x (by kernel_rfl) (by kernel_rfl) rfl (fun _ _ => rfl) (by simp [Value.oneCell']) (by omega) (by decide) fun a2 c2 w9 hA ho _ _ => ?_
      rw [succ_i64 k (by omega)]
      refine ⟨⟨k + 1, rfl, by omega, hA, ?_⟩, by simp only; omega⟩
      have : dropI key (l.take (k + 1)) = dropI key (l.take k) ++ [x] := by
        rw [take_next hx]; simp [dropI, hne]
      rw [this]
      exact ho
    · rw [succ_i64 k (by omega)]
      refine ⟨⟨k + 1, rfl, by omega, hA, ?_⟩, by simp only; omega⟩
      have : dropI key (l.take (k + 1)) = dropI key (l.take k) := by
        rw [take_next hx]; simp [dropI, he]
      simp only
      rw [this]
      exact ho
  · rw [List.take_of_length_le (by omega)]

/-- One put in its place. -/
def insI (cf : Int → Int → Int) (x : Int) : List Int → List Int
  | [] => [x]
  | y :: t => if cf x y ≤ 0 then (if y = x then x :: t else x :: y :: t) else y :: insI cf x t
theorem mem_insI {x y : Int} : ∀ {s : List Int}, y ∈ insI cf x s ↔ y = x ∨ y ∈ s
  | [] => by simp [insI]
  | z :: t => by
    rw [insI]
    split
    · split
      · rename_i e; simp [e]
      · simp
    · rw [List.mem_cons, mem_insI, List.mem_cons]
      exact or_left_comm
theorem srt_insI (h : Tr.Ord cf) {x : Int} : ∀ {s : List Int}, Tr.Srt cf s → Tr.Srt cf (insI cf x s)
  | [], _ => by simp [insI, Tr.Srt]
  | z :: t, hs => by
    have h' := List.pairwise_cons.1 hs
    rw [insI]
    split
    · rename_i hle
      split
      · rename_i e; rw [← e]; exact hs
      · rename_i hne
        have hlt : cf x z < 0 := by
          have : cf x z ≠ 0 := fun e => hne ((h.eq x z).1 e).symm
          omega
        refine List.pairwise_cons.2 ⟨fun y hy => ?_, hs⟩
        rcases List.mem_cons.1 hy with e | hm
        · rw [e]; exact hlt
        · exact h.trans _ _ _ hlt (h'.1 y hm)
    · rename_i hgt
      refine List.pairwise_cons.2 ⟨fun y hy => ?_, srt_insI h h'.2⟩
      rcases mem_insI.1 hy with e | hm
      · rw [e]; exact (h.flip z x).2 (by omega)
      · exact h'.1 y hm
theorem put_insI (h : Tr.Ord cf) (x : Int) (t : Tr Int) (hs : Tr.Srt cf t.toL) : (Tr.put cf x t).1.toL = insI cf x t.toL := by
  obtain ⟨h1, h2, _⟩ := Tr.put_spec h x t hs
  exact Tr.srt_ext h h1 (srt_insI h hs) fun y => by rw [h2, mem_insI]
theorem drop_dropI (h : Tr.Ord cf) (x : Int) (t : Tr Int) (hs : Tr.Srt cf t.toL) : (Tr.drop cf x t).1.toL = dropI x t.toL := by
  obtain ⟨h1, h2, _⟩ := Tr.drop_spec h x t hs
  exact Tr.srt_ext h h1 (hs.filter _) fun y => by rw [h2]; simp [dropI]

theorem c18 {l : List Int} {a : Option Addr} {n c : Nat} (m x : Int) (hm : m ≤ 1000) (w : World) (hs : SlE w 1 i1E l a n c) (hl : l.length < 549755813888) : RetL Try.prog 18 #[.int .i64 m, .slice a n c, .int .i64 x] w 3 1 i1E (insI (cfO m) x l) := by
  intro R h
  refine f18_calls _ _ _ _ _ w R ?_
  unfold f18_vc
  have hA := At.refl w
  have hn := hs.len_le.1
  refine ⟨fun v W => ∃ k : Nat, v.2.2.1 = k ∧ k ≤ l.length ∧ At w [] W ∧ ∃ out, OwnL w [] W 3 1 i1E (.slice v.1.1 v.1.2.1 v.1.2.2) out ∧ out.length ≤ k + 1 ∧ (v.2.1 = true → out ++ l.drop k = insI (cfO m) x l) ∧ (v.2.1 = false → out.length ≤ k ∧ out ++ insI (cfO m) x (l.drop k) = insI (cfO m) x l), fun v _ => (l.length - v.2.2.1).toNat, ⟨0, rfl, by omega, hA, [], OwnL.nil, by simp, (fun e => by cases e), fun _ => ⟨by simp, rfl⟩⟩, ?_⟩
  rintro a3 n4 n5 b6 x7 w8 ⟨k, hk', hkn, hA, out, ho, hol, ht, hf⟩
  simp only at hk' ho ht hf
  subst hk'
  obtain ⟨_, _, hv, _⟩ := ho.slice (fun _ _ => rfl)
  cases hv
  refine brD (fun hlt => ?_) (fun hge => ?_)
  · have hlt' : k < l.length := by omega
    obtain ⟨y, hy⟩ : ∃ y, l[k]? = some y := ⟨_, List.getElem?_eq_getElem hlt'⟩
    have hdr := drop_next hy
    rw [succ_i64 k (by omega)]
    have rd : ∀ {W}, At w [] W → ∃ ad, Gives Try.prog (Instr.indexAt 27 (.slice a n c) (.int .i64 (k : Int))) (.pointer (some ad)) ∧ Reads Try.prog [] (Instr.loadAt 3 (.pointer (some ad))) W (.int .i64 y) := fun hA => by
      obtain ⟨ad, g1, el, _⟩ := elt_at (P := Try.prog) (k := .i64) (t := 27) (hs.call hA.below) hy (e := 3) (by kernel_rfl) (by kernel_rfl)
      exact ⟨ad, g1, el.one (by kernel_rfl) (by simp)⟩
    obtain ⟨ad, g1, r1⟩ := rd hA
    cases b6 with
    | false =>
      refine ⟨fun _ => ?_, (fun e => by cases e)⟩
      obtain ⟨hol, hff⟩ := hf rfl
      refine ⟨ad, g1, _, r1, at_callb hA (c12 m x y hm w8) fun w12 hA _ hb => ⟨_, rfl, ?_⟩⟩
      have ho := ho.call hb
      rw [hdr, insI] at hff
      refine brD (fun hle => ?_) (fun hgt => ?_)
      · rw [if_pos hle] at hff
        refine opw_push0 (e' := 3) (bytes := 8) hA ho x (by kernel_rfl) (by kernel_rfl) rfl (fun _ _ => rfl) (by simp [Value.oneCell']) (by omega) (by decide) fun a2 c2 w20 hA ho _ _ => ?_
        obtain ⟨ad2, g2, r2⟩ := rd hA
        refine ⟨ad2, g2, _, r2, brE (fun he => ?_) (fun hne => ?_)⟩
        · rw [if_pos he] at hff
          refine ⟨⟨k + 1, rfl, by omega, hA, _, ho, by simp; omega, (fun _ => ?_), (fun e => by cases e)⟩, by simp only; omega⟩
          rw [← hff]; simp
        · rw [if_neg hne] at hff
          obtain ⟨ad3, g3, r3⟩ := rd hA
          refine ⟨ad3, g3, _, r3, ?_⟩
          refine opw_push0 (e' := 3) (bytes := 8) hA ho y (by kernel_rfl) (by kernel_rfl) rfl (fun _ _ => rfl) (by simp [Value.oneCell']) (by simp; omega) (by decide) fun a4 c4 w34 hA ho _ _ => ?_
          refine ⟨⟨k + 1, rfl, by omega, hA, _, ho, by simp; omega, (fun _ => ?_), (fun e => by cases e)⟩, by simp only; omega⟩
          rw [← hff]; simp
      · rw [if_neg hgt] at hff
        obtain ⟨ad3, g3, r3⟩ := rd hA
        refine ⟨ad3, g3, _, r3, ?_⟩
        refine opw_push0 (e' := 3) (bytes := 8) hA ho y (by kernel_rfl) (by kernel_rfl) rfl (fun _ _ => rfl) (by simp [Value.oneCell']) (by omega) (by decide) fun a4 c4 w34 hA ho _ _ => ?_
        refine ⟨⟨k + 1, rfl, by omega, hA, _, ho, by simp; omega, (fun e => by cases e), fun _ => ⟨by simp; omega, ?_⟩⟩, by simp only; omega⟩
        rw [← hff]; simp
    | true =>
      refine ⟨(fun e => by cases e), fun _ => ?_⟩
      refine ⟨ad, g1, _, r1, ?_⟩
      refine opw_push0 (e' := 3) (bytes := 8) hA ho y (by kernel_rfl) (by kernel_rfl) rfl (fun _ _ => rfl) (by simp [Value.oneCell']) (by omega) (by decide) fun a4 c4 w34 hA ho _ _ => ?_
      refine ⟨⟨k + 1, rfl, by omega, hA, _, ho, by simp; omega, (fun _ => ?_), (fun e => by cases e)⟩, by simp only; omega⟩
      rw [← ht rfl, hdr]; simp
  · have hk2 : k = l.length := by omega
    subst hk2
    cases b6 with
    | false =>
      refine ⟨fun _ => ?_, (fun e => by cases e)⟩
      refine opw_push0 (e' := 3) (bytes := 8) hA ho x (by kernel_rfl) (by kernel_rfl) rfl (fun _ _ => rfl) (by simp [Value.oneCell']) (by omega) (by decide) fun a4 c4 w34 hA ho _ _ => ?_
      refine leafl h hA ho ?_
      rw [← (hf rfl).2]
      simp [insI]
    | true =>
      refine ⟨(fun e => by cases e), fun _ => leafl h hA ho ?_⟩
      rw [← ht rfl]
      simp

theorem c23 {x y : List Int} {a b : Option Addr} {n c n2 c2 : Nat} (w : World) (hx : SlE w 1 i1E x a n c) (hy : SlE w 1 i1E y b n2 c2) (hl : x.length < 1099511627776) : Ret Try.prog 23 #[.slice a n c, .slice b n2 c2] w (.bool (decide (x = y))) := by
  intro R h
  refine f23_calls _ _ _ _ _ _ w R ?_
  unfold f23_vc
  have hA := At.refl w
  have hn := hx.len_le.1
  have hn2 := hy.len_le.1
  refine brN (fun hne => leaf h hA (by rw [decide_eq_false (fun e => hne (by rw [hn, hn2, e]))])) (fun he => ?_)
  refine ⟨fun v w4 => ∃ k : Nat, v.1 = k ∧ k ≤ n ∧ At w [] w4 ∧ ∀ q, q < k → x[q]? = y[q]?, fun v _ => (n - v.1).toNat, ⟨0, rfl, by omega, hA, fun q hq => by omega⟩, ?_⟩
  rintro x3 w4 ⟨k, hk, hkn, hA, hall⟩
  simp only at hk
  subst hk
  refine brD (fun hlt => ?_) (fun hge => leaf h hA ?_)
  · obtain ⟨u, hu⟩ : ∃ u, x[k]? = some u := ⟨_, List.getElem?_eq_getElem (by omega)⟩
    obtain ⟨v, hv⟩ : ∃ v, y[k]? = some v := ⟨_, List.getElem?_eq_getElem (by omega)⟩
    obtain ⟨ad, g1, el, _⟩ := elt_at (P := Try.prog) (k := .i64) (t := 27) (hx.call hA.below) hu (e := 3) (by kernel_rfl) (by kernel_rfl)
    obtain ⟨ad2, g2, el2, _⟩ := elt_at (P := Try.prog) (k := .i64) (t := 27) (hy.call hA.below) hv (e := 3) (by kernel_rfl) (by kernel_rfl)
    refine ⟨ad, g1, _, el.one (by kernel_rfl) (by simp), ad2, g2, _, el2.one (by kernel_rfl) (by simp), brN (fun hne => ?_) (fun huv => ?_)⟩
    · exact go_below0 hA fun w9 hA => leaf h hA (by rw [decide_eq_false (fun e => by rw [e, hv] at hu; cases hu; exact hne rfl)])
    · refine go_below0 hA fun w9 hA => ?_
      rw [succ_i64 k (by omega)]
      refine ⟨⟨k + 1, rfl, by omega, hA, fun q hq => ?_⟩, by simp only; omega⟩
      by_cases hqk : q = k
      · subst hqk
        rw [hu, hv, huv]
      · exact hall q (by omega)
  · rw [decide_eq_true]
    refine List.ext_getElem? fun q => ?_
    by_cases hq : q < k
    · exact hall q hq
    · rw [List.getElem?_eq_none (by omega), List.getElem?_eq_none (by omega)]
end Go.Vc.T
