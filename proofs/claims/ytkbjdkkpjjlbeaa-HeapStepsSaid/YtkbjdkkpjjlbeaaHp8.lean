/- Own text of this claim: Hp8. -/
import Derived.Test.YtkbjdkkpjjlbeaaHp7
set_option maxRecDepth 20000
namespace Go.Vc.H
open Go Go.Vc Go.RowKit Go.Proofs Vcc

variable {w W W' : World} {M : Nat → Prop} {gs : List Nat} {g c r : Nat} {a : Option Addr} {l pl : List It} {st : Int}

theorem own_ret {α : Type} {e : TypeId} {size : Nat} {f : α → List Value} {v : Value} {l : List α} (hA : AtF w M gs W) (h : OwnF W noB [] W' e size f v l) : OwnF w M gs W' e size f v l :=
  h.base (fun k hk => .inl (Nat.le_trans hA.size ((h.mine k hk).resolve_right id))) fun x hx hk => by
    have := (h.mine x hk).resolve_right id
    have := hA.under x hx
    omega

def dueK (now : Int) (l : List It) : List Int := (l.filter fun x => decide (x.2 ≤ now)).map (·.1)
def dueR (now : Int) (l : List It) : List It := l.filter fun x => decide (¬ x.2 ≤ now)

theorem c38 {l : List It} {a : Option Addr} {n c : Nat} (now : Int) (w : World) (hs : SlE w 2 itE l a n c) (hl : l.length < 1099511627776) : RetQ Try.prog 38 #[.slice a n c, .int .i64 now] w (fun v W' => ∃ s1 s2, v = .tuple #[s1, s2] ∧ OwnF w noB [] W' 2 1 inE s1 (dueK now l) ∧ OwnF w noB [] W' 48 2 itE s2 (dueR now l)) := by
  intro R h
  refine f38_calls _ _ _ _ w R ?_
  unfold f38_vc
  have hA := At.refl w
  have hn := hs.len_le.1
  refine ⟨fun v W => ∃ k : Nat, v.2.2.1 = k ∧ k ≤ n ∧ At w [] W ∧ OwnL w [] W 2 1 inE (.slice v.1.1 v.1.2.1 v.1.2.2) (dueK now (l.take k)) ∧ OwnL w [] W 48 2 itE (.slice v.2.1.1 v.2.1.2.1 v.2.1.2.2) (dueR now (l.take k)), fun v _ => (n - v.2.2.1).toNat, ⟨0, rfl, by omega, hA, OwnL.nil, OwnL.nil⟩, ?_⟩
  rintro a3 n4 n5 a6 n7 n8 x9 w10 ⟨k, hk, hkn, hA, ho1, ho2⟩
  simp only at hk ho1 ho2
  subst hk
  have hs10 := hs.call hA.below
  have htk : (l.take k).length ≤ k := by simp; omega
  have hl1 : (dueK now (l.take k)).length ≤ (l.take k).length := by unfold dueK; rw [List.length_map]; exact List.length_filter_le ..
  have hl2 : (dueR now (l.take k)).length ≤ (l.take k).length := List.length_filter_le ..
  obtain ⟨_, _, hv, _⟩ := ho1.slice (fun _ _ => rfl)
  cases hv
  obtain ⟨_, _, hv, _⟩ := ho2.slice (fun _ _ => rfl)
  cases hv
  refine brD (fun hlt => ?_) (fun hge => leafq h hA ⟨_, _, rfl, ?_⟩)
  · obtain ⟨x, hx⟩ : ∃ x, l[k]? = some x := ⟨_, List.getElem?_eq_getElem (by omega)⟩
    obtain ⟨ad, g1, el, _⟩ := elt_at (P := Try.prog) (k := .i64) (t := 41) hs10 hx (e := 48) (by kernel_rfl) (by kernel_rfl)
    rw [succ_i64 k (by omega)]
    refine ⟨ad, g1, _, (el.sub (o := 1) (by decide)).one (by kernel_rfl) (by simp), brD (fun hle => ?_) (fun hgt => ?_)⟩
    · refine ⟨ad, g1, _, el.one (by kernel_rfl) (by simp), ?_⟩
      refine opw_push0 (e' := 2) (bytes := 8) hA ho1 x.1 (by kernel_rfl) (by kernel_rfl) rfl (fun _ _ => rfl) (by simp [Value.oneCell']) (by omega) (by decide) fun a2 c2 w21 hA ho hg _ => ?_
      refine ⟨⟨k + 1, rfl, by omega, hA, ?_, ?_⟩, by simp only; omega⟩
      · have : dueK now (l.take (k + 1)) = dueK now (l.take k) ++ [x.1] := by
          rw [take_next hx]; simp [dueK, hle]
        simp only
        rw [this]
        exact ho
      · have : dueR now (l.take (k + 1)) = dueR now (l.take k) := by
          rw [take_next hx]; simp [dueR, hle]
        simp only
        rw [this]
        refine ho2.keep fun b hb => hg.block b (ho2.lt b hb) fun e => ?_
        obtain ⟨_, hc2⟩ := ho2.blk hb
        obtain ⟨_, hc1⟩ := ho1.blk e.symm
        exact cells_ne hc1 hc2 (by decide) rfl
    · refine ⟨ad, g1, _, _, Elt.agg 2 el (by kernel_rfl) (by kernel_rfl) (by simp) (by simp), ?_⟩
      refine opw_push0 (e' := 48) (bytes := 16) hA ho2 x (by kernel_rfl) (by kernel_rfl) rfl (fun _ _ => rfl) (oc x) (by omega) (by decide) fun a2 c2 w21 hA ho hg _ => ?_
      refine ⟨⟨k + 1, rfl, by omega, hA, ?_, ?_⟩, by simp only; omega⟩
      · have : dueK now (l.take (k + 1)) = dueK now (l.take k) := by
          rw [take_next hx]; simp [dueK, hgt]
        simp only
        rw [this]
        refine ho1.keep fun b hb => hg.block b (ho1.lt b hb) fun e => ?_
        obtain ⟨_, hc1⟩ := ho1.blk hb
        obtain ⟨_, hc2⟩ := ho2.blk e.symm
        exact cells_ne hc1 hc2 (by decide) rfl
      · have : dueR now (l.take (k + 1)) = dueR now (l.take k) ++ [x] := by
          rw [take_next hx]; simp [dueR]
          omega
        simp only
        rw [this]
        exact ho
  · have e : l.take k = l := List.take_of_length_le (by omega)
    rw [e] at ho1 ho2
    rw [e]
    exact ⟨ho1, ho2⟩

theorem c39 {x y : List Int} {a b : Option Addr} {n c n2 c2 : Nat} (w : World) (hx : SlE w 1 inE x a n c) (hy : SlE w 1 inE y b n2 c2) (hl : x.length < 1099511627776) : Ret Try.prog 39 #[.slice a n c, .slice b n2 c2] w (.bool (decide (x = y))) := by
  intro R h
  refine f39_calls _ _ _ _ _ _ w R ?_
  unfold f39_vc
  have hA := At.refl w
  have hn := hx.len_le.1
  have hn2 := hy.len_le.1
  refine brN (fun hne => leaf h hA (by rw [decide_eq_false (fun e => hne (by rw [hn, hn2, e]))])) (fun he => ?_)
  refine ⟨fun v w4 => ∃ k : Nat, v.1 = k ∧ k ≤ n ∧ At w [] w4 ∧ ∀ q, q < k → x[q]? = y[q]?, fun v _ => (n - v.1).toNat, ⟨0, rfl, by omega, hA, fun q hq => by omega⟩, ?_⟩
  rintro x3 w4 ⟨k, hk, hkn, hA, hall⟩
  simp only at hk
  subst hk
  refine brD (fun hlt => ?_) (fun hge => leaf h hA ?_)
  · obtain ⟨u, hu⟩ : ∃ u, x[k]? = some u := ⟨_, List.getElem?_eq_getElem (by omega)⟩
    obtain ⟨v, hv⟩ : ∃ v, y[k]? = some v := ⟨_, List.getElem?_eq_getElem (by omega)⟩
    obtain ⟨ad, g1, el, _⟩ := elt_at (P := Try.prog) (k := .i64) (t := 22) (hx.call hA.below) hu (e := 2) (by kernel_rfl) (by kernel_rfl)
    obtain ⟨ad2, g2, el2, _⟩ := elt_at (P := Try.prog) (k := .i64) (t := 22) (hy.call hA.below) hv (e := 2) (by kernel_rfl) (by kernel_rfl)
    refine ⟨ad, g1, _, el.one (by kernel_rfl) (by simp), ad2, g2, _, el2.one (by kernel_rfl) (by simp), brN (fun hne => ?_) (fun huv => ?_)⟩
    · exact go_below0 hA fun w9 hA => leaf h hA (by rw [decide_eq_false (fun e => by rw [e, hv] at hu; cases hu; exact hne rfl)])
    · refine go_below0 hA fun w9 hA => ?_
      rw [succ_i64 k (by omega)]
      refine ⟨⟨k + 1, rfl, by omega, hA, fun q hq => ?_⟩, by simp only; omega⟩
      by_cases hqk : q = k
      · subst hqk
        rw [hu, hv, huv]
      · exact hall q (by omega)
  · rw [decide_eq_true]
    refine List.ext_getElem? fun q => ?_
    by_cases hq : q < k
    · exact hall q hq
    · rw [List.getElem?_eq_none (by omega), List.getElem?_eq_none (by omega)]

/-- What popping leaves. -/
def PopP (l pl : List It) (st : Int) (l' pl' : List It) (st' : Int) : Prop :=
  match l[0]? with
  | some x => DropP x.1 l st l' pl' st'
  | none => l' = l ∧ pl' = pl ∧ st' = st
theorem c11 (I : Inv l pl st) (H : HpR W (fpH g a r) [] W g a c r l pl st) :
    RetF Try.prog 11 #[hpV g] W (fpH g a r) (fun v W' => v = peekV l ∧ ∃ l' pl' st', PopP l pl st l' pl' st' ∧ HpPost W g a r W' l' pl' st') := by
  intro R h
  refine f11_calls _ W R ?_
  unfold f11_vc
  have hA : AtF W (fpH g a r) [] W := AtF.refl W _
  cases hx : l[0]? with
  | none =>
    have e : peekV l = .tuple #[.int .i64 0, .int .i64 0, .bool false] := by unfold peekV; rw [hx]
    refine at_callb hA (c18 H) fun w2 hA _ hb => ⟨_, _, _, by rw [e], brB (fun e => by cases e) (fun _ => ?_)⟩
    rw [← e]
    exact leafF h hA ⟨rfl, l, pl, st, by unfold PopP; rw [hx]; exact ⟨rfl, rfl, rfl⟩, a, c, H.call hb⟩
  | some x =>
    have e : peekV l = .tuple #[.int .i64 x.1, .int .i64 x.2, .bool true] := by unfold peekV; rw [hx]
    refine at_callb hA (c18 H) fun w2 hA _ hb => ⟨_, _, _, by rw [e], brB (fun _ => ?_) (fun e => by cases e)⟩
    have H := H.call hb
    refine at_hp hA H (c14 x.1 I H.entry) fun a1 c1 l1 pl1 st1 w1 hA _ _ hΦ H1 _ => ⟨_, rfl, ?_⟩
    rw [← e]
    exact leafF h hA ⟨rfl, l1, pl1, st1, by unfold PopP; rw [hx]; exact hΦ, a1, c1, H1⟩

/-- What falling due leaves. -/
structure DueP (now : Int) (l : List It) (st : Int) (d : List It) (l' pl' : List It) (st' : Int) : Prop where
  heap : Heap l'
  pl : PlOk l' pl'
  len : l'.length + d.length ≤ l.length
  srt : d.Pairwise ahead
  due : ∀ y, y ∈ d ↔ y ∈ l ∧ y.2 ≤ now
  rest : ∀ y, y ∈ l' ↔ y ∈ l ∧ ¬ y.2 ≤ now
  st0 : st ≤ st'
  st1 : st' ≤ st + (d.length : Int) * (2 * lev (l.length - 1) : Nat)

theorem c15 (now : Int) (I : Inv l pl st) (hl : l.length ≤ 1000) (hst : st < 1152921504606846976) (H : HpR W (fpH g a r) [] W g a c r l pl st) :
    RetF Try.prog 15 #[hpV g, .int .i64 now] W (fpH g a r) (fun v W' => ∃ d : List It, OwnF W (fpH g a r) [] W' 2 1 inE v (d.map (·.1)) ∧ ∃ l' pl' st', DueP now l st d l' pl' st' ∧ HpPost W g a r W' l' pl' st') := by
  intro R h
  refine f15_calls _ _ W R ?_
  unfold f15_vc
  have hA : AtF W (fpH g a r) [] W := AtF.refl W _
  have i2 := I.st0
  have hlev := lev_le (l.length - 1)
  have hpk : ∀ l : List It, ∃ x y b, peekV l = .tuple #[.int .i64 x, .int .i64 y, .bool b] := fun l => by
    unfold peekV
    split
    · exact ⟨_, _, _, rfl⟩
    · exact ⟨_, _, _, rfl⟩
  obtain ⟨x3, x4, b5, e0⟩ := hpk l
  refine at_callb hA (c18 H) fun w2 hA _ hb => ⟨_, _, _, by rw [e0], ?_⟩
  have H := H.call hb
  refine ⟨fun v W' => AtF W (fpH g a r) [] W' ∧ ∃ (d : List It) (a' : Option Addr) (c' : Nat) (lc plc : List It) (sc : Int), OwnF W (fpH g a r) [] W' 2 1 inE (.slice v.1.1 v.1.2.1 v.1.2.2) (d.map (·.1)) ∧ HpR W (fpH g a r) [] W' g a' c' r lc plc sc ∧ Heap lc ∧ PlOk lc plc ∧ lc.length + d.length ≤ l.length ∧ d.Pairwise ahead ∧ (∀ y ∈ d, y.2 ≤ now) ∧ (∀ y, y ∈ l ↔ y ∈ lc ∨ y ∈ d) ∧ (∀ x ∈ d, ∀ y ∈ lc, ahead x y) ∧ st ≤ sc ∧ sc ≤ st + (d.length : Int) * (2 * lev (l.length - 1) : Nat) ∧ peekV lc = .tuple #[.int .i64 v.2.1, .int .i64 v.2.2.1, .bool v.2.2.2.1], fun v _ => l.length - v.1.2.1, ⟨hA, [], a, c, l, pl, st, OwnF.nil, H, I.heap, I.pl, by simp, by simp, by simp, by simp, by simp, by omega, by simp, e0⟩, ?_⟩
  rintro a8 n9 n10 x11 x12 b13 w14 ⟨hA, d, a', c', lc, plc, sc, ho, H, hH, hP, hlen, hsr, hdn, hmem, hdl, h0, h1, hpk2⟩
  simp only at ho hpk2
  obtain ⟨_, _, hv, _⟩ := ho.slice (fun _ _ => rfl)
  cases hv
  rw [List.length_map] at *
  have hmul : d.length * (2 * lev (l.length - 1)) ≤ 1000 * 2000 := Nat.mul_le_mul (by omega) (by omega)
  have hcast : (d.length : Int) * ((2 * lev (l.length - 1) : Nat) : Int) = ((d.length * (2 * lev (l.length - 1)) : Nat) : Int) := (Int.natCast_mul _ _).symm
  have done : (∀ y ∈ lc, ¬ y.2 ≤ now) → R (.returned (.slice a8 d.length n10)) w14 := fun hno => by
    refine leafF h hA ⟨d, ho, lc, plc, sc, ⟨hH, hP, hlen, hsr, fun y => ⟨fun hy => ⟨(hmem y).2 (.inr hy), hdn y hy⟩, fun hy => ((hmem y).1 hy.1).resolve_left fun e => hno y e hy.2⟩, fun y => ⟨fun hy => ⟨(hmem y).2 (.inl hy), hno y hy⟩, fun hy => ((hmem y).1 hy.1).resolve_right fun e => hy.2 (hdn y e)⟩, h0, h1⟩, a', c', H⟩
  cases hx : lc[0]? with
  | none =>
    have : lc = [] := List.eq_nil_of_length_eq_zero (by have := List.getElem?_eq_none_iff.1 hx; omega)
    have e : peekV lc = .tuple #[.int .i64 0, .int .i64 0, .bool false] := by unfold peekV; rw [hx]
    rw [e] at hpk2
    cases hpk2
    exact brB (fun e => by cases e) (fun _ => done (by rw [this]; simp))
  | some x =>
    have e : peekV lc = .tuple #[.int .i64 x.1, .int .i64 x.2, .bool true] := by unfold peekV; rw [hx]
    rw [e] at hpk2
    cases hpk2
    have hxm : x ∈ lc := List.mem_of_getElem? hx
    have hlc := (List.getElem?_eq_some_iff.1 hx).1
    have top := heap_top hH hx
    refine brB (fun _ => brD (fun hle => ?_) (fun hgt => done fun y hy hyn => ?_)) (fun e => by cases e)
    · have dis : ∀ {W' : World} {a8 : Option Addr} {n c1 c2 : Nat} {a' : Option Addr} {lc plc : List It} {sc : Int} {d : List Int}, OwnF W (fpH g a r) [] W' 2 1 inE (.slice a8 n c1) d → HpR W (fpH g a r) [] W' g a' c2 r lc plc sc → ∀ k, (Value.slice a8 n c1).ownBlock = some k → ¬ fpH g a' r k := by
        intro W' a8 n c1 c2 a' lc plc sc d ho H k hk hf
        obtain ⟨cur, hc⟩ := ho.blk hk
        rcases hf with rfl | rfl | hb
        · exact cells_ne hc H.blk (by decide) rfl
        · obtain ⟨es, cl, hr, _⟩ := H.map.obj
          exact cells_map hc hr rfl
        · obtain ⟨cur2, hc2⟩ := H.items.blk (k := k) (by rw [← hb]; exact ownB)
          exact cells_ne hc hc2 (by decide) rfl
      refine opw_push0 (e' := 2) (bytes := 8) hA ho x.1 (by kernel_rfl) (by kernel_rfl) rfl (fun _ _ => rfl) (by simp [Value.oneCell']) (by rw [List.length_map]; omega) (by decide) fun a2 c2 w21 hA ho2 hg _ => ?_
      have H : HpR W (fpH g a r) [] w21 g a' c' r lc plc sc := H.keep fun b hb => hg.block b (H.lt b hb) fun e => dis ho H b e.symm hb
      refine at_hp hA H (c14 x.1 ⟨hH, hP, by omega, by omega, by omega⟩ H.entry) fun a3 c3 l3 pl3 st3 w26 hA _ hch hΦ H3 _ => ⟨_, rfl, ?_⟩
      have ho2 := ho2.chg hch (dis ho2 H)
      obtain ⟨x30, x31, b32, e3⟩ := hpk l3
      refine at_callb hA (c18 H3.entry) fun w29 hA _ hb => ⟨_, _, _, by rw [e3], ?_⟩
      obtain ⟨q1, q2, q3, q4, q5, q6, q7⟩ := hΦ
      have q7 := q7 ⟨x, hxm, rfl⟩
      have hlv := lev_mono (l.length - 1) (lc.length - 1) (by omega)
      have el : (List.map (·.1) d ++ [x.1]) = (d ++ [x]).map (·.1) := by simp
      rw [el] at ho2 ⊢
      refine ⟨⟨hA, d ++ [x], a3, c3, l3, pl3, st3, ho2.call hb, H3.call hb, q1, q2, by simp; omega, ?_, ?_, fun y => ?_, ?_, by omega, ?_, e3⟩, by simp; omega⟩
      · rw [List.pairwise_append]
        exact ⟨hsr, by simp, fun u hu v hv => by simp at hv; subst hv; exact hdl u hu v hxm⟩
      · intro y hy
        rcases List.mem_append.1 hy with hy | hy
        · exact hdn y hy
        · simp at hy; subst hy; exact hle
      · rw [hmem y, q4 y]
        constructor
        · rintro (hy | hy)
          · by_cases hyx : y.1 = x.1
            · have := hP.uniq hy hxm hyx
              subst this
              exact .inr (by simp)
            · exact .inl ⟨hy, hyx⟩
          · exact .inr (by simp [hy])
        · rintro (hy | hy)
          · exact .inl hy.1
          · rcases List.mem_append.1 hy with hy | hy
            · exact .inr hy
            · simp at hy; subst hy; exact .inl hxm
      · intro u hu y hy
        obtain ⟨hy1, hy2⟩ := (q4 y).1 hy
        rcases List.mem_append.1 hu with hu | hu
        · exact hdl u hu y hy1
        · simp at hu
          subst hu
          obtain ⟨q, hq⟩ := List.mem_iff_getElem?.1 hy1
          exact ahead_of_le (top q y hq) (Ne.symm hy2)
      · rw [List.length_append, List.length_singleton]
        have : ((d.length + 1 : Nat) : Int) * ((2 * lev (l.length - 1) : Nat) : Int) = (d.length : Int) * ((2 * lev (l.length - 1) : Nat) : Int) + ((2 * lev (l.length - 1) : Nat) : Int) := by
          rw [Int.natCast_add, Int.add_mul]; simp
        rw [this]
        omega
    · obtain ⟨q, hq⟩ := List.mem_iff_getElem?.1 hy
      have := top q y hq
      unfold le ahead at this
      omega
end Go.Vc.H
