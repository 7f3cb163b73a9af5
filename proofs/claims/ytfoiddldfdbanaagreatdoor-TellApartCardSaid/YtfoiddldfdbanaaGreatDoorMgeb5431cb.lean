/- Own texts of this claim, laid together: ZvX6, ZvX7, ZvX8, ZvX9, ZvX10, ZvX11, ZdF3, ZQD1, VcDec, ZQE1, ZQE2, ZQE3, ZdQShelf, ZQE4, ZQG1a, ZQG1b, VcStr2, ZQG3, ZQPl, ZQG9. -/
import Derived.Test.YtfoiddldfdbanaaGreatDoorMgc733affb
import Derived.Test.YtfoiddldfdbanaaGreatDoorProg
import Derived.Shelf.Strings.OnBuilder
import Derived.Shelf.LaysM
import Derived.Shelf.Strconv.Itoa4

/- book.Right's parts: numbers, config, agents, holders, tasks, filters. -/
set_option maxRecDepth 20000
set_option maxHeartbeats 1000000
namespace Go.Vc.ZW
open Go Go.Vc Go.Vc.V Go.RowKit Go.Proofs Vcqz Vcqz

variable {w W W' : World} {M : Nat → Prop} {gs : List Nat}

/-- A bool comes back; where it is true, F holds. -/
abbrev RetBool (fn : FuncId) (args : Array Value) (W : World) : Prop := RetQ Tryz.prog fn args W fun v _ => ∃ b, v = .bool b
abbrev BkA.cfg (b : BkA) : Value := .agg #[.int .i64 b.cc0, .int .i64 b.cc1, .int .i64 b.cc2, .int .i64 b.cc3, .int .i64 b.cc4, .int .i64 b.cc5, .int .i64 b.cc6, .int .i64 b.cc7, .int .i64 b.cq8]
abbrev RetB (fn : FuncId) (args : Array Value) (W : World) (F : Prop) : Prop := RetQ Tryz.prog fn args W fun v _ => ∃ b, v = .bool b ∧ (b = true → F)
theorem take_all {α : Type} {P : α → Prop} {l : List α} {i : Nat} {p : α} (hp : l[i]? = some p) (h : ∀ x ∈ l.take i, P x) (hP : P p) : ∀ x ∈ l.take (i + 1), P x := by
  intro x hx
  rw [List.take_add_one, hp, List.mem_append] at hx
  rcases hx with hx | hx
  · exact h x hx
  · simp only [Option.toList_some, List.mem_singleton] at hx
    rw [hx]
    exact hP
theorem take_pw {α : Type} {R : α → α → Prop} {l : List α} {i : Nat} {p : α} (ht : ∀ x y z, R x y → R y z → R x z) (hp : l[i]? = some p) (h : (l.take i).Pairwise R) (hR : ∀ q, 0 < i → l[i - 1]? = some q → R q p) : (l.take (i + 1)).Pairwise R := by
  rw [List.take_add_one, hp, Option.toList_some, List.pairwise_append]
  refine ⟨h, List.pairwise_singleton .., fun x hx y hy => ?_⟩
  rw [List.mem_singleton] at hy
  subst hy
  cases i with
  | zero => simp at hx
  | succ k =>
    have hk : k < l.length := by have := (List.getElem?_eq_some_iff.1 hp).1; omega
    have hq : l[k]? = some l[k] := List.getElem?_eq_getElem hk
    have hR := hR l[k] (by omega) hq
    rw [List.take_add_one, hq, Option.toList_some, List.pairwise_append] at h
    rw [List.take_add_one, hq, Option.toList_some, List.mem_append, List.mem_singleton] at hx
    rcases hx with hx | rfl
    · exact ht _ _ _ (h.2.2 x hx _ (List.mem_singleton.2 rfl)) hR
    · exact hR

theorem c63 (n lo hi : Int) (w : World) : Ret Tryz.prog 63 #[.int .i64 n, .int .i64 lo, .int .i64 hi] w (.bool (decide (lo ≤ n ∧ n ≤ hi))) := by
  intro R h
  refine f63_calls n lo hi w R ?_
  unfold f63_vc
  refine brD (fun h1 => leaf h (At.refl w) ?_) (fun h1 => leaf h (At.refl w) ?_)
  · refine congrArg (fun x => Ending.returned (Value.bool x)) (decide_eq_decide.2 ?_)
    constructor <;> intro h2 <;> omega
  · rw [decide_eq_false (by omega)]
theorem c39 (n : Int) (w : World) : Ret Tryz.prog 39 #[.int .i64 n] w (.bool (decide (1 ≤ n ∧ n ≤ 9007199254740992))) := by
  intro R h
  refine f39_calls n w R ?_
  unfold f39_vc
  refine brD (fun h1 => leaf h (At.refl w) ?_) (fun h1 => leaf h (At.refl w) ?_)
  · refine congrArg (fun x => Ending.returned (Value.bool x)) (decide_eq_decide.2 ?_)
    constructor <;> intro h2 <;> omega
  · rw [decide_eq_false (by omega)]
theorem gives_ix4 {cc0 cc1 cc2 cc3 y : Int} {k : Nat} (hy : [cc0, cc1, cc2, cc3][k]? = some y) : Gives Tryz.prog (Instr.index 22 (.agg #[.int .i64 cc0, .int .i64 cc1, .int .i64 cc2, .int .i64 cc3]) (.int .i64 (k : Int))) (.int .i64 y) := by
  have hk : k = 0 ∨ k = 1 ∨ k = 2 ∨ k = 3 := by have := (List.getElem?_eq_some_iff.1 hy).1; simp at this; omega
  rcases hk with rfl | rfl | rfl | rfl <;> (simp at hy; subst hy; intro W; kernel_rfl)
theorem c38 (b : BkA) (w : World) : RetQ Tryz.prog 38 #[b.cfg] w fun v _ => ∃ n, v = .int .i64 n := by
  intro R h
  refine f38_calls _ _ _ _ _ _ _ _ _ w R ?_
  unfold f38_vc
  have out : ∀ (x : Int) {gs w'}, At w gs w' → R (.returned (.int .i64 x)) w' := fun x _ w' hA => h _ _ hA.below ⟨x, rfl⟩
  intro n1 hn1
  refine ⟨fun v W' => At w [n1] W' ∧ ∃ k : Nat, v.1 = k ∧ k ≤ 4, fun v _ => ((4 : Int) - v.1).toNat, ⟨fun w4 hb4 hu => ⟨⟨((At.refl w).call hb4).chg, hu⟩, 0, rfl, Nat.zero_le _⟩, ?_⟩⟩
  rintro x5 w6 ⟨hA, k, hk, hk4⟩
  simp only at hk
  subst hk
  refine brD (fun hlt => ?_) (fun _ => ?_)
  · obtain ⟨y, hy⟩ : ∃ y, [b.cc5, b.cc6, b.cc7, b.cq8][k]? = some y := ⟨_, List.getElem?_eq_getElem (by simp; omega)⟩
    refine ⟨y, gives_ix4 hy, at_callb hA (c63 _ _ _ w6) fun w9 hA hk hb => ⟨_, rfl, hk, brNB (fun hn => out _ hA) (fun hin => ?_)⟩⟩
    rw [succ_i k (by omega)]
    exact ⟨⟨hA, k + 1, rfl, by omega⟩, by simp only; omega⟩
  · refine at_callb hA (c63 _ _ _ w6) fun w12 hA hk hb => ⟨_, rfl, hk, brNB (fun _ => out _ hA) (fun _ => ?_)⟩
    refine at_callb hA (c63 _ _ _ w12) fun w15 hA hk hb => ⟨_, rfl, hk, brNB (fun _ => out _ hA) (fun _ => ?_)⟩
    refine at_callb hA (c63 _ _ _ w15) fun w18 hA hk hb => ⟨_, rfl, hk, brNB (fun _ => out _ hA) (fun _ => ?_)⟩
    refine at_callb hA (c63 _ _ _ w18) fun w21 hA hk hb => ⟨_, rfl, hk, brNB (fun _ => out _ hA) (fun _ => ?_)⟩
    exact at_callb hA (c63 _ _ _ w21) fun w24 hA hk hb => ⟨_, rfl, hk, brNB (fun _ => out _ hA) (fun _ => out _ hA)⟩
theorem c9 (b : BkA) (w : World) : RetBool 9 #[b.v] w := by
  intro R h
  refine f9_calls _ _ _ _ _ _ _ _ _ _ _ _ _ _ _ _ _ _ _ _ _ _ _ _ _ _ w R ?_
  unfold f9_vc
  have out : ∀ (x : Bool) {gs w'}, At w gs w' → R (.returned (.bool x)) w' := fun x _ w' hA => h _ _ hA.below ⟨x, rfl⟩
  intro n1 hn1 n2 hn2 w3 hev hu
  have hA := (At.refl w).evo (gs' := [n1, n2]) (by simp; omega) hev hu
  refine at_callq hA (c38 b w3) fun v w5 hA hk _ ⟨n, e⟩ => ?_
  subst e
  exact ⟨_, rfl, hk, brE (fun _ => brD (fun _ => brD (fun _ => brD (fun _ => out _ hA) (fun _ => out _ hA)) (fun _ => out _ hA)) (fun _ => out _ hA)) (fun _ => out _ hA)⟩
end Go.Vc.ZW

/- book.Right's parts: agents, holders, tasks, filters. -/
set_option maxRecDepth 20000
set_option maxHeartbeats 1000000
namespace Go.Vc.ZW
open Go Go.Vc Go.Vc.V Go.RowKit Go.Proofs Vcqz Vcqz

variable {w W W' : World} {M : Nat → Prop} {gs : List Nat}

abbrev agOk (l : List AgT) : Prop := l.Pairwise (fun x y => x.1 < y.1) ∧ ∀ a ∈ l, vecB a.2.1 = true ∧ vecB a.2.2 = true
theorem agOk_step {l : List AgT} {i : Nat} {p : AgT} (hp : l[i]? = some p) (h : agOk (l.take i)) (hv : vecB p.2.1 = true ∧ vecB p.2.2 = true) (hR : ∀ q, 0 < i → l[i - 1]? = some q → q.1 < p.1) : agOk (l.take (i + 1)) :=
  ⟨take_pw (fun _ _ _ => Int.lt_trans) hp h.1 hR, take_all hp h.2 hv⟩
theorem c11 {b : BkA} {d : BkD} (w : World) (hb : Bk w b d) : RetB 11 #[b.v] w (agOk d.ags) := by
  intro R h
  refine f11_calls _ _ _ _ _ _ _ _ _ _ _ _ _ _ _ _ _ _ _ _ _ _ _ _ _ _ w R ?_
  unfold f11_vc
  have hn := hb.ag.len_le
  have out : ∀ {gs w'}, At w gs w' → R (.returned (.bool false)) w' := fun hA => h _ _ hA.below ⟨_, rfl, fun e => by cases e⟩
  intro n1 hn1
  refine ⟨fun v W' => At w [n1] W' ∧ ∃ i : Nat, v.1 = i ∧ i ≤ d.ags.length ∧ agOk (d.ags.take i), fun v _ => (b.a.2.1 - v.1).toNat, ⟨fun w4 hb4 hu => ⟨⟨((At.refl w).call hb4).chg, hu⟩, 0, rfl, Nat.zero_le _, by simp [agOk]⟩, ?_⟩⟩
  rintro x5 w6 ⟨hA, i, hi, hil, hok⟩
  simp only at hi
  subst hi
  refine brD (fun hlt => ?_) (fun hge => h _ _ hA.below ⟨_, rfl, fun _ => ?_⟩)
  · obtain ⟨p, hp⟩ : ∃ x, d.ags[i]? = some x := ⟨_, List.getElem?_eq_getElem (by omega)⟩
    obtain ⟨ad, cs, g1, el, a1, m1, cc1, a2, m2, cc2, rfl, s1, s2⟩ := rel_at (t := 26) (hb.call hA.below).ag hp (e := 45) (by kernel_rfl) (by kernel_rfl)
    refine ⟨ad, g1, _, _, _, _, _, _, _, el.agg 3 (by kernel_rfl) (by kernel_rfl) (by simp) (by simp), ?_⟩
    intro n15 hn15 w16 hev hun
    have hsz := hA.size
    have hb6 := hev.bel (by intro x hx; simp at hx; omega)
    have hA := hA.evo (by intro x hx; simp at hx; omega) hev hun
    have s1 := s1.call hb6
    have s2 := s2.call hb6
    refine at_callb hA (c39 p.1 w16) fun w18 hA hk hb18 => ⟨_, rfl, hk, brNB (fun _ => out hA) (fun _ => brD (fun hpos => ?_) (fun hpos => ?_))⟩
    · obtain ⟨q, hq⟩ : ∃ x, d.ags[i - 1]? = some x := ⟨_, List.getElem?_eq_getElem (by omega)⟩
      obtain ⟨ad2, cs2, g2, el2, _, _, _, _, _, _, rfl, _, _⟩ := rel_at (t := 26) (hb.call hA.below).ag hq (e := 45) (by kernel_rfl) (by kernel_rfl)
      rw [prev_i (by omega) (by omega)]
      have rq : ∀ {W'}, Bel w18 W' → Reads Tryz.prog [] (Instr.loadAt 2 (.pointer (some ad2))) W' (.int .i64 q.1) := fun hb => (el2.below hb).one (by kernel_rfl) (by simp)
      refine ⟨ad2, g2, _, rq (At.refl w18).below, brD (fun _ => out hA) (fun hlt2 => brE (fun _ => out hA) (fun _ => ?_))⟩
      refine at_callb hA (c40 w18 (s1.call hb18)) fun w23 hA hk hb23 => ⟨_, rfl, hk, rq hb23, brNB (fun _ => out hA) (fun hv1 => ?_)⟩
      refine at_callb hA (c40 w23 ((s2.call hb18).call hb23)) fun w26 hA hk hb26 => ⟨_, rfl, hk, rq (hb23.trans hb26), brNB (fun _ => out hA) (fun hv2 => ?_)⟩
      rw [succ_i i (by omega)]
      refine ⟨⟨hA.sub (by simp), i + 1, rfl, by omega, agOk_step hp hok ⟨hv1, hv2⟩ fun q' _ hq' => ?_⟩, by simp only; omega⟩
      rw [hq] at hq'
      cases hq'
      omega
    · refine brE (fun _ => out hA) (fun _ => ?_)
      refine at_callb hA (c40 w18 (s1.call hb18)) fun w29 hA hk hb29 => ⟨_, rfl, hk, brNB (fun _ => out hA) (fun hv1 => ?_)⟩
      refine at_callb hA (c40 w29 ((s2.call hb18).call hb29)) fun w32 hA hk hb32 => ⟨_, rfl, hk, brNB (fun _ => out hA) (fun hv2 => ?_)⟩
      rw [succ_i i (by omega)]
      exact ⟨⟨hA.sub (by simp), i + 1, rfl, by omega, agOk_step hp hok ⟨hv1, hv2⟩ fun q' h0 _ => absurd h0 (by omega)⟩, by simp only; omega⟩
  · rw [show i = d.ags.length by omega, List.take_length] at hok
    exact hok

theorem c44 {b : BkA} {d : BkD} {v : List PartT} {a : Option Addr} {n c : Nat} (frame agent : Int) (w : World) (hb : Bk w b d) (hv : SlE w 3 partE v a n c) : RetQ Tryz.prog 44 #[b.v, .int .i64 frame, .int .i64 agent, .slice a n c] w fun u _ => ∃ f x, u = .tuple #[.agg (frE f).toArray, .bool x] ∧ (x = true → vecB v = true) := by
  intro R h
  refine f44_calls _ _ _ _ _ _ _ _ _ _ _ _ _ _ _ _ _ _ _ _ _ _ _ _ _ _ frame agent a n c w R ?_
  unfold f44_vc
  have out : ∀ {gs w'}, At w gs w' → R (.returned (.tuple #[.agg #[.int .i64 0, .int .i64 0, .int .i64 0, .bool false, .bool false, .int .i64 0, .int .i64 0], .bool false])) w' := fun hA => h _ _ hA.below ⟨(0, 0, 0, false, false, 0, 0), false, rfl, fun e => by cases e⟩
  intro n1 hn1 n2 hn2 w3 hb3 hu3
  have hA : At w [n1, n2] w3 := ⟨((At.refl w).call hb3).chg, hu3⟩
  have ev : ∀ {W : World}, At w [n1, n2] W → ∀ {W'}, Evo [n2] W W' → Under [n1, n2] W' → At w [n1, n2] W' := fun hA _ he hu => hA.evo (gs' := [n1, n2]) (by simp; omega) he hu
  refine at_callb hA (c47 frame w3 (hb.call hA.below)) fun w5 hA hk hb5 => ⟨_, rfl, hk, brD (fun _ w7 he hu => out (ev hA he hu)) (fun hix => ?_)⟩
  refine at_callb hA (c48 agent w5 (hb.call hA.below)) fun w9 hA hk hb9 => ⟨_, rfl, hk, brD (fun _ w7 he hu => out (ev hA he hu)) (fun hix2 => brE (fun _ w12 he hu => out (ev hA he hu)) (fun _ => ?_))⟩
  refine at_callb hA (c40 w9 (hv.call hA.below)) fun w14 hA hk hb14 => ⟨_, rfl, hk, brNB (fun _ w16 he hu => out (ev hA he hu)) (fun hvv => ?_)⟩
  obtain ⟨ad, f, g1, el, er⟩ := frame_at2 (hb.call hA.below) hix
  refine ⟨ad, g1, _, _, _, _, _, _, _, el.agg 7 (by kernel_rfl) (by kernel_rfl) (by simp) (by simp), fun n25 hn25 w26 he26 hu26 => ?_⟩
  have hsz := hA.size
  have hA := hA.evo (gs' := [n1, n2, n25]) (by simp; omega) he26 hu26
  refine opw_litL (e' := 3) (f := fun x => [Value.int .i64 x]) (size := 1) (l := [0, f.2.1]) hA rfl (fun _ _ => rfl) (by decide) (by kernel_rfl) fun g w28 _ hA hk _ ho => ⟨_, _, _, rfl, hk, ?_⟩
  refine at_calll hA (c69 w28 (hv.call hA.below) (ho.sl fun _ _ => rfl)) (fun _ _ => rfl) fun a' c' w33 hA hk _ ho' _ => ⟨_, _, _, rfl, hk, fun w37 he hu => ?_⟩
  have hA := hA.evo (gs' := [n1, n2, n25]) (by simp; omega) he hu
  exact h _ _ hA.below ⟨f, _, rfl, fun _ => hvv⟩

theorem c14 {b : BkA} {d : BkD} (w : World) (hb : Bk w b d) : RetB 14 #[b.v] w (∀ t ∈ d.tks, vecB t.2.2.2 = true) := by
  intro R h
  refine f14_calls _ _ _ _ _ _ _ _ _ _ _ _ _ _ _ _ _ _ _ _ _ _ _ _ _ _ w R ?_
  unfold f14_vc
  have hn := hb.tk.len_le
  have out : ∀ {gs w'}, At w gs w' → R (.returned (.bool false)) w' := fun hA => h _ _ hA.below ⟨_, rfl, fun e => by cases e⟩
  intro n1 hn1
  refine ⟨fun v W' => At w [n1] W' ∧ ∃ i : Nat, v.1 = i ∧ i ≤ d.tks.length ∧ ∀ t ∈ d.tks.take i, vecB t.2.2.2 = true, fun v _ => (b.t.2.1 - v.1).toNat, ⟨fun w4 hb4 hu => ⟨⟨((At.refl w).call hb4).chg, hu⟩, 0, rfl, Nat.zero_le _, by simp⟩, ?_⟩⟩
  rintro x5 w6 ⟨hA, i, hi, hil, hok⟩
  simp only at hi
  subst hi
  refine brD (fun hlt => ?_) (fun hge => h _ _ hA.below ⟨_, rfl, fun _ => ?_⟩)
  · obtain ⟨p, hp⟩ : ∃ x, d.tks[i]? = some x := ⟨_, List.getElem?_eq_getElem (by omega)⟩
    obtain ⟨ad, cs, g1, el, a1, m1, cc1, rfl, s1⟩ := rel_at (t := 28) (hb.call hA.below).tk hp (e := 49) (by kernel_rfl) (by kernel_rfl)
    refine ⟨ad, g1, _, _, _, _, _, _, el.agg 4 (by kernel_rfl) (by kernel_rfl) (by simp) (by simp), ?_⟩
    intro n14 hn14 w15 hev hun
    have hsz := hA.size
    have hb6 := hev.bel (by intro x hx; simp at hx; omega)
    have hA := hA.evo (by intro x hx; simp at hx; omega) hev hun
    have s1 := s1.call hb6
    refine at_callq hA (c44 p.1 p.2.2.1 w15 (hb.call hA.below) s1) fun v w17 hA hk hb17 ⟨f, x, e, hx⟩ => ?_
    subst e
    refine ⟨_, _, _, _, _, _, _, _, rfl, hk, fun n26 hn26 => ?_⟩
    have hsz := hA.size
    refine brNB (fun _ w27 he hu => out (hA.evo (gs' := [n1, n14, n26]) (by simp; omega) he hu)) (fun hxx w28 he hu => ?_)
    have hb28 := he.bel (by intro x hx; simp at hx; omega)
    have hA := hA.evo (gs' := [n1, n14, n26]) (by simp; omega) he hu
    have hok' := take_all hp hok (hx hxx)
    have go : ∀ {gs w'}, At w gs w' → n1 ∈ gs → (At w [n1] w' ∧ ∃ j : Nat, IntKind.i64.wrap ((i : Int) + 1) = j ∧ j ≤ d.tks.length ∧ ∀ t ∈ d.tks.take j, vecB t.2.2.2 = true) ∧ (b.t.2.1 - IntKind.i64.wrap ((i : Int) + 1)).toNat < (b.t.2.1 - (i : Int)).toNat := fun hA hg => by
      rw [succ_i i (by omega)]
      exact ⟨⟨hA.sub (by simpa using hg), i + 1, rfl, by omega, hok'⟩, by omega⟩
    refine at_callb hA (c39 p.2.1 w28) fun w30 hA hk hb30 => ⟨_, rfl, hk, brNB (fun _ => out hA) (fun _ => brD (fun hpos => ?_) (fun hpos w51 hb51 hu51 => go (hA.call hb51) (by simp)))⟩
    obtain ⟨q, hq⟩ : ∃ x, d.tks[i - 1]? = some x := ⟨_, List.getElem?_eq_getElem (by omega)⟩
    obtain ⟨ad2, cs2, g2, el2, _, _, _, rfl, _⟩ := rel_at (t := 28) (hb.call hA.below).tk hq (e := 49) (by kernel_rfl) (by kernel_rfl)
    rw [prev_i (by omega) (by omega)]
    have rq : ∀ {W'}, Bel w30 W' → Reads Tryz.prog [] (Instr.loadAt 2 (.pointer (some ⟨ad2.block, ad2.off + 1, none⟩))) W' (.int .i64 q.2.1) := fun hb => ((el2.below hb).sub (o := 1) (by decide)).one (by kernel_rfl) (by simp)
    refine ⟨ad2, g2, _, el2.one (by kernel_rfl) (by simp), ad2, g2, _, rq (At.refl w30).below, fun w36 hb36 hu36 => ?_⟩
    have hA : At w [n1, n14, n26] w36 := ⟨(hA.call hb36).chg, hu36⟩
    refine at_callb hA (c46 _ _ w36) fun w38 hA hk hb38 => ⟨_, rfl, hk, rq (hb36.trans hb38), ?_⟩
    refine at_callb hA (c46 _ _ w38) fun w41 hA hk hb41 => ⟨_, rfl, hk, ?_⟩
    refine opw_litL (e' := 3) (f := fun x => [Value.int .i64 x]) (size := 1) (l := [sg q.1 p.1, sg q.2.1 p.2.1]) hA rfl (fun _ _ => rfl) (by decide) (by kernel_rfl) fun g w44 _ hA hk _ ho => ⟨_, _, _, rfl, hk, ?_⟩
    exact at_callb hA (c45 w44 (ho.sl fun _ _ => rfl) (by simp)) fun w49 hA hk _ => ⟨_, rfl, hk, brD (fun _ => out hA) (fun _ => go hA (by simp))⟩
  · rw [show i = d.tks.length by omega, List.take_length] at hok
    exact hok

theorem c15 {b : BkA} {d : BkD} (w : World) (hb : Bk w b d) : RetB 15 #[b.v] w (∀ t ∈ d.fls, vecB t.2.2.2 = true) := by
  intro R h
  refine f15_calls _ _ _ _ _ _ _ _ _ _ _ _ _ _ _ _ _ _ _ _ _ _ _ _ _ _ w R ?_
  unfold f15_vc
  have hn := hb.fl.len_le
  have out : ∀ {gs w'}, At w gs w' → R (.returned (.bool false)) w' := fun hA => h _ _ hA.below ⟨_, rfl, fun e => by cases e⟩
  intro n1 hn1
  refine ⟨fun v W' => At w [n1] W' ∧ ∃ i : Nat, v.1 = i ∧ i ≤ d.fls.length ∧ ∀ t ∈ d.fls.take i, vecB t.2.2.2 = true, fun v _ => (b.l.2.1 - v.1).toNat, ⟨fun w4 hb4 hu => ⟨⟨((At.refl w).call hb4).chg, hu⟩, 0, rfl, Nat.zero_le _, by simp⟩, ?_⟩⟩
  rintro x5 w6 ⟨hA, i, hi, hil, hok⟩
  simp only at hi
  subst hi
  refine brD (fun hlt => ?_) (fun hge => h _ _ hA.below ⟨_, rfl, fun _ => ?_⟩)
  · obtain ⟨p, hp⟩ : ∃ x, d.fls[i]? = some x := ⟨_, List.getElem?_eq_getElem (by omega)⟩
    obtain ⟨ad, cs, g1, el, a1, m1, cc1, rfl, s1⟩ := rel_at (t := 29) (hb.call hA.below).fl hp (e := 51) (by kernel_rfl) (by kernel_rfl)
    refine ⟨ad, g1, _, _, _, _, _, _, el.agg 4 (by kernel_rfl) (by kernel_rfl) (by simp) (by simp), ?_⟩
    intro n14 hn14 w15 hev hun
    have hsz := hA.size
    have hb6 := hev.bel (by intro x hx; simp at hx; omega)
    have hA := hA.evo (by intro x hx; simp at hx; omega) hev hun
    have s1 := s1.call hb6
    refine at_callb hA (c47 p.1 w15 (hb.call hA.below)) fun w17 hA hk hb17 => ⟨_, rfl, hk, brD (fun _ => out hA) (fun _ => ?_)⟩
    refine at_callb hA (c48 p.2.1 w17 (hb.call hA.below)) fun w20 hA hk hb20 => ⟨_, rfl, hk, brD (fun _ => out hA) (fun _ => brE (fun _ => out hA) (fun _ => ?_))⟩
    have s1 := (s1.call hb17).call hb20
    refine at_callb hA (c40 w20 s1) fun w23 hA hk hb23 => ⟨_, rfl, hk, brNB (fun _ => out hA) (fun hvv => brD (fun _ => out hA) (fun _ => brD (fun _ => out hA) (fun _ => ?_)))⟩
    have hok' := take_all hp hok hvv
    have go : ∀ {gs w'}, At w gs w' → n1 ∈ gs → (At w [n1] w' ∧ ∃ j : Nat, IntKind.i64.wrap ((i : Int) + 1) = j ∧ j ≤ d.fls.length ∧ ∀ t ∈ d.fls.take j, vecB t.2.2.2 = true) ∧ (b.l.2.1 - IntKind.i64.wrap ((i : Int) + 1)).toNat < (b.l.2.1 - (i : Int)).toNat := fun hA hg => by
      rw [succ_i i (by omega)]
      exact ⟨⟨hA.sub (by simpa using hg), i + 1, rfl, by omega, hok'⟩, by omega⟩
    refine brD (fun hpos => ?_) (fun _ w36 hb36 hu36 => go (hA.call hb36) (by simp))
    obtain ⟨q, hq⟩ : ∃ x, d.fls[i - 1]? = some x := ⟨_, List.getElem?_eq_getElem (by omega)⟩
    obtain ⟨ad2, cs2, g2, el2, a2, m2, cc2, rfl, s2⟩ := rel_at (t := 29) (hb.call hA.below).fl hq (e := 51) (by kernel_rfl) (by kernel_rfl)
    rw [prev_i (by omega) (by omega)]
    refine ⟨ad2, g2, _, _, _, _, _, _, el2.agg 4 (by kernel_rfl) (by kernel_rfl) (by simp) (by simp), fun w32 hb32 hu32 => ?_⟩
    have hA : At w [n1, n14] w32 := ⟨(hA.call hb32).chg, hu32⟩
    exact at_callb hA (c32 q p w32 (s2.call hb32) ((s1.call hb23).call hb32)) fun w34 hA hk _ => ⟨_, rfl, hk, brD (fun _ => out hA) (fun _ => go hA (by simp))⟩
  · rw [show i = d.fls.length by omega, List.take_length] at hok
    exact hok
end Go.Vc.ZW

/- book.Right's parts: offers and frames. -/
set_option maxRecDepth 20000
set_option maxHeartbeats 1000000
namespace Go.Vc.ZW
open Go Go.Vc Go.Vc.V Go.RowKit Go.Proofs Vcqz Vcqz Vcqz

variable {w W W' : World} {M : Nat → Prop} {gs : List Nat}

theorem c13 {b : BkA} {d : BkD} (w : World) (hb : Bk w b d) : RetB 13 #[b.v] w (∀ t ∈ d.ofs, vecB t.2.2.2.1 = true) := by
  intro R h
  refine Vcqz.f13_calls _ _ _ _ _ _ _ _ _ _ _ _ _ _ _ _ _ _ _ _ _ _ _ _ _ _ w R ?_
  unfold Vcqz.f13_vc
  have hn := hb.off.len_le
  have out : ∀ {gs w'}, At w gs w' → R (.returned (.bool false)) w' := fun hA => h _ _ hA.below ⟨_, rfl, fun e => by cases e⟩
  intro n1 hn1
  refine ⟨fun v W' => At w [n1] W' ∧ ∃ i : Nat, v.1 = i ∧ i ≤ d.ofs.length ∧ ∀ t ∈ d.ofs.take i, vecB t.2.2.2.1 = true, fun v _ => (b.o.2.1 - v.1).toNat, ⟨fun w4 hb4 hu => ⟨⟨((At.refl w).call hb4).chg, hu⟩, 0, rfl, Nat.zero_le _, by simp⟩, ?_⟩⟩
  rintro x5 w6 ⟨hA, i, hi, hil, hok⟩
  simp only at hi
  subst hi
  refine brD (fun hlt => ?_) (fun hge => h _ _ hA.below ⟨_, rfl, fun _ => ?_⟩)
  · obtain ⟨p, hp⟩ : ∃ x, d.ofs[i]? = some x := ⟨_, List.getElem?_eq_getElem (by omega)⟩
    obtain ⟨ad, cs, g1, el, a1, m1, cc1, rfl, s1⟩ := rel_at (t := 27) (hb.call hA.below).off hp (e := 47) (by kernel_rfl) (by kernel_rfl)
    refine ⟨ad, g1, _, _, _, _, _, _, _, el.agg 5 (by kernel_rfl) (by kernel_rfl) (by simp) (by simp), ?_⟩
    intro n15 hn15 w16 hev hun
    have hsz := hA.size
    have hb6 := hev.bel (by intro x hx; simp at hx; omega)
    have hA := hA.evo (by intro x hx; simp at hx; omega) hev hun
    have s1 := s1.call hb6
    refine at_callq hA (c44 p.2.1 p.2.2.1 w16 (hb.call hA.below) s1) fun v w18 hA hk hb18 ⟨f, x, e, hx⟩ => ?_
    subst e
    refine ⟨_, _, _, _, _, _, _, _, rfl, hk, fun n27 hn27 => ?_⟩
    have hsz := hA.size
    have ev : ∀ {W'}, Evo [n27] w18 W' → Under [n1, n15, n27] W' → At w [n1, n15, n27] W' := fun he hu => hA.evo (gs' := [n1, n15, n27]) (by simp; omega) he hu
    refine ⟨fun y W' => At w [n1, n15, n27] W' ∧ (y.1 = false → x = true), ?_, ?_⟩
    · refine brNB (fun _ w29 he hu => ⟨ev he hu, fun e => by cases e⟩) (fun hxx => brNB (fun _ w29 he hu => ⟨ev he hu, fun e => by cases e⟩) (fun _ => brD (fun _ w29 he hu => ⟨ev he hu, fun e => by cases e⟩) (fun _ => brD (fun _ w29 he hu => ⟨ev he hu, fun e => by cases e⟩) (fun _ => brD (fun hpos => ?_) (fun _ w29 he hu => ⟨ev he hu, fun _ => hxx⟩)))))
      obtain ⟨q, hq⟩ : ∃ x, d.ofs[i - 1]? = some x := ⟨_, List.getElem?_eq_getElem (by omega)⟩
      obtain ⟨ad2, cs2, g2, el2, _, _, _, rfl, _⟩ := rel_at (t := 27) (hb.call hA.below).off hq (e := 47) (by kernel_rfl) (by kernel_rfl)
      rw [prev_i (by omega) (by omega)]
      exact ⟨ad2, g2, _, el2.one (by kernel_rfl) (el2.far (by simpa using hn27)), fun w35 he hu => ⟨ev he hu, fun _ => hxx⟩⟩
    · rintro b37 w38 ⟨hA, hbx⟩
      have go : b37 = false → (At w [n1] w38 ∧ ∃ j : Nat, IntKind.i64.wrap ((i : Int) + 1) = j ∧ j ≤ d.ofs.length ∧ ∀ t ∈ d.ofs.take j, vecB t.2.2.2.1 = true) ∧ (b.o.2.1 - IntKind.i64.wrap ((i : Int) + 1)).toNat < (b.o.2.1 - (i : Int)).toNat := fun he => by
        rw [succ_i i (by omega)]
        exact ⟨⟨hA.sub (by simp), i + 1, rfl, by omega, take_all hp hok (hx (hbx he))⟩, by omega⟩
      refine brB (fun _ => out hA) (fun he => ?_)
      have go := go he
      exact brE (fun _ => brN (fun _ => out hA) (fun _ => brD (fun _ => brD (fun _ => out hA) (fun _ => brD (fun _ => out hA) (fun _ => go))) (fun _ => go))) (fun _ => brD (fun _ => brD (fun _ => out hA) (fun _ => brD (fun _ => out hA) (fun _ => go))) (fun _ => go))
  · rw [show i = d.ofs.length by omega, List.take_length] at hok
    exact hok

theorem K3 : KeyOk Tryz.prog 3 (Value.int .i64) := keyOk_int (by kernel_rfl)
theorem t99 : Tryz.prog.underlying 90 = some (.map 3 2) := by kernel_rfl
theorem z99 : pureRun Tryz.prog (zeroValue 2) = some (.int .i64 0) := by kernel_rfl
/-- Frames that may be: in order; one that is up has no end. -/
abbrev frOk (l : List FrT) : Prop := l.Pairwise (fun x y => x.1 < y.1) ∧ ∀ f ∈ l, f.2.2.2.1 = true → f.2.2.2.2.2.2 = 0
theorem c10 {b : BkA} {d : BkD} (w : World) (hb : Bk w b d) : RetB 10 #[b.v] w (frOk d.frs) := by
  intro R h
  refine f10_calls _ _ _ _ _ _ _ _ _ _ _ _ _ _ _ _ _ _ _ _ _ _ _ _ _ _ w R ?_
  unfold f10_vc
  have hn := hb.fr.len_le
  have out : ∀ {gs w'}, At w gs w' → R (.returned (.bool false)) w' := fun hA => h _ _ hA.below ⟨_, rfl, fun e => by cases e⟩
  intro n1 hn1 w2 hb2 hu2
  have hA : At w [n1] w2 := ⟨((At.refl w).call hb2).chg, hu2⟩
  refine opw_makeMap (kf := Value.int .i64) (vf := Value.int .i64) hA fun r w4 hr hA hk hb4 ho => ⟨_, rfl, hk, ?_⟩
  refine ⟨fun v W' => At w [n1] W' ∧ (∃ m : List (Int × Int), OwnM w noB [n1] W' r (Value.int .i64) (Value.int .i64) m) ∧ ∃ i : Nat, v.1 = i ∧ i ≤ d.frs.length ∧ frOk (d.frs.take i), fun v _ => (b.f.2.1 - v.1).toNat, ⟨hA, ⟨_, ho⟩, 0, rfl, Nat.zero_le _, by simp [frOk]⟩, ?_⟩
  rintro x8 w9 ⟨hA, ⟨m, ho⟩, i, hi, hil, hok⟩
  simp only at hi
  subst hi
  refine brD (fun hlt => ?_) (fun hge => h _ _ hA.below ⟨_, rfl, fun _ => ?_⟩)
  · obtain ⟨p, hp⟩ : ∃ x, d.frs[i]? = some x := ⟨_, List.getElem?_eq_getElem (by omega)⟩
    obtain ⟨ad, g1, el, _⟩ := elt_at (P := Tryz.prog) (k := .i64) (t := 25) (hb.fr.call hA.below) hp (e := 37) (by kernel_rfl) (by kernel_rfl)
    refine ⟨fun _ W' => At w [n1] W' ∧ (∃ m : List (Int × Int), OwnM w noB [n1] W' r (Value.int .i64) (Value.int .i64) m) ∧ frOk (d.frs.take (i + 1)), ⟨ad, g1, _, _, _, _, _, _, _, el.agg 7 (by kernel_rfl) (by kernel_rfl) (by simp) (by simp), ?_⟩, ?_⟩
    · intro n19 hn19
      have hsz := hA.size
      have hrl := ho.lt
      have hrn : r ∉ [n1, n19] := fun e => by
        rcases List.mem_cons.1 e with e | e
        · exact ho.apart (by simp [e])
        · have : r = n19 := by simpa using e
          omega
      have ho : OwnM w noB [n1, n19] w9 r (Value.int .i64) (Value.int .i64) m := ⟨ho.mine, hrn, ho.obj⟩
      refine ⟨fun _ W' => At w [n1, n19] W' ∧ (∃ m : List (Int × Int), OwnM w noB [n1, n19] W' r (Value.int .i64) (Value.int .i64) m) ∧ ∀ q, 0 < i → d.frs[i - 1]? = some q → q.1 < p.1, ⟨fun x W' => (At w [n1, n19] W' ∧ (∃ m : List (Int × Int), OwnM w noB [n1, n19] W' r (Value.int .i64) (Value.int .i64) m)) ∧ (x.1 = false → ∀ q, 0 < i → d.frs[i - 1]? = some q → q.1 < p.1), ?_, ?_⟩, ?_⟩
      · intro w22 hev hun
        have hb22 := hev.bel (by intro x hx; simp at hx; omega)
        have hA := hA.evo (gs' := [n1, n19]) (by simp; omega) hev hun
        have ho := ho.call hb22
        have yes : ∀ {W'}, At w [n1, n19] W' → Bel w22 W' → (At w [n1, n19] W' ∧ (∃ m : List (Int × Int), OwnM w noB [n1, n19] W' r (Value.int .i64) (Value.int .i64) m)) ∧ (true = false → ∀ q, 0 < i → d.frs[i - 1]? = some q → q.1 < p.1) := fun hA hb => ⟨⟨hA, _, ho.call hb⟩, fun e => by cases e⟩
        have oth : ∀ {W'}, At w [n1, n19] W' → Bel w22 W' → (∀ q, 0 < i → d.frs[i - 1]? = some q → q.1 < p.1) → ∀ x : Bool, (At w [n1, n19] W' ∧ (∃ m : List (Int × Int), OwnM w noB [n1, n19] W' r (Value.int .i64) (Value.int .i64) m)) ∧ (x = false → ∀ q, 0 < i → d.frs[i - 1]? = some q → q.1 < p.1) := fun hA hb hq x => ⟨⟨hA, _, ho.call hb⟩, fun _ => hq⟩
        refine at_callb hA (c39 p.1 w22) fun w24 hA hk hb24 => ⟨_, rfl, hk, brNB (fun _ => yes hA hb24) (fun _ => brD (fun hpos => ?_) (fun hpos => ?_))⟩
        · obtain ⟨q, hq⟩ : ∃ x, d.frs[i - 1]? = some x := ⟨_, List.getElem?_eq_getElem (by omega)⟩
          obtain ⟨ad2, g2, el2, _⟩ := elt_at (P := Tryz.prog) (k := .i64) (t := 25) (hb.fr.call hA.below) hq (e := 37) (by kernel_rfl) (by kernel_rfl)
          rw [prev_i (by omega) (by omega)]
          have rq : ∀ {W'}, Bel w24 W' → Reads Tryz.prog [] (Instr.loadAt 2 (.pointer (some ad2))) W' (.int .i64 q.1) := fun hb => (el2.below hb).one (by kernel_rfl) (by simp)
          refine ⟨ad2, g2, _, rq (At.refl w24).below, brD (fun _ => yes hA hb24) (fun hlt2 => ?_)⟩
          have hqq : ∀ q', 0 < i → d.frs[i - 1]? = some q' → q'.1 < p.1 := fun q' _ hq' => by
            rw [hq] at hq'
            cases hq'
            omega
          refine brN (fun _ => ?_) (fun _ => brD (fun _ => yes hA hb24) (fun _ => oth hA hb24 hqq _))
          exact at_callb hA (c39 _ w24) fun w29 hA hk hb29 => ⟨_, rfl, hk, rq hb29, brNB (fun _ => yes hA (hb24.trans hb29)) (fun _ => brD (fun _ => yes hA (hb24.trans hb29)) (fun _ => oth hA (hb24.trans hb29) hqq _))⟩
        · have hqq : ∀ q', 0 < i → d.frs[i - 1]? = some q' → q'.1 < p.1 := fun q' h0 _ => absurd h0 (by omega)
          refine brN (fun _ => ?_) (fun _ => brD (fun _ => yes hA hb24) (fun _ => oth hA hb24 hqq _))
          exact at_callb hA (c39 _ w24) fun w29 hA hk hb29 => ⟨_, rfl, hk, brNB (fun _ => yes hA (hb24.trans hb29)) (fun _ => brD (fun _ => yes hA (hb24.trans hb29)) (fun _ => oth hA (hb24.trans hb29) hqq _))⟩
      · rintro b34 w35 ⟨⟨hA, hm⟩, hbx⟩
        exact brB (fun _ => out hA) (fun he => ⟨hA, hm, hbx he⟩)
      · rintro w36 ⟨hA, ⟨m, ho⟩, hqq⟩
        refine ⟨fun _ W' => At w [n1, n19] W' ∧ (∃ m : List (Int × Int), OwnM w noB [n1, n19] W' r (Value.int .i64) (Value.int .i64) m), ⟨fun _ W' => At w [n1, n19] W' ∧ (∃ m : List (Int × Int), OwnM w noB [n1, n19] W' r (Value.int .i64) (Value.int .i64) m), ?_, ?_⟩, ?_⟩
        · have hl := reads_lookup2 (z := .int .i64 0) K3 t99 z99 ho p.2.1 (ds := []) (by intro d hd; cases hd)
          cases e : mget p.2.1 m with
          | none => rw [e] at hl; exact ⟨_, _, hl, hA, m, ho⟩
          | some x => rw [e] at hl; exact ⟨_, _, hl, hA, m, ho⟩
        · rintro x41 b42 w43 hA
          refine ⟨fun _ W' => At w [n1, n19] W' ∧ (∃ m : List (Int × Int), OwnM w noB [n1, n19] W' r (Value.int .i64) (Value.int .i64) m), brB (fun _ => brN (fun _ => hA) (fun _ => brD (fun _ => hA) (fun _ => hA))) (fun _ => brD (fun _ => hA) (fun _ => hA)), ?_⟩
          rintro b45 w46 hA
          exact brB (fun _ => out hA.1) (fun _ => hA)
        · rintro w47 ⟨hA, m, ho⟩
          refine ⟨fun _ W' => At w [n1, n19] W' ∧ (∃ m : List (Int × Int), OwnM w noB [n1, n19] W' r (Value.int .i64) (Value.int .i64) m), opw_mapUpdate (kf := Value.int .i64) (vf := Value.int .i64) (k := p.2.1) (v := p.2.2.1) (kt := 3) (et := 2) K3 t99 hA ho fun w50 hA hk _ ho => ⟨hk, hA, _, ho⟩, ?_⟩
          rintro w51 hA
          refine ⟨fun x W' => (At w [n1, n19] W' ∧ (∃ m : List (Int × Int), OwnM w noB [n1, n19] W' r (Value.int .i64) (Value.int .i64) m)) ∧ (x.1 = false → p.2.2.2.1 = true → p.2.2.2.2.2.2 = 0), ?_, ?_⟩
          · refine brD (fun _ => ⟨hA, fun e => by cases e⟩) (fun h1 => brD (fun _ => ⟨hA, fun e => by cases e⟩) (fun _ => brB (fun hup => ⟨hA, fun he _ => ?_⟩) (fun hup => ⟨hA, fun _ e => ?_⟩)))
            · have he := of_decide_eq_false he
              omega
            · rw [hup] at e
              cases e
          · rintro b53 w54 ⟨⟨hA, m, ho⟩, hup⟩
            refine brB (fun _ => out hA) (fun he => ⟨hA.sub (by simp), ⟨m, ho.mine, (fun e => ho.apart (by simp at e; simp [e])), ho.obj⟩, ?_⟩)
            exact ⟨take_pw (fun _ _ _ => Int.lt_trans) hp hok.1 hqq, take_all hp hok.2 (hup he)⟩
    · rintro w55 ⟨hA, hm, hok⟩
      rw [succ_i i (by omega)]
      exact ⟨⟨hA, hm, i + 1, rfl, by omega, hok⟩, by simp only; omega⟩
  · rw [show i = d.frs.length by omega, List.take_length] at hok
    exact hok
end Go.Vc.ZW

/- book.Right's parts: the sums of all agents. -/
set_option maxRecDepth 20000
set_option maxHeartbeats 1000000
namespace Go.Vc.ZW
open Go Go.Vc Go.Vc.V Go.RowKit Go.Proofs Vcqz Vcqz

variable {w W W' : World} {M : Nat → Prop} {gs : List Nat}

theorem sle77 {p : Nat} {s0 s1 s2 s3 : Int} (h : W.heap[p]? = some (.cells ([.int .i64 s0, .int .i64 s1, .int .i64 s2, .int .i64 s3] : List Value).toArray 94 (0, 0))) : SlE W 1 intE [s0, s1, s2, s3] (some ⟨p, 0, none⟩) 4 4 := by
  refine ⟨rfl, Nat.le_refl _, by decide, fun e => (by cases e), fun i x hx => ?_⟩
  refine ⟨_, [.int .i64 x], rfl, rfl, fun j v hv => ?_, rfl⟩
  have he := elt_cells h
  have hj : j = 0 := by have := (List.getElem?_eq_some_iff.1 hv).1; simp at this; omega
  subst hj
  have := he i (.int .i64 x) (by
    have e : ([.int .i64 s0, .int .i64 s1, .int .i64 s2, .int .i64 s3] : List Value) = [s0, s1, s2, s3].map (Value.int .i64) := rfl
    rw [e, List.getElem?_map, hx]
    rfl)
  rw [Nat.mul_one, addr_add_add _ _ _ rfl, Nat.add_zero]
  have ev : v = .int .i64 x := by simpa using hv.symm
  rw [ev]
  exact this
theorem c12 {b : BkA} {d : BkD} (w : World) (hb : Bk w b d) : RetBool 12 #[b.v] w := by
  intro R h
  refine f12_calls _ _ _ _ _ _ _ _ _ _ _ _ _ _ _ _ _ _ _ _ _ _ _ _ _ _ w R ?_
  unfold f12_vc
  have hn := hb.ag.len_le
  have out : ∀ (x : Bool) {gs w'}, At w gs w' → R (.returned (.bool x)) w' := fun x _ w' hA => h _ _ hA.below ⟨x, rfl⟩
  intro n1 hn1 n2 hn2
  refine ⟨fun v W' => At w [n1, n2] W' ∧ ∃ i : Nat, v.1 = i ∧ i ≤ d.ags.length, fun v _ => (b.a.2.1 - v.1).toNat, ⟨fun w4 hb4 hu => ⟨⟨((At.refl w).call hb4).chg, hu⟩, 0, rfl, Nat.zero_le _⟩, ?_⟩⟩
  rintro x6 x7 x8 x9 x10 w11 ⟨hA, i, hi, hil⟩
  simp only at hi
  subst hi
  refine brD (fun hlt => ?_) (fun _ => out _ hA)
  obtain ⟨q, hq⟩ : ∃ x, d.ags[i]? = some x := ⟨_, List.getElem?_eq_getElem (by omega)⟩
  obtain ⟨ad, cs, g1, el, a1, m1, cc1, a2, m2, cc2, rfl, s1, s2⟩ := rel_at (t := 26) (hb.call hA.below).ag hq (e := 45) (by kernel_rfl) (by kernel_rfl)
  refine ⟨ad, g1, _, _, _, _, _, _, _, el.agg 3 (by kernel_rfl) (by kernel_rfl) (by simp) (by simp), fun n20 hn20 => ?_⟩
  have hsz := hA.size
  have e47 : ∃ z0 z1 z2 z3, ofV q.2.1 = arrV z0 z1 z2 z3 := by
    unfold ofV
    split
    · exact ⟨_, _, _, _, rfl⟩
    · exact ⟨_, _, _, _, rfl⟩
  obtain ⟨z0, z1, z2, z3, e47⟩ := e47
  have k47 : ∀ {W : World}, SlE W 3 partE q.2.1 a1 m1 cc1 → Ret Tryz.prog 42 #[.slice a1 m1 cc1] W (arrV z0 z1 z2 z3) := fun hs => by rw [← e47]; exact c42 _ hs
  have e77 : ∃ y0 y1 y2 y3 ok, sumA x7 x8 x9 x10 z0 z1 z2 z3 = pairA y0 y1 y2 y3 ok := by
    unfold sumA
    split
    · exact ⟨_, _, _, _, _, rfl⟩
    · exact ⟨_, _, _, _, _, rfl⟩
  obtain ⟨y0, y1, y2, y3, ok, e77⟩ := e77
  have k77 : ∀ W : World, Ret Tryz.prog 41 #[arrV x7 x8 x9 x10, arrV z0 z1 z2 z3] W (pairA y0 y1 y2 y3 ok) := fun W => by rw [← e77]; exact c41 _ _ _ _ _ _ _ _ _
  have tail : ∀ (p : Nat) (W : World), At w [n1, n2, n20] W → W.heap[p]? = some (.cells ([.int .i64 y0, .int .i64 y1, .int .i64 y2, .int .i64 y3] : List Value).toArray 94 (0, 0)) → p ≠ n2 →
      ((!ok) = true → ∀ (w40 : World), Bel W w40 → Under [n1, n2, n20] w40 → R (Ending.returned (Value.bool false)) w40) ∧
      ((!ok) = false → ∃ (a41 : Option Addr), ∃ (n42 : Nat), ∃ (n43 : Nat),
        Gives Tryz.prog (Instr.sliceAt 94 (Value.pointer (some ⟨p, 0, none⟩)) none none none) (Value.slice a41 n42 n43) ∧
        ∀ (w44 : World), Bel W w44 → Under [n1, n2, n20] w44 →
        Calls Tryz.prog 43 #[Value.slice a41 n42 n43] w44 fun (e45 : Ending) (w46 : World) => ∃ (x47 : Int), e45 = Ending.returned (Value.int IntKind.i64 x47) ∧ Keeps [n1, n2, n20] w44 w46 ∧
          (decide (x47 > b.cc1) = true → R (Ending.returned (Value.bool false)) w46) ∧
          (decide (x47 > b.cc1) = false → ∃ (x48 : Int), ∃ (x49 : Int), ∃ (x50 : Int), ∃ (x51 : Int),
            Reads Tryz.prog [] (Instr.loadAt 94 (Value.pointer (some ⟨p, 0, none⟩))) w46 (Value.agg #[Value.int IntKind.i64 x48, Value.int IntKind.i64 x49, Value.int IntKind.i64 x50, Value.int IntKind.i64 x51]) ∧
            ∀ (w52 : World), Evo [n2] w46 w52 → Under [n1, n2, n20] w52 →
              (At w [n1, n2] w52 ∧ ∃ j : Nat, IntKind.i64.wrap ((i : Int) + 1) = j ∧ j ≤ d.ags.length) ∧ (b.a.2.1 - IntKind.i64.wrap ((i : Int) + 1)).toNat < (b.a.2.1 - (i : Int)).toNat)) := by
    intro p W hA hp hpn
    refine ⟨fun _ w40 hb40 hu => out _ (hA.call hb40), fun _ => ⟨_, _, _, gives_slice_arr0 (e := 2) (n := 1) (m := 4) (by kernel_rfl) (by kernel_rfl), fun w44 hb44 hu44 => ?_⟩⟩
    have hp44 : w44.heap[p]? = some (.cells ([.int .i64 y0, .int .i64 y1, .int .i64 y2, .int .i64 y3] : List Value).toArray 94 (0, 0)) := (hb44.block (Array.getElem?_eq_some_iff.1 hp).1).trans hp
    have hA : At w [n1, n2, n20] w44 := ⟨(hA.call hb44).chg, hu44⟩
    refine at_callb hA (c43 w44 (sle77 hp44)) fun w46 hA hk hb46 => ⟨_, rfl, hk, brD (fun _ => out _ hA) (fun _ => ⟨y0, y1, y2, y3, ?_, fun w52 he hu => ?_⟩)⟩
    · exact ((elt_cells hp44).below hb46).agg 4 (by kernel_rfl) (by kernel_rfl) (by simp) (by simp)
    · have hA := hA.evo (gs' := [n1, n2, n20]) (by simp; omega) he hu
      rw [succ_i i (by omega)]
      exact ⟨⟨hA.sub (by simp), i + 1, rfl, by omega⟩, by omega⟩
  have fresh : ∀ {W : World} {p : Nat}, At w [n1, n2, n20] W → W.heap.size = p → p ∉ [n1, n2, n20] := fun hA hp hx => by have := hA.under _ hx; omega
  have al : ∀ {W : World} {K : Value → World → Prop}, At w [n1, n2, n20] W → (∀ g w', W.heap.size = g → At w [n1, n2, n20] w' → Keeps [n1, n2, n20] W w' → Bel W w' → w'.heap[g]? = some (.cells ([.int .i64 0, .int .i64 0, .int .i64 0, .int .i64 0] : List Value).toArray 94 (0, 0)) → K (.pointer (some ⟨g, 0, none⟩)) w') → OpW Tryz.prog (valueS (Instr.alloc 94 true (.tuple #[]))) W K := fun hA h => opw_allocS [.int .i64 0, .int .i64 0, .int .i64 0, .int .i64 0] (zv := arrV 0 0 0 0) (by kernel_rfl) rfl hA h
  refine ⟨fun w21 he21 hu21 => ?_, ?_⟩
  · have hb21 := he21.bel (by intro x hx; simp at hx; omega)
    have hA := hA.evo (gs' := [n1, n2, n20]) (by simp; omega) he21 hu21
    refine at_callb hA (k47 (s1.call hb21)) fun w23 hA hk _ => ?_
    have hsz23 := hA.size
    refine ⟨_, _, _, _, rfl, hk, ?_, ?_⟩
    · refine at_callb hA (k77 w23) fun w29 hA hk _ => ⟨_, _, _, _, _, rfl, hk, ?_⟩
      refine al hA fun p w36 hp hA36 hk _ hpb => ⟨_, rfl, hk, ?_⟩
      have hf := fresh hA hp
      refine opw_storeF hA36 hpb (.inl (by have := hA.size; omega)) hf (cells' := [.int .i64 y0, .int .i64 y1, .int .i64 y2, .int .i64 y3]) (by kernel_rfl) fun w39 hA hk _ hpb => ⟨hk, tail p w39 hA hpb fun e => hf (by simp [e])⟩
    · refine al hA fun p w54 hp hA54 hk _ hpb => ⟨_, rfl, hk, ?_⟩
      have hf := fresh hA hp
      refine at_callb hA54 (k77 w54) fun w57 hA hk hb57 => ⟨_, _, _, _, _, rfl, hk, ?_⟩
      have hpb := (hb57.block (Array.getElem?_eq_some_iff.1 hpb).1).trans hpb
      refine opw_storeF hA hpb (.inl (by omega)) hf (cells' := [.int .i64 y0, .int .i64 y1, .int .i64 y2, .int .i64 y3]) (by kernel_rfl) fun w39 hA hk _ hpb => ⟨hk, tail p w39 hA hpb fun e => hf (by simp [e])⟩
  · intro w78 he78 hu78
    have hb78 := he78.bel (by intro x hx; simp at hx; omega)
    have hA := hA.evo (gs' := [n1, n2, n20]) (by simp; omega) he78 hu78
    refine al hA fun p w80 hp hA80 hk hb80 hpb => ⟨_, rfl, hk, ?_⟩
    have hf := fresh hA hp
    refine at_callb hA80 (k47 ((s1.call hb78).call hb80)) fun w83 hA83 hk hb83 => ⟨_, _, _, _, rfl, hk, ?_⟩
    refine at_callb hA83 (k77 w83) fun w89 hA89 hk hb89 => ⟨_, _, _, _, _, rfl, hk, ?_⟩
    have hpb := ((hb83.trans hb89).block (Array.getElem?_eq_some_iff.1 hpb).1).trans hpb
    refine opw_storeF hA89 hpb (.inl (by have := hA.size; omega)) hf (cells' := [.int .i64 y0, .int .i64 y1, .int .i64 y2, .int .i64 y3]) (by kernel_rfl) fun w39 hA hk _ hpb => ⟨hk, tail p w39 hA hpb fun e => hf (by simp [e])⟩
end Go.Vc.ZW

/- book.Right's parts: the ledger. -/
set_option maxRecDepth 20000
set_option maxHeartbeats 1000000
namespace Go.Vc.ZW
open Go Go.Vc Go.Vc.V Go.RowKit Go.Proofs Vcqz Vcqz

variable {w W W' : World} {M : Nat → Prop} {gs : List Nat} {g q r : Nat}

theorem KI : KeyOk Tryz.prog 2 (Value.int .i64) := keyOk_int (by kernel_rfl)
theorem t109 : Tryz.prog.underlying 105 = some (.map 2 43) := by kernel_rfl
theorem z109 : pureRun Tryz.prog (zeroValue 43) = some (.slice none 0 0) := by kernel_rfl
abbrev SlV := (Option Addr × Nat × Nat) × List PartT
abbrev sv (x : SlV) : Value := .slice x.1.1 x.1.2.1 x.1.2.2
abbrev ElR (W : World) (x : SlV) : Prop := OwnF W (fun _ => True) [] W 53 3 partE (sv x) x.2
/-- The ledger's boxes: the map's, the bool's, the map itself, whose rows lie in blocks of parts. -/
structure Led (W : World) (g q r : Nat) (m : List (Int × SlV)) : Prop where
  tb : W.heap[g]? = some (.cells ([.map (some r)] : List Value).toArray 105 (0, 0))
  bb : ∃ b, W.heap[q]? = some (.cells ([.bool b] : List Value).toArray 4 (0, 0))
  mp : OwnM W (fun _ => True) [] W r (Value.int .i64) sv m
  el : ∀ k x, mget k m = some x → ElR W x
theorem ElR.re {x : SlV} (h : ElR W x) (hk : ∀ k, (sv x).ownBlock = some k → W'.heap[k]? = W.heap[k]?) : ElR W' x := (h.keep hk).base (fun _ _ => .inr trivial) (fun _ h => by cases h)
theorem Led.call {m : List (Int × SlV)} (h : Led W g q r m) (hb : Bel W W') : Led W' g q r m := by
  obtain ⟨b, hq⟩ := h.bb
  refine ⟨(hb.block (Array.getElem?_eq_some_iff.1 h.tb).1).trans h.tb, ⟨b, (hb.block (Array.getElem?_eq_some_iff.1 hq).1).trans hq⟩, ⟨.inr trivial, (fun e => by cases e), ?_⟩, fun k x hx => (h.el k x hx).re fun k' hk' => hb.block ((h.el k x hx).lt k' hk')⟩
  exact (h.mp.call hb).obj
theorem c49 {m : List (Int × SlV)} {v : List PartT} {a : Option Addr} {n c : Nat} (agent : Int) (h : Led W g q r m) (hv : SlE W 3 partE v a n c) : RetF Tryz.prog 49 #[.int .i64 agent, .slice a n c, .pointer (some ⟨g, 0, none⟩), .pointer (some ⟨q, 0, none⟩)] W (fun b => b = r ∨ b = q) fun u W' => u = .tuple #[] ∧ ∃ m', Led W' g q r m' := by
  intro R hR
  refine f49_calls _ _ _ _ _ _ W R ?_
  unfold f49_vc
  have hA : AtF W (fun b => b = r ∨ b = q) [] W := AtF.refl W _
  have hl := reads_lookup1 (z := .slice none 0 0) KI t109 z109 h.mp agent (ds := []) (by intro d hd; cases hd)
  obtain ⟨s, hs1, hs2⟩ : ∃ s : SlV, Reads Tryz.prog [] (Instr.lookup 105 (.map (some r)) (.int .i64 agent) false) W (sv s) ∧ SlE W 3 partE s.2 s.1.1 s.1.2.1 s.1.2.2 := by
    cases e : mget agent m with
    | none => rw [e] at hl; exact ⟨((none, 0, 0), []), hl, OwnL.nil.sl (w := W) (gs := []) (e := 53) (by simp)⟩
    | some x => rw [e] at hl; exact ⟨x, hl, (h.el _ _ e).sl (fun _ _ => rfl)⟩
  refine ⟨_, rd_f0 h.tb (by kernel_rfl) (by simp), _, _, _, hs1, ?_⟩
  obtain ⟨L, ok, hc⟩ : ∃ L ok, RetLB Tryz.prog 50 #[.slice s.1.1 s.1.2.1 s.1.2.2, .slice a n c] W 53 3 partE L ok := ⟨_, _, cAddE W hs2 hv⟩
  refine at_calllb hA hc (fun _ _ => rfl) fun a7 cx9 w6 hA hk hb6 ho _ => ⟨_, _, _, _, rfl, ?_⟩
  have h6 := h.call hb6
  obtain ⟨b12, hq6⟩ := h6.bb
  have hgq : g ≠ q := cells_ne h6.tb hq6 (by decide)
  obtain ⟨es, cl, hr6, _⟩ := h6.mp.obj
  have hgr : g ≠ r := cells_map h6.tb hr6
  have hqr : q ≠ r := cells_map hq6 hr6
  have fin : ∀ (b : Bool), OpW Tryz.prog (skipS (Instr.mapUpdate 105 (.map (some r)) (.int .i64 agent) (.slice a7 L.length cx9))) w6 fun _ w14 => OpW Tryz.prog (skipS (Instr.storeAt 4 (.pointer (some ⟨q, 0, none⟩)) (.bool b))) w14 fun _ w16 => R (.returned (.tuple #[])) w16 := fun b => by
    refine opw_mapUpdate (kf := Value.int .i64) (vf := sv) (k := agent) (v := ((a7, L.length, cx9), L)) (kt := 2) (et := 43) KI t109 hA (⟨.inr (.inl rfl), (fun e => by cases e), h6.mp.obj⟩ : OwnM W (fun b => b = r ∨ b = q) [] w6 r (Value.int .i64) sv m) fun w14 hA14 _ hch14 ho14 => ?_
    have hq14 : w14.heap[q]? = some (.cells ([.bool b12] : List Value).toArray 4 (0, 0)) := (hch14.block q (Array.getElem?_eq_some_iff.1 hq6).1 hqr).trans hq6
    have hg14 : w14.heap[g]? = some (.cells ([.map (some r)] : List Value).toArray 105 (0, 0)) := (hch14.block g (Array.getElem?_eq_some_iff.1 h6.tb).1 hgr).trans h6.tb
    refine opw_storeF hA14 hq14 (.inr (.inr rfl)) (by simp) (cells' := [.bool b]) (by kernel_rfl) fun w16 hA16 _ hch16 hq16 => ?_
    obtain ⟨es14, cl14, hr14, rest14⟩ := ho14.obj
    refine hR _ _ hA16.chg ⟨rfl, _, (hch16.block g (Array.getElem?_eq_some_iff.1 hg14).1 hgq).trans hg14, ⟨b, hq16⟩, ⟨.inr trivial, (fun e => by cases e), es14, cl14, (hch16.block r (Array.getElem?_eq_some_iff.1 hr14).1 (Ne.symm hqr)).trans hr14, rest14⟩, fun k x hx => ?_⟩
    have key : ∀ {x : SlV}, ElR w6 x → ElR w16 x := fun hx => hx.re fun k' hk' => by
      obtain ⟨cur, hcur⟩ := hx.blk hk'
      have hl := (Array.getElem?_eq_some_iff.1 hcur).1
      have e1 := hch14.block k' hl (cells_map hcur hr6)
      rw [hch16.block k' (Nat.lt_of_lt_of_le hl hch14.size) (cells_ne hcur hq6 (by decide)), e1]
    by_cases hka : k = agent
    · subst hka
      rw [mget_mset_self] at hx
      cases hx
      exact key (ho.base (fun _ _ => .inr trivial) (fun _ h => by cases h))
    · rw [mget_mset_ne _ hka] at hx
      exact key (h6.el k x hx)
  refine ⟨_, rd_f0 h6.tb (by kernel_rfl) (by simp), b12, rd_f0 hq6 (by kernel_rfl) (by simp), brB (fun _ => fin _) (fun _ => fin _)⟩
theorem c52 {m : List (Int × SlV)} {a1 a2 : Option Addr} {n1 cc1 n2 cc2 : Nat} {l1 : List PartT} (x : Int) (h : Led W g q r m) (h1 : SlE W 3 partE l1 a1 n1 cc1) : RetBool 52 #[.agg #[.int .i64 x, .slice a1 n1 cc1, .slice a2 n2 cc2], .pointer (some ⟨g, 0, none⟩)] W := by
  intro R hR
  refine f52_calls _ _ _ _ _ _ _ _ W R ?_
  unfold f52_vc
  intro n1 hn1
  have hl := reads_lookup1 (z := .slice none 0 0) KI t109 z109 h.mp x (ds := []) (by intro d hd; cases hd)
  obtain ⟨s, hs1, hs2⟩ : ∃ s : SlV, Reads Tryz.prog [] (Instr.lookup 105 (.map (some r)) (.int .i64 x) false) W (sv s) ∧ SlE W 3 partE s.2 s.1.1 s.1.2.1 s.1.2.2 := by
    cases e : mget x m with
    | none => rw [e] at hl; exact ⟨((none, 0, 0), []), hl, OwnL.nil.sl (w := W) (gs := []) (e := 53) (by simp)⟩
    | some y => rw [e] at hl; exact ⟨y, hl, (h.el _ _ e).sl (fun _ _ => rfl)⟩
  refine ⟨_, rd_f0 h.tb (by kernel_rfl) (by simp), _, _, _, hs1, fun w6 hb6 hu6 => ?_⟩
  have hA : At W [n1] w6 := ⟨((At.refl W).call hb6).chg, hu6⟩
  exact at_callb hA (c28 w6 (hs2.call hb6) (h1.call hb6)) fun w8 hA hk _ => ⟨_, rfl, hk, hR _ _ hA.below ⟨_, rfl⟩⟩
/-- A call of a function's value that returns some bool. -/
def RetIB (fv : Value) (args : Array Value) (W : World) : Prop := ∀ K : Value → World → Prop, (∀ b w', Bel W w' → K (.bool b) w') → OpW Tryz.prog (invokeS fv args) W K
theorem RetIB.of {f : FuncId} {first cap args : Array Value} (he : pureRun Tryz.prog (invokeS (.func (.func f) first cap) args) = some (.enter f ((first ++ args) ++ cap))) (h : RetBool f ((first ++ args) ++ cap) W) : RetIB (.func (.func f) first cap) args W := fun _ hK => opw_invoke he (h _ fun v w' hb ⟨b, e⟩ => ⟨v, rfl, e ▸ hK b w' hb⟩)
theorem c73q {l : List AgT} {a : Option Addr} {n c : Nat} {fv : Value} (W : World) (hs : ∀ {W'}, Bel W W' → SlR W' 3 (agR W') l a n c) (hf : ∀ W' x a1 n1 cc1 a2 n2 cc2 (l1 : List PartT), Bel W W' → SlE W' 3 partE l1 a1 n1 cc1 → RetIB fv #[.agg #[.int .i64 x, .slice a1 n1 cc1, .slice a2 n2 cc2]] W') : RetQ Tryz.prog 73 #[.slice a n c, fv] W fun v _ => ∃ k, v = .int .i64 k := by
  intro R h
  refine f73_calls a n c fv W R ?_
  unfold f73_vc
  have hn := (hs (At.refl W).below).len_le
  refine ⟨fun v W' => At W [] W' ∧ ∃ i : Nat, v.1 = i ∧ i ≤ l.length, fun v _ => (n - v.1).toNat, ⟨At.refl W, 0, rfl, Nat.zero_le _⟩, ?_⟩
  rintro x3 w4 ⟨hA, i, hi, hil⟩
  simp only at hi
  subst hi
  refine brD (fun hlt => ?_) (fun hge => h _ _ hA.below ⟨_, rfl⟩)
  obtain ⟨f, hfi⟩ : ∃ x, l[i]? = some x := ⟨_, List.getElem?_eq_getElem (by omega)⟩
  obtain ⟨ad, cs, g1, el, _, _, _, _, _, _, rfl, s1, _⟩ := rel_at (t := 26) (hs hA.below) hfi (e := 45) (by kernel_rfl) (by kernel_rfl)
  refine ⟨ad, g1, _, _, _, _, _, _, _, el.agg 3 (by kernel_rfl) (by kernel_rfl) (by simp) (by simp), ?_⟩
  refine hf w4 f.1 _ _ _ _ _ _ _ hA.below s1 _ fun b w' hb => ⟨_, rfl, ?_⟩
  have hA := hA.call hb
  refine brB (fun he => h _ _ hA.below ⟨_, rfl⟩) (fun hne => ?_)
  rw [succ_i i (by omega)]
  exact ⟨⟨hA, i + 1, rfl, by omega⟩, by simp only; omega⟩
theorem c16 {b : BkA} {d : BkD} (w : World) (hb : Bk w b d) : RetBool 16 #[b.v] w := by
  intro R h
  refine f16_calls _ _ _ _ _ _ _ _ _ _ _ _ _ _ _ _ _ _ _ _ _ _ _ _ _ _ w R ?_
  unfold f16_vc
  have hna := hb.ag.len_le
  have hno := hb.off.len_le
  have hnt := hb.tk.len_le
  have out : ∀ (x : Bool) {gs w'}, At w gs w' → R (.returned (.bool x)) w' := fun x _ w' hA => h _ _ hA.below ⟨x, rfl⟩
  intro n1 hn1 w2 hb2 hu2
  have hA : At w [n1] w2 := ⟨((At.refl w).call hb2).chg, hu2⟩
  refine opw_makeMap (kf := Value.int .i64) (vf := sv) hA fun r w4 hr hA4 hk hb4 ho4 => ⟨_, rfl, hk, ?_⟩
  refine opw_allocS [.map none] (zv := .map none) (by kernel_rfl) rfl hA4 fun g w7 hg hA7 hk hb7 hgb => ⟨_, rfl, hk, ?_⟩
  have fresh : ∀ {W : World} {p : Nat}, At w [n1] W → W.heap.size = p → p ∉ [n1] := fun hA hp hx => by have := hA.under _ hx; omega
  have hgn := fresh hA4 hg
  refine opw_storeF hA7 hgb (.inl (by have := hA4.size; omega)) hgn (cells' := [.map (some r)]) (by kernel_rfl) fun w10 hA10 hk hch10 hgb => ⟨hk, ?_⟩
  refine opw_allocS [.bool false] (zv := .bool false) (by kernel_rfl) rfl hA10 fun q w12 hq hA12 hk hb12 hqb => ⟨_, rfl, hk, ?_⟩
  have hqn := fresh hA10 hq
  refine opw_storeF hA12 hqb (.inl (by have := hA10.size; omega)) hqn (cells' := [.bool true]) (by kernel_rfl) fun w15 hA15 hk hch15 hqb => ⟨hk, ?_⟩
  have hgl := (Array.getElem?_eq_some_iff.1 hgb).1
  have hrl := ho4.lt
  have hgb15 : w15.heap[g]? = some (.cells ([.map (some r)] : List Value).toArray 105 (0, 0)) := (hch15.block g (Nat.lt_of_lt_of_le hgl hb12.size) (by omega)).trans ((hb12.block hgl).trans hgb)
  have led0 : Led w15 g q r [] := by
    refine ⟨hgb15, ⟨true, hqb⟩, ⟨.inr trivial, (fun e => by cases e), ?_⟩, fun k x hx => by cases hx⟩
    have e7 := ho4.call hb7
    have e10 := e7.chg hch10 (by omega)
    have e12 := e10.call hb12
    exact (e12.chg hch15 (by have := hb4.size; have := hb7.size; have := hch10.size; omega)).obj
  have hrw : w.heap.size ≤ r := by have := hA.size; omega
  have hqw : w.heap.size ≤ q := by have := hA10.size; omega
  have hrn : r ∉ [n1] := ho4.apart
  -- one call of add
  have step : ∀ {W : World} {gs : List Nat} {m : List (Int × SlV)} {v : List PartT} {a : Option Addr} {n c : Nat} (agent : Int) {K : Value → World → Prop}, At w gs W → r ∉ gs → q ∉ gs → Led W g q r m → SlE W 3 partE v a n c → (∀ w' m', At w gs w' → Keeps gs W w' → Led w' g q r m' → K (.tuple #[]) w') → OpW Tryz.prog (invokeS (.func (.func 49) #[] #[.pointer (some ⟨g, 0, none⟩), .pointer (some ⟨q, 0, none⟩)]) #[.int .i64 agent, .slice a n c]) W K := by
    intro W gs m v a n c agent K hA hr hq hl hv hK
    refine opw_invoke (by kernel_rfl) ?_
    refine at_callF hA (c49 agent hl hv) (fun b _ hx => .inl (by rcases hx with rfl | rfl <;> assumption)) (fun y hy hx => by rcases hx with rfl | rfl <;> contradiction) fun u w' hA hk _ ⟨e, m', hl'⟩ => ⟨_, rfl, ?_⟩
    subst e
    exact hK w' m' hA hk hl'
  have ext : ∀ {n : Nat} {W : World} {m : List (Int × SlV)}, Led W g q r m → W.heap.size ≤ n → r ∉ [n1, n] ∧ q ∉ [n1, n] := fun {n W m} hl hn => by
    obtain ⟨es, cl, hr', _⟩ := hl.mp.obj
    obtain ⟨b, hq'⟩ := hl.bb
    have h1 := (Array.getElem?_eq_some_iff.1 hr').1
    have h2 := (Array.getElem?_eq_some_iff.1 hq').1
    constructor
    · intro hx
      rcases List.mem_cons.1 hx with e | e
      · exact hrn (by simp [e])
      · have : r = n := by simpa using e
        omega
    · intro hx
      rcases List.mem_cons.1 hx with e | e
      · exact hqn (by simp [e])
      · have : q = n := by simpa using e
        omega
  refine ⟨fun v W' => (At w [n1] W' ∧ ∃ m, Led W' g q r m) ∧ ∃ i : Nat, v.1 = i ∧ i ≤ d.ags.length, fun v _ => (b.a.2.1 - v.1).toNat, ⟨⟨hA15, _, led0⟩, 0, rfl, Nat.zero_le _⟩, ?_⟩
  rintro x18 w19 ⟨⟨hA, m, hl⟩, i, hi, hil⟩
  simp only at hi
  subst hi
  refine brD (fun hlt => ?_) (fun _ => ?_)
  · obtain ⟨p, hp⟩ : ∃ x, d.ags[i]? = some x := ⟨_, List.getElem?_eq_getElem (by omega)⟩
    obtain ⟨ad, cs, g1, el, a1, m1, cc1, a2, m2, cc2, rfl, s1, s2⟩ := rel_at (t := 26) (hb.call hA.below).ag hp (e := 45) (by kernel_rfl) (by kernel_rfl)
    refine ⟨ad, g1, _, _, _, _, _, _, _, el.agg 3 (by kernel_rfl) (by kernel_rfl) (by simp) (by simp), fun n28 hn28 w29 he hu => ?_⟩
    obtain ⟨x1, x2⟩ := ext hl hn28
    have hb29 := he.bel (by intro x hx; simp at hx; omega)
    have hsz := hA.size
    have hA := hA.evo (gs' := [n1, n28]) (by simp; omega) he hu
    refine step p.1 hA x1 x2 (hl.call hb29) (s2.call hb29) fun w31 m' hA hk hl => ⟨rfl, hk, ?_⟩
    rw [succ_i i (by omega)]
    exact ⟨⟨⟨hA.sub (by simp), m', hl⟩, i + 1, rfl, by omega⟩, by simp only; omega⟩
  refine ⟨fun v W' => (At w [n1] W' ∧ ∃ m, Led W' g q r m) ∧ ∃ i : Nat, v.1 = i ∧ i ≤ d.ofs.length, fun v _ => (b.o.2.1 - v.1).toNat, ⟨⟨hA, _, hl⟩, 0, rfl, Nat.zero_le _⟩, ?_⟩
  rintro x34 w35 ⟨⟨hA, m, hl⟩, i, hi, hil⟩
  simp only at hi
  subst hi
  refine brD (fun hlt => ?_) (fun _ => ?_)
  · obtain ⟨p, hp⟩ : ∃ x, d.ofs[i]? = some x := ⟨_, List.getElem?_eq_getElem (by omega)⟩
    obtain ⟨ad, cs, g1, el, a1, m1, cc1, rfl, s1⟩ := rel_at (t := 27) (hb.call hA.below).off hp (e := 47) (by kernel_rfl) (by kernel_rfl)
    refine ⟨ad, g1, _, _, _, _, _, _, _, el.agg 5 (by kernel_rfl) (by kernel_rfl) (by simp) (by simp), fun n28 hn28 w29 he hu => ?_⟩
    obtain ⟨x1, x2⟩ := ext hl hn28
    have hb29 := he.bel (by intro x hx; simp at hx; omega)
    have hsz := hA.size
    have hA := hA.evo (gs' := [n1, n28]) (by simp; omega) he hu
    refine step p.2.2.1 hA x1 x2 (hl.call hb29) (s1.call hb29) fun w31 m' hA hk hl => ⟨rfl, hk, ?_⟩
    rw [succ_i i (by omega)]
    exact ⟨⟨⟨hA.sub (by simp), m', hl⟩, i + 1, rfl, by omega⟩, by simp only; omega⟩
  refine ⟨fun v W' => (At w [n1] W' ∧ ∃ m, Led W' g q r m) ∧ ∃ i : Nat, v.1 = i ∧ i ≤ d.tks.length, fun v _ => (b.t.2.1 - v.1).toNat, ⟨⟨hA, _, hl⟩, 0, rfl, Nat.zero_le _⟩, ?_⟩
  rintro x50 w51 ⟨⟨hA, m, hl⟩, i, hi, hil⟩
  simp only at hi
  subst hi
  refine brD (fun hlt => ?_) (fun _ => ?_)
  · obtain ⟨p, hp⟩ : ∃ x, d.tks[i]? = some x := ⟨_, List.getElem?_eq_getElem (by omega)⟩
    obtain ⟨ad, cs, g1, el, a1, m1, cc1, rfl, s1⟩ := rel_at (t := 28) (hb.call hA.below).tk hp (e := 49) (by kernel_rfl) (by kernel_rfl)
    refine ⟨ad, g1, _, _, _, _, _, _, el.agg 4 (by kernel_rfl) (by kernel_rfl) (by simp) (by simp), fun n28 hn28 w29 he hu => ?_⟩
    obtain ⟨x1, x2⟩ := ext hl hn28
    have hb29 := he.bel (by intro x hx; simp at hx; omega)
    have hsz := hA.size
    have hA := hA.evo (gs' := [n1, n28]) (by simp; omega) he hu
    refine step p.2.2.1 hA x1 x2 (hl.call hb29) (s1.call hb29) fun w31 m' hA hk hl => ⟨rfl, hk, ?_⟩
    rw [succ_i i (by omega)]
    exact ⟨⟨⟨hA.sub (by simp), m', hl⟩, i + 1, rfl, by omega⟩, by simp only; omega⟩
  obtain ⟨b63, hq51⟩ := hl.bb
  refine ⟨b63, rd_f0 hq51 (by kernel_rfl) (by simp), brB (fun _ => ?_) (fun _ => out _ hA)⟩
  have c51 : RetBool 51 #[.slice b.a.1 b.a.2.1 b.a.2.2, .func (.func 52) #[] #[.pointer (some ⟨g, 0, none⟩)]] w51 := by
    intro R' h'
    refine f51_calls _ _ _ _ w51 R' ?_
    unfold f51_vc
    refine at_callq (At.refl w51) (c73q w51 (fun hbb => ((hb.call hA.below).call hbb).ag) fun W' x a1 n1 cc1 a2 n2 cc2 l1 hb' hs => RetIB.of (by kernel_rfl) (c52 x (hl.call hb') hs)) fun v w2 hA2 _ _ ⟨k, e⟩ => ?_
    subst e
    exact ⟨_, rfl, h' _ _ hA2.below ⟨_, rfl⟩⟩
  refine at_callq hA c51 fun v w65 hA hk _ ⟨x, e⟩ => ?_
  subst e
  exact ⟨_, rfl, hk, out _ hA⟩
end Go.Vc.ZW

/- book.Right; ViewGrows. -/
set_option maxRecDepth 20000
set_option maxHeartbeats 1000000
namespace Go.Vc.ZW
open Go Go.Vc Go.Vc.V Go.RowKit Go.Proofs Vcqz Vcqz

variable {w W W' : World} {M : Nat → Prop} {gs : List Nat}

/-- What a right book has. -/
structure RightB (d : BkD) : Prop where
  fr : frOk d.frs
  ag : agOk d.ags
  off : ∀ t ∈ d.ofs, vecB t.2.2.2.1 = true
  tk : ∀ t ∈ d.tks, vecB t.2.2.2 = true
  fl : ∀ t ∈ d.fls, vecB t.2.2.2 = true
theorem c4 {b : BkA} {d : BkD} (w : World) (hb : Bk w b d) : RetQ Tryz.prog 4 #[b.v] w fun v _ => ∃ n x, v = .tuple #[.int .i64 n, .bool x] ∧ (x = true → RightB d) := by
  intro R h
  refine f4_calls _ _ _ _ _ _ _ _ _ _ _ _ _ _ _ _ _ _ _ _ _ _ _ _ _ _ w R ?_
  unfold f4_vc
  intro n1 hn1 n2 hn2 n3 hn3 w4 he4 hu4
  have hA := (At.refl w).evo (gs' := [n1, n2, n3]) (by simp; omega) he4 hu4
  have out : ∀ (k : Int) {gs w'}, At w gs w' → R (.returned (.tuple #[.int .i64 k, .bool false])) w' := fun k _ w' hA => h _ _ hA.below ⟨_, _, rfl, fun e => by cases e⟩
  have step : ∀ {W : World} {gs : List Nat} {f : FuncId} {F : Prop} {K : Value → World → Prop}, At w gs W → pureRun Tryz.prog (invokeS (.func (.func f) #[b.v] #[]) #[]) = some (.enter f ((#[b.v] ++ #[]) ++ #[])) → RetB f #[b.v] W F → (∀ w' x, At w gs w' → Keeps gs W w' → (x = true → F) → K (.bool x) w') → OpW Tryz.prog (invokeS (.func (.func f) #[b.v] #[]) #[]) W K := by
    intro W gs f F K hA he hc hK
    refine opw_invoke he ?_
    refine at_callq hA hc fun v w' hA hk _ ⟨x, e, hx⟩ => ⟨v, rfl, ?_⟩
    subst e
    exact hK w' x hA hk hx
  have boolB : ∀ {f : FuncId} {W : World}, RetBool f #[b.v] W → RetB f #[b.v] W True := fun hc R hR => hc R fun v w' hb ⟨x, e⟩ => hR v w' hb ⟨x, e, fun _ => trivial⟩
  refine step hA (by kernel_rfl) (boolB (c9 b w4)) fun w6 x1 hA hk _ => ⟨_, rfl, hk, brNB (fun _ => out _ hA) (fun _ => ?_)⟩
  refine step hA (by kernel_rfl) (c10 w6 (hb.call hA.below)) fun w9 x2 hA hk h51 => ⟨_, rfl, hk, brNB (fun _ => out _ hA) (fun e2 => ?_)⟩
  refine step hA (by kernel_rfl) (c11 w9 (hb.call hA.below)) fun w12 x3 hA hk h52 => ⟨_, rfl, hk, brNB (fun _ => out _ hA) (fun e3 => ?_)⟩
  refine step hA (by kernel_rfl) (boolB (c12 w12 (hb.call hA.below))) fun w15 x4 hA hk _ => ⟨_, rfl, hk, brNB (fun _ => out _ hA) (fun _ => ?_)⟩
  refine step hA (by kernel_rfl) (c13 w15 (hb.call hA.below)) fun w18 x5 hA hk h54 => ⟨_, rfl, hk, brNB (fun _ => out _ hA) (fun e5 => ?_)⟩
  refine step hA (by kernel_rfl) (c14 w18 (hb.call hA.below)) fun w21 x6 hA hk h55 => ⟨_, rfl, hk, brNB (fun _ => out _ hA) (fun e6 => ?_)⟩
  refine step hA (by kernel_rfl) (c15 w21 (hb.call hA.below)) fun w24 x7 hA hk h56 => ⟨_, rfl, hk, brNB (fun _ => out _ hA) (fun e7 => ?_)⟩
  refine step hA (by kernel_rfl) (boolB (c16 w24 (hb.call hA.below))) fun w27 x8 hA hk _ => ⟨_, rfl, hk, brNB (fun _ => out _ hA) (fun _ => ?_)⟩
  exact h _ _ hA.below ⟨_, _, rfl, fun _ => ⟨h51 e2, h52 e3, h54 e5, h55 e6, h56 e7⟩⟩


end Go.Vc.ZW

/- The formulas of functions, printed by a program (VcTool.lean): each is what the generator's formula comes to, by the kernel's reckoning; whoever proves one has the function's contract. -/
set_option maxRecDepth 100000
set_option maxHeartbeats 1000000
set_option linter.unusedVariables false
namespace Vcqz
open Go Go.Vc Go.RowKit
/-! manciple/mancipleref16.Few -/
def h5 : Hints := ⟨[1], [38, 46, 62, 78, 94], [31, 55, 71, 87], [(5, [0, 1, 2, 3, 4, 5, 6, 7, 8, 9, 10, 11, 12, 13, 14, 15, 16, 17])], [], [(3, ⟨[(3, .int .i64), (4, .int .i64)], []⟩), (7, ⟨[(3, .int .i64), (5, .int .i64)], []⟩), (11, ⟨[(3, .int .i64), (6, .int .i64)], []⟩), (15, ⟨[(3, .int .i64), (7, .int .i64)], []⟩)], [], [], []⟩
def f5_vc (b_0 : Int) (b_1 : Int) (b_2 : Int) (b_3 : Int) (b_4 : Int) (b_5 : Int) (b_6 : Int) (b_7 : Int) (b_8 : Int) (b_9 : Int) (b_10 : Int) (b_11a : Option Addr) (b_11n : Nat) (b_11c : Nat) (b_12a : Option Addr) (b_12n : Nat) (b_12c : Nat) (b_13a : Option Addr) (b_13n : Nat) (b_13c : Nat) (b_14a : Option Addr) (b_14n : Nat) (b_14c : Nat) (b_15a : Option Addr) (b_15n : Nat) (b_15c : Nat) (w : World) (R : Ending → World → Prop) : Prop :=
 ∀ (n1 : Nat),
 w.heap.size ≤ n1 →
 ∃ (J2 : Int × Int × Unit → World → Prop),
 ∃ (J3 : Int × Int × Unit → World → Nat),
 (∀ (w4 : World), Bel w w4 → Under [n1] w4 → J2 (IntKind.i64.wrap (IntKind.i64.wrap (IntKind.i64.wrap (IntKind.i64.wrap ((↑b_11n : Int) + (↑b_12n : Int)) + (↑b_13n : Int)) + (↑b_14n : Int)) + (↑b_15n : Int)), 0, ()) w4) ∧
 ∀ (x5 x6 : Int) (w7 : World),
 J2 (x5, x6, ()) w7 →
 (decide (x6 < (↑b_12n : Int)) = true →
 ∃ (ad8 : Addr),
 Gives Proofs.Tryz.prog (Instr.indexAt 26 (Value.slice b_12a b_12n b_12c) (Value.int IntKind.i64 x6)) (Value.pointer (some ad8)) ∧
 ∃ (a9 : Option Addr),
 ∃ (n10 : Nat),
 ∃ (n11 : Nat),
 Reads Proofs.Tryz.prog [] (Instr.loadAt 43 (Value.pointer (some (Addr.mk ad8.block (ad8.off + 1) none)))) w7 (Value.slice a9 n10 n11) ∧
 ∃ (ad12 : Addr),
 Gives Proofs.Tryz.prog (Instr.indexAt 26 (Value.slice b_12a b_12n b_12c) (Value.int IntKind.i64 x6)) (Value.pointer (some ad12)) ∧
 ∃ (a13 : Option Addr),
 ∃ (n14 : Nat),
 ∃ (n15 : Nat),
 Reads Proofs.Tryz.prog [] (Instr.loadAt 43 (Value.pointer (some (Addr.mk ad12.block (ad12.off + 2) none)))) w7 (Value.slice a13 n14 n15) ∧
 ∀ (w16 : World),
 Bel w7 w16 →
 Under [n1] w16 →
 J2 (IntKind.i64.wrap (IntKind.i64.wrap (x5 + (↑n10 : Int)) + (↑n14 : Int)), IntKind.i64.wrap (x6 + 1), ()) w16 ∧
 J3 (IntKind.i64.wrap (IntKind.i64.wrap (x5 + (↑n10 : Int)) + (↑n14 : Int)), IntKind.i64.wrap (x6 + 1), ()) w16 < J3 (x5, x6, ()) w7) ∧
 (decide (x6 < (↑b_12n : Int)) = false →
 ∃ (J17 : Int × Int × Unit → World → Prop),
 ∃ (J18 : Int × Int × Unit → World → Nat),
 J17 (x5, 0, ()) w7 ∧
 ∀ (x19 x20 : Int) (w21 : World),
 J17 (x19, x20, ()) w21 →
 (decide (x20 < (↑b_13n : Int)) = true →
 ∃ (ad22 : Addr),
 Gives Proofs.Tryz.prog (Instr.indexAt 27 (Value.slice b_13a b_13n b_13c) (Value.int IntKind.i64 x20)) (Value.pointer (some ad22)) ∧
 ∃ (a23 : Option Addr),
 ∃ (n24 : Nat),
 ∃ (n25 : Nat),
 Reads Proofs.Tryz.prog [] (Instr.loadAt 43 (Value.pointer (some (Addr.mk ad22.block (ad22.off + 3) none)))) w21 (Value.slice a23 n24 n25) ∧
 J17 (IntKind.i64.wrap (x19 + (↑n24 : Int)), IntKind.i64.wrap (x20 + 1), ()) w21 ∧ J18 (IntKind.i64.wrap (x19 + (↑n24 : Int)), IntKind.i64.wrap (x20 + 1), ()) w21 < J18 (x19, x20, ()) w21) ∧
 (decide (x20 < (↑b_13n : Int)) = false →
 ∃ (J26 : Int × Int × Unit → World → Prop),
 ∃ (J27 : Int × Int × Unit → World → Nat),
 J26 (x19, 0, ()) w21 ∧
 ∀ (x28 x29 : Int) (w30 : World),
 J26 (x28, x29, ()) w30 →
 (decide (x29 < (↑b_14n : Int)) = true →
 ∃ (ad31 : Addr),
 Gives Proofs.Tryz.prog (Instr.indexAt 28 (Value.slice b_14a b_14n b_14c) (Value.int IntKind.i64 x29)) (Value.pointer (some ad31)) ∧
 ∃ (a32 : Option Addr),
 ∃ (n33 : Nat),
 ∃ (n34 : Nat),
 Reads Proofs.Tryz.prog [] (Instr.loadAt 43 (Value.pointer (some (Addr.mk ad31.block (ad31.off + 3) none)))) w30 (Value.slice a32 n33 n34) ∧
 J26 (IntKind.i64.wrap (x28 + (↑n33 : Int)), IntKind.i64.wrap (x29 + 1), ()) w30 ∧
 J27 (IntKind.i64.wrap (x28 + (↑n33 : Int)), IntKind.i64.wrap (x29 + 1), ()) w30 < J27 (x28, x29, ()) w30) ∧
 (decide (x29 < (↑b_14n : Int)) = false →
 ∃ (J35 : Int × Int × Unit → World → Prop),
 ∃ (J36 : Int × Int × Unit → World → Nat),
 J35 (x28, 0, ()) w30 ∧
 ∀ (x37 x38 : Int) (w39 : World),
 J35 (x37, x38, ()) w39 →
 (decide (x38 < (↑b_15n : Int)) = true →
 ∃ (ad40 : Addr),
 Gives Proofs.Tryz.prog (Instr.indexAt 29 (Value.slice b_15a b_15n b_15c) (Value.int IntKind.i64 x38)) (Value.pointer (some ad40)) ∧
 ∃ (a41 : Option Addr),
 ∃ (n42 : Nat),
 ∃ (n43 : Nat),
 Reads Proofs.Tryz.prog [] (Instr.loadAt 43 (Value.pointer (some (Addr.mk ad40.block (ad40.off + 3) none)))) w39 (Value.slice a41 n42 n43) ∧
 J35 (IntKind.i64.wrap (x37 + (↑n42 : Int)), IntKind.i64.wrap (x38 + 1), ()) w39 ∧
 J36 (IntKind.i64.wrap (x37 + (↑n42 : Int)), IntKind.i64.wrap (x38 + 1), ()) w39 < J36 (x37, x38, ()) w39) ∧
 (decide (x38 < (↑b_15n : Int)) = false → R (Ending.returned (Value.bool (decide (x37 ≤ 600)))) w39))))
theorem f5_eq (b_0 : Int) (b_1 : Int) (b_2 : Int) (b_3 : Int) (b_4 : Int) (b_5 : Int) (b_6 : Int) (b_7 : Int) (b_8 : Int) (b_9 : Int) (b_10 : Int) (b_11a : Option Addr) (b_11n : Nat) (b_11c : Nat) (b_12a : Option Addr) (b_12n : Nat) (b_12c : Nat) (b_13a : Option Addr) (b_13n : Nat) (b_13c : Nat) (b_14a : Option Addr) (b_14n : Nat) (b_14c : Nat) (b_15a : Option Addr) (b_15n : Nat) (b_15c : Nat) (w : World) (R : Ending → World → Prop) : (fnF Go.Proofs.Tryz.prog h5 Go.Proofs.Tryz.f5 [Value.agg
 #[Value.int IntKind.i64 b_0, Value.int IntKind.i64 b_1, Value.int IntKind.i64 b_2, Value.int IntKind.i64 b_3, Value.int IntKind.i64 b_4, Value.int IntKind.i64 b_5, Value.int IntKind.i64 b_6, Value.int IntKind.i64 b_7,
 Value.int IntKind.i64 b_8, Value.int IntKind.i64 b_9, Value.int IntKind.i64 b_10, Value.slice b_11a b_11n b_11c, Value.slice b_12a b_12n b_12c, Value.slice b_13a b_13n b_13c, Value.slice b_14a b_14n b_14c,
 Value.slice b_15a b_15n b_15c]] w R).den = f5_vc b_0 b_1 b_2 b_3 b_4 b_5 b_6 b_7 b_8 b_9 b_10 b_11a b_11n b_11c b_12a b_12n b_12c b_13a b_13n b_13c b_14a b_14n b_14c b_15a b_15n b_15c w R := by kernel_rfl
theorem f5_calls (b_0 : Int) (b_1 : Int) (b_2 : Int) (b_3 : Int) (b_4 : Int) (b_5 : Int) (b_6 : Int) (b_7 : Int) (b_8 : Int) (b_9 : Int) (b_10 : Int) (b_11a : Option Addr) (b_11n : Nat) (b_11c : Nat) (b_12a : Option Addr) (b_12n : Nat) (b_12c : Nat) (b_13a : Option Addr) (b_13n : Nat) (b_13c : Nat) (b_14a : Option Addr) (b_14n : Nat) (b_14c : Nat) (b_15a : Option Addr) (b_15n : Nat) (b_15c : Nat) (w : World) (R : Ending → World → Prop) (h : f5_vc b_0 b_1 b_2 b_3 b_4 b_5 b_6 b_7 b_8 b_9 b_10 b_11a b_11n b_11c b_12a b_12n b_12c b_13a b_13n b_13c b_14a b_14n b_14c b_15a b_15n b_15c w R) : Calls Go.Proofs.Tryz.prog 5 (List.toArray [Value.agg
 #[Value.int IntKind.i64 b_0, Value.int IntKind.i64 b_1, Value.int IntKind.i64 b_2, Value.int IntKind.i64 b_3, Value.int IntKind.i64 b_4, Value.int IntKind.i64 b_5, Value.int IntKind.i64 b_6, Value.int IntKind.i64 b_7,
 Value.int IntKind.i64 b_8, Value.int IntKind.i64 b_9, Value.int IntKind.i64 b_10, Value.slice b_11a b_11n b_11c, Value.slice b_12a b_12n b_12c, Value.slice b_13a b_13n b_13c, Value.slice b_14a b_14n b_14c,
 Value.slice b_15a b_15n b_15c]]) w R :=
 fn_sound (H := h5) (fn := Go.Proofs.Tryz.f5) (by kernel_rfl) (by kernel_rfl) (by kernel_rfl) ((f5_eq b_0 b_1 b_2 b_3 b_4 b_5 b_6 b_7 b_8 b_9 b_10 b_11a b_11n b_11c b_12a b_12n b_12c b_13a b_13n b_13c b_14a b_14n b_14c b_15a b_15n b_15c w R).mpr h)


/-! manciple/manciplelaw34.works -/
def h6 : Hints := ⟨[], [], [8, 13], [], [], [], [], [], []⟩
def f6_vc  (w : World) (R : Ending → World → Prop) : Prop :=
 OpW Proofs.Tryz.prog (valueS (Instr.buildSlice 43 1 #[(0, Value.agg #[Value.int IntKind.i64 0, Value.int IntKind.i64 0, Value.int IntKind.i64 1000])])) w fun (v1 : Value) (w2 : World) =>
 ∃ (a3 : Option Addr),
 ∃ (n4 : Nat),
 ∃ (n5 : Nat),
 v1 = Value.slice a3 n4 n5 ∧
 Calls Proofs.Tryz.prog 17 #[Value.agg #[Value.int IntKind.i64 6, Value.int IntKind.i64 1, Value.int IntKind.i64 2, Value.int IntKind.i64 3, Value.slice a3 n4 n5]] w2 fun (e6 : Ending) (w7 : World) =>
 ∃ (s8 : ByteArray),
 e6 = Ending.returned (Value.string s8) ∧
 ((s8.toList == (ByteArray.mk #[111, 102, 102, 101, 114, 101, 100, 32, 102, 114, 97, 109, 101, 32, 49, 32, 105, 100, 32, 50, 32, 97, 103, 101, 110, 116, 32, 51, 32, 99, 112, 117, 115, 58, 49]).toList) = true →
 Calls Proofs.Tryz.prog 18 #[Value.agg #[Value.int IntKind.i64 10, Value.slice none 0 0]] w7 fun (e9 : Ending) (w10 : World) =>
 ∃ (s11 : ByteArray),
 e9 = Ending.returned (Value.string s11) ∧
 ((s11.toList == (ByteArray.mk #[110, 111, 32, 102, 114, 97, 109, 101, 119, 111, 114, 107]).toList) = true →
 Calls Proofs.Tryz.prog 7
 #[Value.agg
 #[Value.int IntKind.i64 0, Value.int IntKind.i64 0, Value.int IntKind.i64 0, Value.int IntKind.i64 0, Value.int IntKind.i64 0, Value.int IntKind.i64 0, Value.int IntKind.i64 0, Value.int IntKind.i64 0,
 Value.int IntKind.i64 0, Value.int IntKind.i64 0, Value.int IntKind.i64 0, Value.slice none 0 0, Value.slice none 0 0, Value.slice none 0 0, Value.slice none 0 0, Value.slice none 0 0]]
 w10 fun (e12 : Ending) (w13 : World) =>
 ∃ (s14 : ByteArray), e12 = Ending.returned (Value.string s14) ∧ R (Ending.returned (Value.bool (s14.toList == (ByteArray.mk #[110, 111, 119, 32, 48, 32, 108, 97, 115, 116, 32, 48, 10]).toList))) w13) ∧
 ((s11.toList == (ByteArray.mk #[110, 111, 32, 102, 114, 97, 109, 101, 119, 111, 114, 107]).toList) = false → R (Ending.returned (Value.bool false)) w10)) ∧
 ((s8.toList == (ByteArray.mk #[111, 102, 102, 101, 114, 101, 100, 32, 102, 114, 97, 109, 101, 32, 49, 32, 105, 100, 32, 50, 32, 97, 103, 101, 110, 116, 32, 51, 32, 99, 112, 117, 115, 58, 49]).toList) = false →
 R (Ending.returned (Value.bool false)) w7)
theorem f6_eq  (w : World) (R : Ending → World → Prop) : (fnF Go.Proofs.Tryz.prog h6 Go.Proofs.Tryz.f6 [] w R).den = f6_vc  w R := by kernel_rfl
theorem f6_calls  (w : World) (R : Ending → World → Prop) (h : f6_vc  w R) : Calls Go.Proofs.Tryz.prog 6 (List.toArray []) w R :=
 fn_sound (H := h6) (fn := Go.Proofs.Tryz.f6) (by kernel_rfl) (by kernel_rfl) (by kernel_rfl) ((f6_eq  w R).mpr h)


/-! manciple/tell.Book -/
def h7 : Hints := ⟨[1], [25, 31, 36, 43, 56, 63, 89, 96, 112, 119, 135], [30, 42, 62, 80, 95, 118], [(3, [0, 1, 2, 4, 5, 3, 6, 7, 8]), (12, [0, 1, 2, 4, 5, 7, 8, 3, 6, 9, 10, 11]), (17, [0, 1, 3, 4, 6, 7, 9, 10, 2, 5, 8, 11, 12, 13]), (25, [0, 1, 2, 4, 5, 7, 8, 10, 11, 3, 6, 9, 12, 13, 14]), (30, [0, 1, 2, 4, 5, 7, 8, 10, 11, 3, 6, 9, 12, 13, 14])], [], [(5, ⟨[(29, .int .i64)], []⟩), (10, ⟨[(41, .int .i64)], []⟩), (15, ⟨[(61, .int .i64)], []⟩), (23, ⟨[(94, .int .i64)], []⟩), (28, ⟨[(117, .int .i64)], []⟩)], [], [], []⟩
def f7_vc (b_0 : Int) (b_1 : Int) (b_2 : Int) (b_3 : Int) (b_4 : Int) (b_5 : Int) (b_6 : Int) (b_7 : Int) (b_8 : Int) (b_9 : Int) (b_10 : Int) (b_11a : Option Addr) (b_11n : Nat) (b_11c : Nat) (b_12a : Option Addr) (b_12n : Nat) (b_12c : Nat) (b_13a : Option Addr) (b_13n : Nat) (b_13c : Nat) (b_14a : Option Addr) (b_14n : Nat) (b_14c : Nat) (b_15a : Option Addr) (b_15n : Nat) (b_15c : Nat) (w : World) (R : Ending → World → Prop) : Prop :=
 ∀ (n1 : Nat),
 w.heap.size ≤ n1 →
 ∀ (w2 : World),
 Bel w w2 →
 Under [n1] w2 →
 OpW Proofs.Tryz.prog (valueS (Instr.alloc 65 true (Value.tuple #[]))) w2 fun (v3 : Value) (w4 : World) =>
 ∃ (ad5 : Addr),
 v3 = Value.pointer (some ad5) ∧
 Keeps [n1] w2 w4 ∧
 ∀ (w6 : World),
 Bel w4 w6 →
 Under [n1] w6 →
 Calls Proofs.Tryz.prog 23 #[Value.int IntKind.i64 b_9] w6 fun (e7 : Ending) (w8 : World) =>
 ∃ (s9 : ByteArray),
 e7 = Ending.returned (Value.string s9) ∧
 Keeps [n1] w6 w8 ∧
 Calls Proofs.Tryz.prog 23 #[Value.int IntKind.i64 b_10] w8 fun (e10 : Ending) (w11 : World) =>
 ∃ (s12 : ByteArray),
 e10 = Ending.returned (Value.string s12) ∧
 Keeps [n1] w8 w11 ∧
 OpW Proofs.Tryz.prog
 (valueS (Instr.buildSlice 66 4 #[(0, Value.string (ByteArray.mk #[110, 111, 119])), (1, Value.string s9), (2, Value.string (ByteArray.mk #[108, 97, 115, 116])), (3, Value.string s12)])) w11
 fun (v13 : Value) (w14 : World) =>
 ∃ (a15 : Option Addr),
 ∃ (n16 : Nat),
 ∃ (n17 : Nat),
 v13 = Value.slice a15 n16 n17 ∧
 Keeps [n1] w11 w14 ∧
 OpW Proofs.Tryz.prog (invokeS (Value.func (Fn.func 19) #[] #[Value.pointer (some ad5)]) #[Value.slice a15 n16 n17]) w14 fun (v18 : Value) (w19 : World) =>
 v18 = Value.tuple #[] ∧
 Keeps [n1] w14 w19 ∧
 ∃ (J20 : Int × Unit → World → Prop),
 ∃ (J21 : Int × Unit → World → Nat),
 J20 (0, ()) w19 ∧
 ∀ (x22 : Int) (w23 : World),
 J20 (x22, ()) w23 →
 (decide (x22 < (↑b_11n : Int)) = true →
 ∃ (ad24 : Addr),
 Gives Proofs.Tryz.prog (Instr.indexAt 25 (Value.slice b_11a b_11n b_11c) (Value.int IntKind.i64 x22)) (Value.pointer (some ad24)) ∧
 ∃ (x25 : Int),
 ∃ (x26 : Int),
 ∃ (x27 : Int),
 ∃ (b28 : Bool),
 ∃ (b29 : Bool),
 ∃ (x30 : Int),
 ∃ (x31 : Int),
 Reads Proofs.Tryz.prog [] (Instr.loadAt 37 (Value.pointer (some ad24))) w23
 (Value.agg
 #[Value.int IntKind.i64 x25, Value.int IntKind.i64 x26, Value.int IntKind.i64 x27, Value.bool b28, Value.bool b29, Value.int IntKind.i64 x30,
 Value.int IntKind.i64 x31]) ∧
 OpW Proofs.Tryz.prog (valueS (Instr.alloc 37 true (Value.tuple #[]))) w23 fun (v32 : Value) (w33 : World) =>
 ∃ (ad34 : Addr),
 v32 = Value.pointer (some ad34) ∧
 Keeps [n1] w23 w33 ∧
 OpW Proofs.Tryz.prog
 (skipS
 (Instr.storeAt 37 (Value.pointer (some ad34))
 (Value.agg
 #[Value.int IntKind.i64 x25, Value.int IntKind.i64 x26, Value.int IntKind.i64 x27, Value.bool b28, Value.bool b29,
 Value.int IntKind.i64 x30, Value.int IntKind.i64 x31])))
 w33 fun (v35 : Value) (w36 : World) =>
 Keeps [n1] w33 w36 ∧
 ∃ (x37 : Int),
 ∃ (x38 : Int),
 ∃ (x39 : Int),
 ∃ (b40 : Bool),
 ∃ (b41 : Bool),
 ∃ (x42 : Int),
 ∃ (x43 : Int),
 Reads Proofs.Tryz.prog [] (Instr.loadAt 37 (Value.pointer (some ad34))) w36
 (Value.agg
 #[Value.int IntKind.i64 x37, Value.int IntKind.i64 x38, Value.int IntKind.i64 x39, Value.bool b40, Value.bool b41,
 Value.int IntKind.i64 x42, Value.int IntKind.i64 x43]) ∧
 Calls Proofs.Tryz.prog 24
 #[Value.agg
 #[Value.int IntKind.i64 x37, Value.int IntKind.i64 x38, Value.int IntKind.i64 x39, Value.bool b40, Value.bool b41,
 Value.int IntKind.i64 x42, Value.int IntKind.i64 x43]]
 w36 fun (e44 : Ending) (w45 : World) =>
 ∃ (a46 : Option Addr),
 ∃ (n47 : Nat),
 ∃ (n48 : Nat),
 e44 = Ending.returned (Value.slice a46 n47 n48) ∧
 Keeps [n1] w36 w45 ∧
 OpW Proofs.Tryz.prog
 (invokeS (Value.func (Fn.func 19) #[] #[Value.pointer (some ad5)]) #[Value.slice a46 n47 n48]) w45
 fun (v49 : Value) (w50 : World) =>
 v49 = Value.tuple #[] ∧
 Keeps [n1] w45 w50 ∧
 J20 (IntKind.i64.wrap (x22 + 1), ()) w50 ∧
 J21 (IntKind.i64.wrap (x22 + 1), ()) w50 < J21 (x22, ()) w23) ∧
 (decide (x22 < (↑b_11n : Int)) = false →
 ∃ (J51 : Int × Unit → World → Prop),
 ∃ (J52 : Int × Unit → World → Nat),
 J51 (0, ()) w23 ∧
 ∀ (x53 : Int) (w54 : World),
 J51 (x53, ()) w54 →
 (decide (x53 < (↑b_12n : Int)) = true →
 ∃ (ad55 : Addr),
 Gives Proofs.Tryz.prog (Instr.indexAt 26 (Value.slice b_12a b_12n b_12c) (Value.int IntKind.i64 x53)) (Value.pointer (some ad55)) ∧
 ∃ (x56 : Int),
 ∃ (a57 : Option Addr),
 ∃ (n58 : Nat),
 ∃ (n59 : Nat),
 ∃ (a60 : Option Addr),
 ∃ (n61 : Nat),
 ∃ (n62 : Nat),
 Reads Proofs.Tryz.prog [] (Instr.loadAt 45 (Value.pointer (some ad55))) w54
 (Value.agg #[Value.int IntKind.i64 x56, Value.slice a57 n58 n59, Value.slice a60 n61 n62]) ∧
 OpW Proofs.Tryz.prog (valueS (Instr.alloc 45 true (Value.tuple #[]))) w54 fun (v63 : Value) (w64 : World) =>
 ∃ (ad65 : Addr),
 v63 = Value.pointer (some ad65) ∧
 Keeps [n1] w54 w64 ∧
 OpW Proofs.Tryz.prog
 (skipS
 (Instr.storeAt 45 (Value.pointer (some ad65))
 (Value.agg #[Value.int IntKind.i64 x56, Value.slice a57 n58 n59, Value.slice a60 n61 n62])))
 w64 fun (v66 : Value) (w67 : World) =>
 Keeps [n1] w64 w67 ∧
 ∃ (x68 : Int),
 Reads Proofs.Tryz.prog [] (Instr.loadAt 2 (Value.pointer (some ad65))) w67 (Value.int IntKind.i64 x68) ∧
 ∃ (a69 : Option Addr),
 ∃ (n70 : Nat),
 ∃ (n71 : Nat),
 Reads Proofs.Tryz.prog [] (Instr.loadAt 43 (Value.pointer (some (Addr.mk ad65.block (ad65.off + 1) none)))) w67
 (Value.slice a69 n70 n71) ∧
 ∃ (a72 : Option Addr),
 ∃ (n73 : Nat),
 ∃ (n74 : Nat),
 Reads Proofs.Tryz.prog []
 (Instr.loadAt 43 (Value.pointer (some (Addr.mk ad65.block (ad65.off + 2) none)))) w67
 (Value.slice a72 n73 n74) ∧
 ∀ (w75 : World),
 Bel w67 w75 →
 Under [n1] w75 →
 Calls Proofs.Tryz.prog 23 #[Value.int IntKind.i64 x68] w75 fun (e76 : Ending) (w77 : World) =>
 ∃ (s78 : ByteArray),
 e76 = Ending.returned (Value.string s78) ∧
 Keeps [n1] w75 w77 ∧
 Reads Proofs.Tryz.prog []
 (Instr.loadAt 43 (Value.pointer (some (Addr.mk ad65.block (ad65.off + 2) none))))
 w77 (Value.slice a72 n73 n74) ∧
 Reads Proofs.Tryz.prog []
 (Instr.loadAt 43 (Value.pointer (some (Addr.mk ad65.block (ad65.off + 1) none))))
 w77 (Value.slice a69 n70 n71) ∧
 Calls Proofs.Tryz.prog 25 #[Value.slice a69 n70 n71] w77
 fun (e79 : Ending) (w80 : World) =>
 ∃ (s81 : ByteArray),
 e79 = Ending.returned (Value.string s81) ∧
 Keeps [n1] w77 w80 ∧
 Reads Proofs.Tryz.prog []
 (Instr.loadAt 43
 (Value.pointer (some (Addr.mk ad65.block (ad65.off + 2) none))))
 w80 (Value.slice a72 n73 n74) ∧
 Calls Proofs.Tryz.prog 25 #[Value.slice a72 n73 n74] w80
 fun (e82 : Ending) (w83 : World) =>
 ∃ (s84 : ByteArray),
 e82 = Ending.returned (Value.string s84) ∧
 Keeps [n1] w80 w83 ∧
 OpW Proofs.Tryz.prog
 (valueS
 (Instr.buildSlice 66 6
 #[(0,
 Value.string (ByteArray.mk #[97, 103, 101, 110, 116])),
 (1, Value.string s78),
 (2,
 Value.string (ByteArray.mk #[116, 111, 116, 97, 108])),
 (3, Value.string s81),
 (4, Value.string (ByteArray.mk #[102, 114, 101, 101])),
 (5, Value.string s84)]))
 w83 fun (v85 : Value) (w86 : World) =>
 ∃ (a87 : Option Addr),
 ∃ (n88 : Nat),
 ∃ (n89 : Nat),
 v85 = Value.slice a87 n88 n89 ∧
 Keeps [n1] w83 w86 ∧
 OpW Proofs.Tryz.prog
 (invokeS
 (Value.func (Fn.func 19) #[]
 #[Value.pointer (some ad5)])
 #[Value.slice a87 n88 n89])
 w86 fun (v90 : Value) (w91 : World) =>
 v90 = Value.tuple #[] ∧
 Keeps [n1] w86 w91 ∧
 J51 (IntKind.i64.wrap (x53 + 1), ()) w91 ∧
 J52 (IntKind.i64.wrap (x53 + 1), ()) w91 <
 J52 (x53, ()) w54) ∧
 (decide (x53 < (↑b_12n : Int)) = false →
 ∃ (J92 : Int × Unit → World → Prop),
 ∃ (J93 : Int × Unit → World → Nat),
 J92 (0, ()) w54 ∧
 ∀ (x94 : Int) (w95 : World),
 J92 (x94, ()) w95 →
 (decide (x94 < (↑b_13n : Int)) = true →
 ∃ (ad96 : Addr),
 Gives Proofs.Tryz.prog (Instr.indexAt 27 (Value.slice b_13a b_13n b_13c) (Value.int IntKind.i64 x94)) (Value.pointer (some ad96)) ∧
 ∃ (x97 : Int),
 ∃ (x98 : Int),
 ∃ (x99 : Int),
 ∃ (a100 : Option Addr),
 ∃ (n101 : Nat),
 ∃ (n102 : Nat),
 ∃ (x103 : Int),
 Reads Proofs.Tryz.prog [] (Instr.loadAt 47 (Value.pointer (some ad96))) w95
 (Value.agg
 #[Value.int IntKind.i64 x97, Value.int IntKind.i64 x98, Value.int IntKind.i64 x99, Value.slice a100 n101 n102,
 Value.int IntKind.i64 x103]) ∧
 OpW Proofs.Tryz.prog (valueS (Instr.alloc 47 true (Value.tuple #[]))) w95 fun (v104 : Value) (w105 : World) =>
 ∃ (ad106 : Addr),
 v104 = Value.pointer (some ad106) ∧
 Keeps [n1] w95 w105 ∧
 OpW Proofs.Tryz.prog
 (skipS
 (Instr.storeAt 47 (Value.pointer (some ad106))
 (Value.agg
 #[Value.int IntKind.i64 x97, Value.int IntKind.i64 x98, Value.int IntKind.i64 x99,
 Value.slice a100 n101 n102, Value.int IntKind.i64 x103])))
 w105 fun (v107 : Value) (w108 : World) =>
 Keeps [n1] w105 w108 ∧
 ∃ (x109 : Int),
 Reads Proofs.Tryz.prog [] (Instr.loadAt 2 (Value.pointer (some ad106))) w108
 (Value.int IntKind.i64 x109) ∧
 ∃ (x110 : Int),
 Reads Proofs.Tryz.prog []
 (Instr.loadAt 2 (Value.pointer (some (Addr.mk ad106.block (ad106.off + 1) none)))) w108
 (Value.int IntKind.i64 x110) ∧
 ∃ (x111 : Int),
 Reads Proofs.Tryz.prog []
 (Instr.loadAt 2 (Value.pointer (some (Addr.mk ad106.block (ad106.off + 2) none)))) w108
 (Value.int IntKind.i64 x111) ∧
 ∃ (a112 : Option Addr),
 ∃ (n113 : Nat),
 ∃ (n114 : Nat),
 Reads Proofs.Tryz.prog []
 (Instr.loadAt 43 (Value.pointer (some (Addr.mk ad106.block (ad106.off + 3) none))))
 w108 (Value.slice a112 n113 n114) ∧
 ∀ (w115 : World),
 Bel w108 w115 →
 Under [n1] w115 →
 Calls Proofs.Tryz.prog 23 #[Value.int IntKind.i64 x109] w115
 fun (e116 : Ending) (w117 : World) =>
 ∃ (s118 : ByteArray),
 e116 = Ending.returned (Value.string s118) ∧
 Keeps [n1] w115 w117 ∧
 Reads Proofs.Tryz.prog []
 (Instr.loadAt 43
 (Value.pointer (some (Addr.mk ad106.block (ad106.off + 3) none))))
 w117 (Value.slice a112 n113 n114) ∧
 Reads Proofs.Tryz.prog []
 (Instr.loadAt 2
 (Value.pointer (some (Addr.mk ad106.block (ad106.off + 2) none))))
 w117 (Value.int IntKind.i64 x111) ∧
 Reads Proofs.Tryz.prog []
 (Instr.loadAt 2
 (Value.pointer
 (some (Addr.mk ad106.block (ad106.off + 1) none))))
 w117 (Value.int IntKind.i64 x110) ∧
 Calls Proofs.Tryz.prog 23 #[Value.int IntKind.i64 x110] w117
 fun (e119 : Ending) (w120 : World) =>
 ∃ (s121 : ByteArray),
 e119 = Ending.returned (Value.string s121) ∧
 Keeps [n1] w117 w120 ∧
 Reads Proofs.Tryz.prog []
 (Instr.loadAt 43
 (Value.pointer
 (some (Addr.mk ad106.block (ad106.off + 3) none))))
 w120 (Value.slice a112 n113 n114) ∧
 Reads Proofs.Tryz.prog []
 (Instr.loadAt 2
 (Value.pointer
 (some
 (Addr.mk ad106.block (ad106.off + 2) none))))
 w120 (Value.int IntKind.i64 x111) ∧
 Calls Proofs.Tryz.prog 23 #[Value.int IntKind.i64 x111]
 w120 fun (e122 : Ending) (w123 : World) =>
 ∃ (s124 : ByteArray),
 e122 = Ending.returned (Value.string s124) ∧
 Keeps [n1] w120 w123 ∧
 Reads Proofs.Tryz.prog []
 (Instr.loadAt 43
 (Value.pointer
 (some
 (Addr.mk ad106.block (ad106.off + 3)
 none))))
 w123 (Value.slice a112 n113 n114) ∧
 Calls Proofs.Tryz.prog 25
 #[Value.slice a112 n113 n114] w123
 fun (e125 : Ending) (w126 : World) =>
 ∃ (s127 : ByteArray),
 e125 =
 Ending.returned (Value.string s127) ∧
 Keeps [n1] w123 w126 ∧
 OpW Proofs.Tryz.prog
 (valueS
 (Instr.buildSlice 66 7
 #[(0,
 Value.string
 (ByteArray.mk
 #[111, 102, 102, 101,
 114])),
 (1, Value.string s118),
 (2,
 Value.string
 (ByteArray.mk
 #[102, 114, 97, 109,
 101])),
 (3, Value.string s121),
 (4,
 Value.string
 (ByteArray.mk
 #[97, 103, 101, 110,
 116])),
 (5, Value.string s124),
 (6, Value.string s127)]))
 w126
 fun (v128 : Value) (w129 : World) =>
 ∃ (a130 : Option Addr),
 ∃ (n131 : Nat),
 ∃ (n132 : Nat),
 v128 =
 Value.slice a130 n131
 n132 ∧
 Keeps [n1] w126 w129 ∧
 ∃ (x133 : Int),
 Reads Proofs.Tryz.prog
 []
 (Instr.loadAt 2
 (Value.pointer
 (some
 (Addr.mk
 ad106.block
 (ad106.off +
 4)
 none))))
 w129
 (Value.int
 IntKind.i64
 x133) ∧
 ((x133 != 0) = true →
 ∃ (x134 : Int),
 Reads
 Proofs.Tryz.prog
 []
 (Instr.loadAt
 2
 (Value.pointer
 (some
 (Addr.mk
 ad106.block
 (ad106.off +
 4)
 none))))
 w129
 (Value.int
 IntKind.i64
 x134) ∧
 Calls
 Proofs.Tryz.prog
 23
 #[Value.int
 IntKind.i64
 x134]
 w129
 fun
 (e135 :
 Ending)
 (w136 :
 World) =>
 ∃ (s137 :
 ByteArray),
 e135 =
 Ending.returned
 (Value.string
 s137) ∧
 Keeps
 [n1]
 w129
 w136 ∧
 OpW
 Proofs.Tryz.prog
 (valueS
 (Instr.buildSlice
 66
 2
 #[(0,
 Value.string
 (ByteArray.mk
 #[117,
 110,
 116,
 105,
 108])),
 (1,
 Value.string
 s137)]))
 w136
 fun
 (v138 :
 Value)
 (w139 :
 World) =>
 ∃
 (a140
 :
 Option
 Addr),
 ∃
 (n141
 :
 Nat),
 ∃
 (n142
 :
 Nat),
 v138 =
 Value.slice
 a140
 n141
 n142 ∧
 Keeps
 [n1]
 w136
 w139 ∧
 OpW
 Proofs.Tryz.prog
 (builtin
 Builtin.append
 #[66,
 66]
 66
 #[false,
 false]
 #[Value.slice
 a130
 n131
 n132,
 Value.slice
 a140
 n141
 n142])
 w139
 fun
 (v143 :
 Value)
 (w144 :
 World) =>
 ∃
 (a145
 :
 Option
 Addr),
 ∃
 (n146
 :
 Nat),
 ∃
 (n147
 :
 Nat),
 v143 =
 Value.slice
 a145
 n146
 n147 ∧
 Keeps
 [n1]
 w139
 w144 ∧
 OpW
 Proofs.Tryz.prog
 (invokeS
 (Value.func
 (Fn.func
 19)
 #[]
 #[Value.pointer
 (some
 ad5)])
 #[Value.slice
 a145
 n146
 n147])
 w144
 fun
 (v148 :
 Value)
 (w149 :
 World) =>
 v148 =
 Value.tuple
 #[] ∧
 Keeps
 [n1]
 w144
 w149 ∧
 J92
 (IntKind.i64.wrap
 (x94 +
 1),
 ())
 w149 ∧
 J93
 (IntKind.i64.wrap
 (x94 +
 1),
 ())
 w149 <
 J93
 (x94,
 ())
 w95) ∧
 ((x133 != 0) =
 false →
 OpW
 Proofs.Tryz.prog
 (invokeS
 (Value.func
 (Fn.func 19)
 #[]
 #[Value.pointer
 (some
 ad5)])
 #[Value.slice
 a130 n131
 n132])
 w129
 fun
 (v150 : Value)
 (w151 :
 World) =>
 v150 =
 Value.tuple
 #[] ∧
 Keeps [n1]
 w129
 w151 ∧
 J92
 (IntKind.i64.wrap
 (x94 +
 1),
 ())
 w151 ∧
 J93
 (IntKind.i64.wrap
 (x94 +
 1),
 ())
 w151 <
 J93
 (x94,
 ())
 w95)) ∧
 (decide (x94 < (↑b_13n : Int)) = false →
 ∃ (J152 : Int × Unit → World → Prop),
 ∃ (J153 : Int × Unit → World → Nat),
 J152 (0, ()) w95 ∧
 ∀ (x154 : Int) (w155 : World),
 J152 (x154, ()) w155 →
 (decide (x154 < (↑b_14n : Int)) = true →
 ∃ (ad156 : Addr),
 Gives Proofs.Tryz.prog (Instr.indexAt 28 (Value.slice b_14a b_14n b_14c) (Value.int IntKind.i64 x154))
 (Value.pointer (some ad156)) ∧
 ∃ (x157 : Int),
 ∃ (x158 : Int),
 ∃ (x159 : Int),
 ∃ (a160 : Option Addr),
 ∃ (n161 : Nat),
 ∃ (n162 : Nat),
 Reads Proofs.Tryz.prog [] (Instr.loadAt 49 (Value.pointer (some ad156))) w155
 (Value.agg
 #[Value.int IntKind.i64 x157, Value.int IntKind.i64 x158, Value.int IntKind.i64 x159,
 Value.slice a160 n161 n162]) ∧
 OpW Proofs.Tryz.prog (valueS (Instr.alloc 49 true (Value.tuple #[]))) w155
 fun (v163 : Value) (w164 : World) =>
 ∃ (ad165 : Addr),
 v163 = Value.pointer (some ad165) ∧
 Keeps [n1] w155 w164 ∧
 OpW Proofs.Tryz.prog
 (skipS
 (Instr.storeAt 49 (Value.pointer (some ad165))
 (Value.agg
 #[Value.int IntKind.i64 x157, Value.int IntKind.i64 x158, Value.int IntKind.i64 x159,
 Value.slice a160 n161 n162])))
 w164 fun (v166 : Value) (w167 : World) =>
 Keeps [n1] w164 w167 ∧
 ∃ (x168 : Int),
 Reads Proofs.Tryz.prog [] (Instr.loadAt 2 (Value.pointer (some ad165))) w167
 (Value.int IntKind.i64 x168) ∧
 ∃ (x169 : Int),
 Reads Proofs.Tryz.prog []
 (Instr.loadAt 2 (Value.pointer (some (Addr.mk ad165.block (ad165.off + 1) none))))
 w167 (Value.int IntKind.i64 x169) ∧
 ∃ (x170 : Int),
 Reads Proofs.Tryz.prog []
 (Instr.loadAt 2 (Value.pointer (some (Addr.mk ad165.block (ad165.off + 2) none))))
 w167 (Value.int IntKind.i64 x170) ∧
 ∃ (a171 : Option Addr),
 ∃ (n172 : Nat),
 ∃ (n173 : Nat),
 Reads Proofs.Tryz.prog []
 (Instr.loadAt 43
 (Value.pointer (some (Addr.mk ad165.block (ad165.off + 3) none))))
 w167 (Value.slice a171 n172 n173) ∧
 ∀ (w174 : World),
 Bel w167 w174 →
 Under [n1] w174 →
 Calls Proofs.Tryz.prog 23 #[Value.int IntKind.i64 x168] w174
 fun (e175 : Ending) (w176 : World) =>
 ∃ (s177 : ByteArray),
 e175 = Ending.returned (Value.string s177) ∧
 Keeps [n1] w174 w176 ∧
 Reads Proofs.Tryz.prog []
 (Instr.loadAt 43
 (Value.pointer
 (some (Addr.mk ad165.block (ad165.off + 3) none))))
 w176 (Value.slice a171 n172 n173) ∧
 Reads Proofs.Tryz.prog []
 (Instr.loadAt 2
 (Value.pointer
 (some (Addr.mk ad165.block (ad165.off + 2) none))))
 w176 (Value.int IntKind.i64 x170) ∧
 Reads Proofs.Tryz.prog []
 (Instr.loadAt 2
 (Value.pointer
 (some
 (Addr.mk ad165.block (ad165.off + 1) none))))
 w176 (Value.int IntKind.i64 x169) ∧
 Calls Proofs.Tryz.prog 23 #[Value.int IntKind.i64 x169]
 w176 fun (e178 : Ending) (w179 : World) =>
 ∃ (s180 : ByteArray),
 e178 = Ending.returned (Value.string s180) ∧
 Keeps [n1] w176 w179 ∧
 Reads Proofs.Tryz.prog []
 (Instr.loadAt 43
 (Value.pointer
 (some
 (Addr.mk ad165.block (ad165.off + 3)
 none))))
 w179 (Value.slice a171 n172 n173) ∧
 Reads Proofs.Tryz.prog []
 (Instr.loadAt 2
 (Value.pointer
 (some
 (Addr.mk ad165.block (ad165.off + 2)
 none))))
 w179 (Value.int IntKind.i64 x170) ∧
 Calls Proofs.Tryz.prog 23
 #[Value.int IntKind.i64 x170] w179
 fun (e181 : Ending) (w182 : World) =>
 ∃ (s183 : ByteArray),
 e181 =
 Ending.returned
 (Value.string s183) ∧
 Keeps [n1] w179 w182 ∧
 Reads Proofs.Tryz.prog []
 (Instr.loadAt 43
 (Value.pointer
 (some
 (Addr.mk ad165.block
 (ad165.off + 3) none))))
 w182
 (Value.slice a171 n172 n173) ∧
 Calls Proofs.Tryz.prog 25
 #[Value.slice a171 n172 n173]
 w182
 fun (e184 : Ending)
 (w185 : World) =>
 ∃ (s186 : ByteArray),
 e184 =
 Ending.returned
 (Value.string s186) ∧
 Keeps [n1] w182 w185 ∧
 OpW Proofs.Tryz.prog
 (valueS
 (Instr.buildSlice 66 6
 #[(0,
 Value.string
 (ByteArray.mk
 #[116, 97,
 115,
 107])),
 (1,
 Value.string
 s177),
 (2,
 Value.string
 s180),
 (3,
 Value.string
 (ByteArray.mk
 #[97, 103,
 101, 110,
 116])),
 (4,
 Value.string
 s183),
 (5,
 Value.string
 s186)]))
 w185
 fun (v187 : Value)
 (w188 : World) =>
 ∃ (a189 : Option Addr),
 ∃ (n190 : Nat),
 ∃ (n191 : Nat),
 v187 =
 Value.slice
 a189 n190
 n191 ∧
 Keeps [n1] w185
 w188 ∧
 OpW
 Proofs.Tryz.prog
 (invokeS
 (Value.func
 (Fn.func
 19)
 #[]
 #[Value.pointer
 (some
 ad5)])
 #[Value.slice
 a189
 n190
 n191])
 w188
 fun
 (v192 :
 Value)
 (w193 :
 World) =>
 v192 =
 Value.tuple
 #[] ∧
 Keeps [n1]
 w188
 w193 ∧
 J152
 (IntKind.i64.wrap
 (x154 +
 1),
 ())
 w193 ∧
 J153
 (IntKind.i64.wrap
 (x154 +
 1),
 ())
 w193 <
 J153
 (x154,
 ())
 w155) ∧
 (decide (x154 < (↑b_14n : Int)) = false →
 ∃ (J194 : Int × Unit → World → Prop),
 ∃ (J195 : Int × Unit → World → Nat),
 J194 (0, ()) w155 ∧
 ∀ (x196 : Int) (w197 : World),
 J194 (x196, ()) w197 →
 (decide (x196 < (↑b_15n : Int)) = true →
 ∃ (ad198 : Addr),
 Gives Proofs.Tryz.prog (Instr.indexAt 29 (Value.slice b_15a b_15n b_15c) (Value.int IntKind.i64 x196))
 (Value.pointer (some ad198)) ∧
 ∃ (x199 : Int),
 ∃ (x200 : Int),
 ∃ (x201 : Int),
 ∃ (a202 : Option Addr),
 ∃ (n203 : Nat),
 ∃ (n204 : Nat),
 Reads Proofs.Tryz.prog [] (Instr.loadAt 51 (Value.pointer (some ad198))) w197
 (Value.agg
 #[Value.int IntKind.i64 x199, Value.int IntKind.i64 x200, Value.int IntKind.i64 x201,
 Value.slice a202 n203 n204]) ∧
 OpW Proofs.Tryz.prog (valueS (Instr.alloc 51 true (Value.tuple #[]))) w197
 fun (v205 : Value) (w206 : World) =>
 ∃ (ad207 : Addr),
 v205 = Value.pointer (some ad207) ∧
 Keeps [n1] w197 w206 ∧
 OpW Proofs.Tryz.prog
 (skipS
 (Instr.storeAt 51 (Value.pointer (some ad207))
 (Value.agg
 #[Value.int IntKind.i64 x199, Value.int IntKind.i64 x200,
 Value.int IntKind.i64 x201, Value.slice a202 n203 n204])))
 w206 fun (v208 : Value) (w209 : World) =>
 Keeps [n1] w206 w209 ∧
 ∃ (x210 : Int),
 Reads Proofs.Tryz.prog [] (Instr.loadAt 2 (Value.pointer (some ad207))) w209
 (Value.int IntKind.i64 x210) ∧
 ∃ (x211 : Int),
 Reads Proofs.Tryz.prog []
 (Instr.loadAt 2
 (Value.pointer (some (Addr.mk ad207.block (ad207.off + 1) none))))
 w209 (Value.int IntKind.i64 x211) ∧
 ∃ (x212 : Int),
 Reads Proofs.Tryz.prog []
 (Instr.loadAt 2
 (Value.pointer (some (Addr.mk ad207.block (ad207.off + 2) none))))
 w209 (Value.int IntKind.i64 x212) ∧
 ∃ (a213 : Option Addr),
 ∃ (n214 : Nat),
 ∃ (n215 : Nat),
 Reads Proofs.Tryz.prog []
 (Instr.loadAt 43
 (Value.pointer
 (some (Addr.mk ad207.block (ad207.off + 3) none))))
 w209 (Value.slice a213 n214 n215) ∧
 ∀ (w216 : World),
 Bel w209 w216 →
 Under [n1] w216 →
 Calls Proofs.Tryz.prog 23 #[Value.int IntKind.i64 x210]
 w216 fun (e217 : Ending) (w218 : World) =>
 ∃ (s219 : ByteArray),
 e217 = Ending.returned (Value.string s219) ∧
 Keeps [n1] w216 w218 ∧
 Reads Proofs.Tryz.prog []
 (Instr.loadAt 43
 (Value.pointer
 (some
 (Addr.mk ad207.block (ad207.off + 3)
 none))))
 w218 (Value.slice a213 n214 n215) ∧
 Reads Proofs.Tryz.prog []
 (Instr.loadAt 2
 (Value.pointer
 (some
 (Addr.mk ad207.block (ad207.off + 2)
 none))))
 w218 (Value.int IntKind.i64 x212) ∧
 Reads Proofs.Tryz.prog []
 (Instr.loadAt 2
 (Value.pointer
 (some
 (Addr.mk ad207.block
 (ad207.off + 1) none))))
 w218 (Value.int IntKind.i64 x211) ∧
 Calls Proofs.Tryz.prog 23
 #[Value.int IntKind.i64 x211] w218
 fun (e220 : Ending) (w221 : World) =>
 ∃ (s222 : ByteArray),
 e220 =
 Ending.returned
 (Value.string s222) ∧
 Keeps [n1] w218 w221 ∧
 Reads Proofs.Tryz.prog []
 (Instr.loadAt 43
 (Value.pointer
 (some
 (Addr.mk ad207.block
 (ad207.off + 3)
 none))))
 w221
 (Value.slice a213 n214 n215) ∧
 Reads Proofs.Tryz.prog []
 (Instr.loadAt 2
 (Value.pointer
 (some
 (Addr.mk ad207.block
 (ad207.off + 2)
 none))))
 w221
 (Value.int IntKind.i64
 x212) ∧
 Calls Proofs.Tryz.prog 23
 #[Value.int IntKind.i64
 x212]
 w221
 fun (e223 : Ending)
 (w224 : World) =>
 ∃ (s225 : ByteArray),
 e223 =
 Ending.returned
 (Value.string
 s225) ∧
 Keeps [n1] w221 w224 ∧
 Reads Proofs.Tryz.prog
 []
 (Instr.loadAt 43
 (Value.pointer
 (some
 (Addr.mk
 ad207.block
 (ad207.off +
 3)
 none))))
 w224
 (Value.slice a213
 n214 n215) ∧
 Calls
 Proofs.Tryz.prog
 25
 #[Value.slice a213
 n214 n215]
 w224
 fun
 (e226 : Ending)
 (w227 :
 World) =>
 ∃ (s228 :
 ByteArray),
 e226 =
 Ending.returned
 (Value.string
 s228) ∧
 Keeps [n1]
 w224
 w227 ∧
 OpW
 Proofs.Tryz.prog
 (valueS
 (Instr.buildSlice
 66 7
 #[(0,
 Value.string
 (ByteArray.mk
 #[102,
 105,
 108,
 116,
 101,
 114])),
 (1,
 Value.string
 s219),
 (2,
 Value.string
 (ByteArray.mk
 #[97,
 103,
 101,
 110,
 116])),
 (3,
 Value.string
 s222),
 (4,
 Value.string
 (ByteArray.mk
 #[117,
 110,
 116,
 105,
 108])),
 (5,
 Value.string
 s225),
 (6,
 Value.string
 s228)]))
 w227
 fun
 (v229 :
 Value)
 (w230 :
 World) =>
 ∃ (a231 :
 Option
 Addr),
 ∃ (n232
 :
 Nat),
 ∃
 (n233
 :
 Nat),
 v229 =
 Value.slice
 a231
 n232
 n233 ∧
 Keeps
 [n1]
 w227
 w230 ∧
 OpW
 Proofs.Tryz.prog
 (invokeS
 (Value.func
 (Fn.func
 19)
 #[]
 #[Value.pointer
 (some
 ad5)])
 #[Value.slice
 a231
 n232
 n233])
 w230
 fun
 (v234 :
 Value)
 (w235 :
 World) =>
 v234 =
 Value.tuple
 #[] ∧
 Keeps
 [n1]
 w230
 w235 ∧
 J194
 (IntKind.i64.wrap
 (x196 +
 1),
 ())
 w235 ∧
 J195
 (IntKind.i64.wrap
 (x196 +
 1),
 ())
 w235 <
 J195
 (x196,
 ())
 w197) ∧
 (decide (x196 < (↑b_15n : Int)) = false →
 Calls Proofs.Tryz.prog 26 #[Value.pointer (some ad5)] w197 fun (e236 : Ending) (w237 : World) =>
 ∃ (s238 : ByteArray),
 e236 = Ending.returned (Value.string s238) ∧
 Keeps [n1] w197 w237 ∧ R (Ending.returned (Value.string s238)) w237)))))
theorem f7_eq (b_0 : Int) (b_1 : Int) (b_2 : Int) (b_3 : Int) (b_4 : Int) (b_5 : Int) (b_6 : Int) (b_7 : Int) (b_8 : Int) (b_9 : Int) (b_10 : Int) (b_11a : Option Addr) (b_11n : Nat) (b_11c : Nat) (b_12a : Option Addr) (b_12n : Nat) (b_12c : Nat) (b_13a : Option Addr) (b_13n : Nat) (b_13c : Nat) (b_14a : Option Addr) (b_14n : Nat) (b_14c : Nat) (b_15a : Option Addr) (b_15n : Nat) (b_15c : Nat) (w : World) (R : Ending → World → Prop) : (fnF Go.Proofs.Tryz.prog h7 Go.Proofs.Tryz.f7 [Value.agg
 #[Value.int IntKind.i64 b_0, Value.int IntKind.i64 b_1, Value.int IntKind.i64 b_2, Value.int IntKind.i64 b_3, Value.int IntKind.i64 b_4, Value.int IntKind.i64 b_5, Value.int IntKind.i64 b_6, Value.int IntKind.i64 b_7,
 Value.int IntKind.i64 b_8, Value.int IntKind.i64 b_9, Value.int IntKind.i64 b_10, Value.slice b_11a b_11n b_11c, Value.slice b_12a b_12n b_12c, Value.slice b_13a b_13n b_13c, Value.slice b_14a b_14n b_14c,
 Value.slice b_15a b_15n b_15c]] w R).den = f7_vc b_0 b_1 b_2 b_3 b_4 b_5 b_6 b_7 b_8 b_9 b_10 b_11a b_11n b_11c b_12a b_12n b_12c b_13a b_13n b_13c b_14a b_14n b_14c b_15a b_15n b_15c w R := by kernel_rfl
theorem f7_calls (b_0 : Int) (b_1 : Int) (b_2 : Int) (b_3 : Int) (b_4 : Int) (b_5 : Int) (b_6 : Int) (b_7 : Int) (b_8 : Int) (b_9 : Int) (b_10 : Int) (b_11a : Option Addr) (b_11n : Nat) (b_11c : Nat) (b_12a : Option Addr) (b_12n : Nat) (b_12c : Nat) (b_13a : Option Addr) (b_13n : Nat) (b_13c : Nat) (b_14a : Option Addr) (b_14n : Nat) (b_14c : Nat) (b_15a : Option Addr) (b_15n : Nat) (b_15c : Nat) (w : World) (R : Ending → World → Prop) (h : f7_vc b_0 b_1 b_2 b_3 b_4 b_5 b_6 b_7 b_8 b_9 b_10 b_11a b_11n b_11c b_12a b_12n b_12c b_13a b_13n b_13c b_14a b_14n b_14c b_15a b_15n b_15c w R) : Calls Go.Proofs.Tryz.prog 7 (List.toArray [Value.agg
 #[Value.int IntKind.i64 b_0, Value.int IntKind.i64 b_1, Value.int IntKind.i64 b_2, Value.int IntKind.i64 b_3, Value.int IntKind.i64 b_4, Value.int IntKind.i64 b_5, Value.int IntKind.i64 b_6, Value.int IntKind.i64 b_7,
 Value.int IntKind.i64 b_8, Value.int IntKind.i64 b_9, Value.int IntKind.i64 b_10, Value.slice b_11a b_11n b_11c, Value.slice b_12a b_12n b_12c, Value.slice b_13a b_13n b_13c, Value.slice b_14a b_14n b_14c,
 Value.slice b_15a b_15n b_15c]]) w R :=
 fn_sound (H := h7) (fn := Go.Proofs.Tryz.f7) (by kernel_rfl) (by kernel_rfl) (by kernel_rfl) ((f7_eq b_0 b_1 b_2 b_3 b_4 b_5 b_6 b_7 b_8 b_9 b_10 b_11a b_11n b_11c b_12a b_12n b_12c b_13a b_13n b_13c b_14a b_14n b_14c b_15a b_15n b_15c w R).mpr h)


/-! manciple/tell.Event -/
def h17 : Hints := ⟨[], [22, 34, 46, 58], [25, 37, 49], [(4, [0, 1, 2, 3, 4, 5, 6, 7, 8]), (5, [0, 1, 2, 3, 4, 5, 6, 7, 8, 9, 10, 11]), (6, [0, 1, 2, 3, 4, 5, 6, 7, 8, 9, 10, 11]), (7, [0, 1, 2, 3, 4, 5, 6, 7, 8, 9, 10, 11])], [], [], [], [], []⟩
def f17_vc (e_0 : Int) (e_1 : Int) (e_2 : Int) (e_3 : Int) (e_4a : Option Addr) (e_4n : Nat) (e_4c : Nat) (w : World) (R : Ending → World → Prop) : Prop :=
 OpW Proofs.Tryz.prog (valueS (Instr.box 56 (Value.agg #[Value.int IntKind.i64 e_0, Value.int IntKind.i64 e_1, Value.int IntKind.i64 e_2, Value.int IntKind.i64 e_3, Value.slice e_4a e_4n e_4c]))) w fun (v1 : Value) (w2 : World) =>
 ∃ (ad3 : Addr),
 v1 = Value.pointer (some ad3) ∧
 ∃ (x4 : Int),
 Reads Proofs.Tryz.prog [] (Instr.loadAt 3 (Value.pointer (some ad3))) w2 (Value.int IntKind.i64 x4) ∧
 Calls Proofs.Tryz.prog 53 #[Value.int IntKind.i64 x4] w2 fun (e5 : Ending) (w6 : World) =>
 ∃ (s7 : ByteArray),
 e5 = Ending.returned (Value.string s7) ∧
 OpW Proofs.Tryz.prog (valueS (Instr.buildSlice 66 1 #[(0, Value.string s7)])) w6 fun (v8 : Value) (w9 : World) =>
 ∃ (a10 : Option Addr),
 ∃ (n11 : Nat),
 ∃ (n12 : Nat),
 v8 = Value.slice a10 n11 n12 ∧
 OpW Proofs.Tryz.prog (valueS (Instr.alloc 66 true (Value.tuple #[]))) w9 fun (v13 : Value) (w14 : World) =>
 ∃ (ad15 : Addr),
 v13 = Value.pointer (some ad15) ∧
 OpW Proofs.Tryz.prog (skipS (Instr.storeAt 66 (Value.pointer (some ad15)) (Value.slice a10 n11 n12))) w14 fun (v16 : Value) (w17 : World) =>
 ∃ (x18 : Int),
 Reads Proofs.Tryz.prog [] (Instr.loadAt 3 (Value.pointer (some ad3))) w17 (Value.int IntKind.i64 x18) ∧
 ∃ (x19 : Int),
 Reads Proofs.Tryz.prog [] (Instr.loadAt 3 (Value.pointer (some ad3))) w17 (Value.int IntKind.i64 x19) ∧
 ∃ (x20 : Int),
 Reads Proofs.Tryz.prog [] (Instr.loadAt 2 (Value.pointer (some (Addr.mk ad3.block (ad3.off + 1) none)))) w17 (Value.int IntKind.i64 x20) ∧
 ∀ (w21 : World),
 Bel w17 w21 →
 Calls Proofs.Tryz.prog 23 #[Value.int IntKind.i64 x20] w21 fun (e22 : Ending) (w23 : World) =>
 ∃ (s24 : ByteArray),
 e22 = Ending.returned (Value.string s24) ∧
 Reads Proofs.Tryz.prog [] (Instr.loadAt 3 (Value.pointer (some ad3))) w23 (Value.int IntKind.i64 x19) ∧
 OpW Proofs.Tryz.prog (valueS (Instr.buildSlice 66 2 #[(0, Value.string (ByteArray.mk #[102, 114, 97, 109, 101])), (1, Value.string s24)])) w23 fun (v25 : Value) (w26 : World) =>
 ∃ (a27 : Option Addr),
 ∃ (n28 : Nat),
 ∃ (n29 : Nat),
 v25 = Value.slice a27 n28 n29 ∧
 Reads Proofs.Tryz.prog [] (Instr.loadAt 3 (Value.pointer (some ad3))) w26 (Value.int IntKind.i64 x19) ∧
 OpW Proofs.Tryz.prog
 (invokeS (Value.func (Fn.func 54) #[] #[Value.pointer (some ad3), Value.pointer (some ad15)]) #[Value.bool (decide (x19 ≥ 3)), Value.slice a27 n28 n29]) w26
 fun (v30 : Value) (w31 : World) =>
 v30 = Value.tuple #[] ∧
 Reads Proofs.Tryz.prog [] (Instr.loadAt 3 (Value.pointer (some ad3))) w31 (Value.int IntKind.i64 x19) ∧
 (decide (x18 ≥ 6) = true →
 ∃ (x32 : Int),
 Reads Proofs.Tryz.prog [] (Instr.loadAt 3 (Value.pointer (some ad3))) w31 (Value.int IntKind.i64 x32) ∧
 ∃ (x33 : Int),
 Reads Proofs.Tryz.prog [] (Instr.loadAt 2 (Value.pointer (some (Addr.mk ad3.block (ad3.off + 2) none)))) w31 (Value.int IntKind.i64 x33) ∧
 ∀ (w34 : World),
 Bel w31 w34 →
 Calls Proofs.Tryz.prog 23 #[Value.int IntKind.i64 x33] w34 fun (e35 : Ending) (w36 : World) =>
 ∃ (s37 : ByteArray),
 e35 = Ending.returned (Value.string s37) ∧
 Reads Proofs.Tryz.prog [] (Instr.loadAt 3 (Value.pointer (some ad3))) w36 (Value.int IntKind.i64 x32) ∧
 OpW Proofs.Tryz.prog (valueS (Instr.buildSlice 66 2 #[(0, Value.string (ByteArray.mk #[105, 100])), (1, Value.string s37)])) w36
 fun (v38 : Value) (w39 : World) =>
 ∃ (a40 : Option Addr),
 ∃ (n41 : Nat),
 ∃ (n42 : Nat),
 v38 = Value.slice a40 n41 n42 ∧
 Reads Proofs.Tryz.prog [] (Instr.loadAt 3 (Value.pointer (some ad3))) w39 (Value.int IntKind.i64 x32) ∧
 OpW Proofs.Tryz.prog
 (invokeS (Value.func (Fn.func 54) #[] #[Value.pointer (some ad3), Value.pointer (some ad15)])
 #[Value.bool (decide (x32 ≤ 17)), Value.slice a40 n41 n42])
 w39 fun (v43 : Value) (w44 : World) =>
 v43 = Value.tuple #[] ∧
 Reads Proofs.Tryz.prog [] (Instr.loadAt 3 (Value.pointer (some ad3))) w44 (Value.int IntKind.i64 x32) ∧
 (decide (x18 ≥ 6) = true →
 ∃ (x45 : Int),
 Reads Proofs.Tryz.prog [] (Instr.loadAt 2 (Value.pointer (some (Addr.mk ad3.block (ad3.off + 3) none)))) w44
 (Value.int IntKind.i64 x45) ∧
 ∀ (w46 : World),
 Bel w44 w46 →
 Calls Proofs.Tryz.prog 23 #[Value.int IntKind.i64 x45] w46 fun (e47 : Ending) (w48 : World) =>
 ∃ (s49 : ByteArray),
 e47 = Ending.returned (Value.string s49) ∧
 OpW Proofs.Tryz.prog
 (valueS
 (Instr.buildSlice 66 2
 #[(0, Value.string (ByteArray.mk #[97, 103, 101, 110, 116])), (1, Value.string s49)]))
 w48 fun (v50 : Value) (w51 : World) =>
 ∃ (a52 : Option Addr),
 ∃ (n53 : Nat),
 ∃ (n54 : Nat),
 v50 = Value.slice a52 n53 n54 ∧
 OpW Proofs.Tryz.prog
 (invokeS
 (Value.func (Fn.func 54) #[] #[Value.pointer (some ad3), Value.pointer (some ad15)])
 #[Value.bool true, Value.slice a52 n53 n54])
 w51 fun (v55 : Value) (w56 : World) =>
 v55 = Value.tuple #[] ∧
 (decide (x18 ≥ 6) = true →
 ∃ (a57 : Option Addr),
 ∃ (n58 : Nat),
 ∃ (n59 : Nat),
 Reads Proofs.Tryz.prog []
 (Instr.loadAt 43
 (Value.pointer (some (Addr.mk ad3.block (ad3.off + 4) none))))
 w56 (Value.slice a57 n58 n59) ∧
 ∀ (w60 : World),
 Bel w56 w60 →
 Calls Proofs.Tryz.prog 25 #[Value.slice a57 n58 n59] w60
 fun (e61 : Ending) (w62 : World) =>
 ∃ (s63 : ByteArray),
 e61 = Ending.returned (Value.string s63) ∧
 OpW Proofs.Tryz.prog
 (valueS (Instr.buildSlice 66 1 #[(0, Value.string s63)])) w62
 fun (v64 : Value) (w65 : World) =>
 ∃ (a66 : Option Addr),
 ∃ (n67 : Nat),
 ∃ (n68 : Nat),
 v64 = Value.slice a66 n67 n68 ∧
 OpW Proofs.Tryz.prog
 (invokeS
 (Value.func (Fn.func 54) #[]
 #[Value.pointer (some ad3),
 Value.pointer (some ad15)])
 #[Value.bool true, Value.slice a66 n67 n68])
 w65 fun (v69 : Value) (w70 : World) =>
 v69 = Value.tuple #[] ∧
 ∃ (a71 : Option Addr),
 ∃ (n72 : Nat),
 ∃ (n73 : Nat),
 Reads Proofs.Tryz.prog []
 (Instr.loadAt 66
 (Value.pointer (some ad15)))
 w70 (Value.slice a71 n72 n73) ∧
 Calls Proofs.Tryz.prog 21
 #[Value.slice a71 n72 n73] w70
 fun (e74 : Ending) (w75 : World) =>
 ∃ (s76 : ByteArray),
 e74 = Ending.returned (Value.string s76) ∧
 R (Ending.returned (Value.string s76))
 w75) ∧
 (decide (x18 ≥ 6) = false →
 ∃ (x77 : Int),
 Reads Proofs.Tryz.prog [] (Instr.loadAt 3 (Value.pointer (some ad3))) w56
 (Value.int IntKind.i64 x77) ∧
 ∃ (a78 : Option Addr),
 ∃ (n79 : Nat),
 ∃ (n80 : Nat),
 Reads Proofs.Tryz.prog []
 (Instr.loadAt 43
 (Value.pointer (some (Addr.mk ad3.block (ad3.off + 4) none))))
 w56 (Value.slice a78 n79 n80) ∧
 ∀ (w81 : World),
 Bel w56 w81 →
 Calls Proofs.Tryz.prog 25 #[Value.slice a78 n79 n80] w81
 fun (e82 : Ending) (w83 : World) =>
 ∃ (s84 : ByteArray),
 e82 = Ending.returned (Value.string s84) ∧
 Reads Proofs.Tryz.prog []
 (Instr.loadAt 3 (Value.pointer (some ad3))) w83
 (Value.int IntKind.i64 x77) ∧
 OpW Proofs.Tryz.prog
 (valueS (Instr.buildSlice 66 1 #[(0, Value.string s84)]))
 w83 fun (v85 : Value) (w86 : World) =>
 ∃ (a87 : Option Addr),
 ∃ (n88 : Nat),
 ∃ (n89 : Nat),
 v85 = Value.slice a87 n88 n89 ∧
 Reads Proofs.Tryz.prog []
 (Instr.loadAt 3 (Value.pointer (some ad3))) w86
 (Value.int IntKind.i64 x77) ∧
 OpW Proofs.Tryz.prog
 (invokeS
 (Value.func (Fn.func 54) #[]
 #[Value.pointer (some ad3),
 Value.pointer (some ad15)])
 #[Value.bool (x77 == 1),
 Value.slice a87 n88 n89])
 w86 fun (v90 : Value) (w91 : World) =>
 v90 = Value.tuple #[] ∧
 Reads Proofs.Tryz.prog []
 (Instr.loadAt 3
 (Value.pointer (some ad3)))
 w91 (Value.int IntKind.i64 x77) ∧
 ∃ (a92 : Option Addr),
 ∃ (n93 : Nat),
 ∃ (n94 : Nat),
 Reads Proofs.Tryz.prog []
 (Instr.loadAt 66
 (Value.pointer (some ad15)))
 w91 (Value.slice a92 n93 n94) ∧
 Calls Proofs.Tryz.prog 21
 #[Value.slice a92 n93 n94] w91
 fun (e95 : Ending)
 (w96 : World) =>
 ∃ (s97 : ByteArray),
 e95 =
 Ending.returned
 (Value.string s97) ∧
 R
 (Ending.returned
 (Value.string s97))
 w96)) ∧
 (decide (x18 ≥ 6) = false →
 ∃ (x98 : Int),
 Reads Proofs.Tryz.prog [] (Instr.loadAt 3 (Value.pointer (some ad3))) w44 (Value.int IntKind.i64 x98) ∧
 ∃ (x99 : Int),
 Reads Proofs.Tryz.prog [] (Instr.loadAt 2 (Value.pointer (some (Addr.mk ad3.block (ad3.off + 3) none)))) w44
 (Value.int IntKind.i64 x99) ∧
 ∀ (w100 : World),
 Bel w44 w100 →
 Calls Proofs.Tryz.prog 23 #[Value.int IntKind.i64 x99] w100 fun (e101 : Ending) (w102 : World) =>
 ∃ (s103 : ByteArray),
 e101 = Ending.returned (Value.string s103) ∧
 Reads Proofs.Tryz.prog [] (Instr.loadAt 3 (Value.pointer (some ad3))) w102
 (Value.int IntKind.i64 x98) ∧
 OpW Proofs.Tryz.prog
 (valueS
 (Instr.buildSlice 66 2
 #[(0, Value.string (ByteArray.mk #[97, 103, 101, 110, 116])), (1, Value.string s103)]))
 w102 fun (v104 : Value) (w105 : World) =>
 ∃ (a106 : Option Addr),
 ∃ (n107 : Nat),
 ∃ (n108 : Nat),
 v104 = Value.slice a106 n107 n108 ∧
 Reads Proofs.Tryz.prog [] (Instr.loadAt 3 (Value.pointer (some ad3))) w105
 (Value.int IntKind.i64 x98) ∧
 OpW Proofs.Tryz.prog
 (invokeS
 (Value.func (Fn.func 54) #[]
 #[Value.pointer (some ad3), Value.pointer (some ad15)])
 #[Value.bool (decide (x98 ≤ 2)), Value.slice a106 n107 n108])
 w105 fun (v109 : Value) (w110 : World) =>
 v109 = Value.tuple #[] ∧
 Reads Proofs.Tryz.prog [] (Instr.loadAt 3 (Value.pointer (some ad3))) w110
 (Value.int IntKind.i64 x98) ∧
 (decide (x18 ≥ 6) = true →
 ∃ (a111 : Option Addr),
 ∃ (n112 : Nat),
 ∃ (n113 : Nat),
 Reads Proofs.Tryz.prog []
 (Instr.loadAt 43
 (Value.pointer (some (Addr.mk ad3.block (ad3.off + 4) none))))
 w110 (Value.slice a111 n112 n113) ∧
 ∀ (w114 : World),
 Bel w110 w114 →
 Calls Proofs.Tryz.prog 25 #[Value.slice a111 n112 n113] w114
 fun (e115 : Ending) (w116 : World) =>
 ∃ (s117 : ByteArray),
 e115 = Ending.returned (Value.string s117) ∧
 OpW Proofs.Tryz.prog
 (valueS
 (Instr.buildSlice 66 1 #[(0, Value.string s117)]))
 w116 fun (v118 : Value) (w119 : World) =>
 ∃ (a120 : Option Addr),
 ∃ (n121 : Nat),
 ∃ (n122 : Nat),
 v118 = Value.slice a120 n121 n122 ∧
 OpW Proofs.Tryz.prog
 (invokeS
 (Value.func (Fn.func 54) #[]
 #[Value.pointer (some ad3),
 Value.pointer (some ad15)])
 #[Value.bool true,
 Value.slice a120 n121 n122])
 w119 fun (v123 : Value) (w124 : World) =>
 v123 = Value.tuple #[] ∧
 ∃ (a125 : Option Addr),
 ∃ (n126 : Nat),
 ∃ (n127 : Nat),
 Reads Proofs.Tryz.prog []
 (Instr.loadAt 66
 (Value.pointer (some ad15)))
 w124
 (Value.slice a125 n126 n127) ∧
 Calls Proofs.Tryz.prog 21
 #[Value.slice a125 n126 n127] w124
 fun (e128 : Ending)
 (w129 : World) =>
 ∃ (s130 : ByteArray),
 e128 =
 Ending.returned
 (Value.string s130) ∧
 R
 (Ending.returned
 (Value.string s130))
 w129) ∧
 (decide (x18 ≥ 6) = false →
 ∃ (x131 : Int),
 Reads Proofs.Tryz.prog [] (Instr.loadAt 3 (Value.pointer (some ad3))) w110
 (Value.int IntKind.i64 x131) ∧
 ∃ (a132 : Option Addr),
 ∃ (n133 : Nat),
 ∃ (n134 : Nat),
 Reads Proofs.Tryz.prog []
 (Instr.loadAt 43
 (Value.pointer
 (some (Addr.mk ad3.block (ad3.off + 4) none))))
 w110 (Value.slice a132 n133 n134) ∧
 ∀ (w135 : World),
 Bel w110 w135 →
 Calls Proofs.Tryz.prog 25 #[Value.slice a132 n133 n134] w135
 fun (e136 : Ending) (w137 : World) =>
 ∃ (s138 : ByteArray),
 e136 = Ending.returned (Value.string s138) ∧
 Reads Proofs.Tryz.prog []
 (Instr.loadAt 3 (Value.pointer (some ad3))) w137
 (Value.int IntKind.i64 x131) ∧
 OpW Proofs.Tryz.prog
 (valueS
 (Instr.buildSlice 66 1
 #[(0, Value.string s138)]))
 w137 fun (v139 : Value) (w140 : World) =>
 ∃ (a141 : Option Addr),
 ∃ (n142 : Nat),
 ∃ (n143 : Nat),
 v139 = Value.slice a141 n142 n143 ∧
 Reads Proofs.Tryz.prog []
 (Instr.loadAt 3
 (Value.pointer (some ad3)))
 w140 (Value.int IntKind.i64 x131) ∧
 OpW Proofs.Tryz.prog
 (invokeS
 (Value.func (Fn.func 54) #[]
 #[Value.pointer (some ad3),
 Value.pointer (some ad15)])
 #[Value.bool (x131 == 1),
 Value.slice a141 n142 n143])
 w140
 fun (v144 : Value) (w145 : World) =>
 v144 = Value.tuple #[] ∧
 Reads Proofs.Tryz.prog []
 (Instr.loadAt 3
 (Value.pointer (some ad3)))
 w145
 (Value.int IntKind.i64 x131) ∧
 ∃ (a146 : Option Addr),
 ∃ (n147 : Nat),
 ∃ (n148 : Nat),
 Reads Proofs.Tryz.prog []
 (Instr.loadAt 66
 (Value.pointer
 (some ad15)))
 w145
 (Value.slice a146 n147
 n148) ∧
 Calls Proofs.Tryz.prog 21
 #[Value.slice a146 n147
 n148]
 w145
 fun (e149 : Ending)
 (w150 : World) =>
 ∃ (s151 : ByteArray),
 e149 =
 Ending.returned
 (Value.string
 s151) ∧
 R
 (Ending.returned
 (Value.string
 s151))
 w150))) ∧
 (decide (x18 ≥ 6) = false →
 ∃ (x152 : Int),
 Reads Proofs.Tryz.prog [] (Instr.loadAt 2 (Value.pointer (some (Addr.mk ad3.block (ad3.off + 2) none)))) w31 (Value.int IntKind.i64 x152) ∧
 ∀ (w153 : World),
 Bel w31 w153 →
 Calls Proofs.Tryz.prog 23 #[Value.int IntKind.i64 x152] w153 fun (e154 : Ending) (w155 : World) =>
 ∃ (s156 : ByteArray),
 e154 = Ending.returned (Value.string s156) ∧
 OpW Proofs.Tryz.prog (valueS (Instr.buildSlice 66 2 #[(0, Value.string (ByteArray.mk #[105, 100])), (1, Value.string s156)])) w155
 fun (v157 : Value) (w158 : World) =>
 ∃ (a159 : Option Addr),
 ∃ (n160 : Nat),
 ∃ (n161 : Nat),
 v157 = Value.slice a159 n160 n161 ∧
 OpW Proofs.Tryz.prog
 (invokeS (Value.func (Fn.func 54) #[] #[Value.pointer (some ad3), Value.pointer (some ad15)])
 #[Value.bool false, Value.slice a159 n160 n161])
 w158 fun (v162 : Value) (w163 : World) =>
 v162 = Value.tuple #[] ∧
 (decide (x18 ≥ 6) = true →
 ∃ (x164 : Int),
 Reads Proofs.Tryz.prog [] (Instr.loadAt 2 (Value.pointer (some (Addr.mk ad3.block (ad3.off + 3) none)))) w163
 (Value.int IntKind.i64 x164) ∧
 ∀ (w165 : World),
 Bel w163 w165 →
 Calls Proofs.Tryz.prog 23 #[Value.int IntKind.i64 x164] w165 fun (e166 : Ending) (w167 : World) =>
 ∃ (s168 : ByteArray),
 e166 = Ending.returned (Value.string s168) ∧
 OpW Proofs.Tryz.prog
 (valueS
 (Instr.buildSlice 66 2 #[(0, Value.string (ByteArray.mk #[97, 103, 101, 110, 116])), (1, Value.string s168)]))
 w167 fun (v169 : Value) (w170 : World) =>
 ∃ (a171 : Option Addr),
 ∃ (n172 : Nat),
 ∃ (n173 : Nat),
 v169 = Value.slice a171 n172 n173 ∧
 OpW Proofs.Tryz.prog
 (invokeS (Value.func (Fn.func 54) #[] #[Value.pointer (some ad3), Value.pointer (some ad15)])
 #[Value.bool true, Value.slice a171 n172 n173])
 w170 fun (v174 : Value) (w175 : World) =>
 v174 = Value.tuple #[] ∧
 (decide (x18 ≥ 6) = true →
 ∃ (a176 : Option Addr),
 ∃ (n177 : Nat),
 ∃ (n178 : Nat),
 Reads Proofs.Tryz.prog []
 (Instr.loadAt 43 (Value.pointer (some (Addr.mk ad3.block (ad3.off + 4) none)))) w175
 (Value.slice a176 n177 n178) ∧
 ∀ (w179 : World),
 Bel w175 w179 →
 Calls Proofs.Tryz.prog 25 #[Value.slice a176 n177 n178] w179
 fun (e180 : Ending) (w181 : World) =>
 ∃ (s182 : ByteArray),
 e180 = Ending.returned (Value.string s182) ∧
 OpW Proofs.Tryz.prog
 (valueS (Instr.buildSlice 66 1 #[(0, Value.string s182)])) w181
 fun (v183 : Value) (w184 : World) =>
 ∃ (a185 : Option Addr),
 ∃ (n186 : Nat),
 ∃ (n187 : Nat),
 v183 = Value.slice a185 n186 n187 ∧
 OpW Proofs.Tryz.prog
 (invokeS
 (Value.func (Fn.func 54) #[]
 #[Value.pointer (some ad3), Value.pointer (some ad15)])
 #[Value.bool true, Value.slice a185 n186 n187])
 w184 fun (v188 : Value) (w189 : World) =>
 v188 = Value.tuple #[] ∧
 ∃ (a190 : Option Addr),
 ∃ (n191 : Nat),
 ∃ (n192 : Nat),
 Reads Proofs.Tryz.prog []
 (Instr.loadAt 66 (Value.pointer (some ad15))) w189
 (Value.slice a190 n191 n192) ∧
 Calls Proofs.Tryz.prog 21 #[Value.slice a190 n191 n192]
 w189 fun (e193 : Ending) (w194 : World) =>
 ∃ (s195 : ByteArray),
 e193 = Ending.returned (Value.string s195) ∧
 R (Ending.returned (Value.string s195)) w194) ∧
 (decide (x18 ≥ 6) = false →
 ∃ (x196 : Int),
 Reads Proofs.Tryz.prog [] (Instr.loadAt 3 (Value.pointer (some ad3))) w175
 (Value.int IntKind.i64 x196) ∧
 ∃ (a197 : Option Addr),
 ∃ (n198 : Nat),
 ∃ (n199 : Nat),
 Reads Proofs.Tryz.prog []
 (Instr.loadAt 43 (Value.pointer (some (Addr.mk ad3.block (ad3.off + 4) none))))
 w175 (Value.slice a197 n198 n199) ∧
 ∀ (w200 : World),
 Bel w175 w200 →
 Calls Proofs.Tryz.prog 25 #[Value.slice a197 n198 n199] w200
 fun (e201 : Ending) (w202 : World) =>
 ∃ (s203 : ByteArray),
 e201 = Ending.returned (Value.string s203) ∧
 Reads Proofs.Tryz.prog [] (Instr.loadAt 3 (Value.pointer (some ad3))) w202
 (Value.int IntKind.i64 x196) ∧
 OpW Proofs.Tryz.prog
 (valueS (Instr.buildSlice 66 1 #[(0, Value.string s203)])) w202
 fun (v204 : Value) (w205 : World) =>
 ∃ (a206 : Option Addr),
 ∃ (n207 : Nat),
 ∃ (n208 : Nat),
 v204 = Value.slice a206 n207 n208 ∧
 Reads Proofs.Tryz.prog []
 (Instr.loadAt 3 (Value.pointer (some ad3))) w205
 (Value.int IntKind.i64 x196) ∧
 OpW Proofs.Tryz.prog
 (invokeS
 (Value.func (Fn.func 54) #[]
 #[Value.pointer (some ad3),
 Value.pointer (some ad15)])
 #[Value.bool (x196 == 1), Value.slice a206 n207 n208])
 w205 fun (v209 : Value) (w210 : World) =>
 v209 = Value.tuple #[] ∧
 Reads Proofs.Tryz.prog []
 (Instr.loadAt 3 (Value.pointer (some ad3))) w210
 (Value.int IntKind.i64 x196) ∧
 ∃ (a211 : Option Addr),
 ∃ (n212 : Nat),
 ∃ (n213 : Nat),
 Reads Proofs.Tryz.prog []
 (Instr.loadAt 66
 (Value.pointer (some ad15)))
 w210 (Value.slice a211 n212 n213) ∧
 Calls Proofs.Tryz.prog 21
 #[Value.slice a211 n212 n213] w210
 fun (e214 : Ending) (w215 : World) =>
 ∃ (s216 : ByteArray),
 e214 =
 Ending.returned (Value.string s216) ∧
 R (Ending.returned (Value.string s216))
 w215)) ∧
 (decide (x18 ≥ 6) = false →
 ∃ (x217 : Int),
 Reads Proofs.Tryz.prog [] (Instr.loadAt 3 (Value.pointer (some ad3))) w163 (Value.int IntKind.i64 x217) ∧
 ∃ (x218 : Int),
 Reads Proofs.Tryz.prog [] (Instr.loadAt 2 (Value.pointer (some (Addr.mk ad3.block (ad3.off + 3) none)))) w163
 (Value.int IntKind.i64 x218) ∧
 ∀ (w219 : World),
 Bel w163 w219 →
 Calls Proofs.Tryz.prog 23 #[Value.int IntKind.i64 x218] w219 fun (e220 : Ending) (w221 : World) =>
 ∃ (s222 : ByteArray),
 e220 = Ending.returned (Value.string s222) ∧
 Reads Proofs.Tryz.prog [] (Instr.loadAt 3 (Value.pointer (some ad3))) w221 (Value.int IntKind.i64 x217) ∧
 OpW Proofs.Tryz.prog
 (valueS
 (Instr.buildSlice 66 2
 #[(0, Value.string (ByteArray.mk #[97, 103, 101, 110, 116])), (1, Value.string s222)]))
 w221 fun (v223 : Value) (w224 : World) =>
 ∃ (a225 : Option Addr),
 ∃ (n226 : Nat),
 ∃ (n227 : Nat),
 v223 = Value.slice a225 n226 n227 ∧
 Reads Proofs.Tryz.prog [] (Instr.loadAt 3 (Value.pointer (some ad3))) w224
 (Value.int IntKind.i64 x217) ∧
 OpW Proofs.Tryz.prog
 (invokeS (Value.func (Fn.func 54) #[] #[Value.pointer (some ad3), Value.pointer (some ad15)])
 #[Value.bool (decide (x217 ≤ 2)), Value.slice a225 n226 n227])
 w224 fun (v228 : Value) (w229 : World) =>
 v228 = Value.tuple #[] ∧
 Reads Proofs.Tryz.prog [] (Instr.loadAt 3 (Value.pointer (some ad3))) w229
 (Value.int IntKind.i64 x217) ∧
 (decide (x18 ≥ 6) = true →
 ∃ (a230 : Option Addr),
 ∃ (n231 : Nat),
 ∃ (n232 : Nat),
 Reads Proofs.Tryz.prog []
 (Instr.loadAt 43
 (Value.pointer (some (Addr.mk ad3.block (ad3.off + 4) none))))
 w229 (Value.slice a230 n231 n232) ∧
 ∀ (w233 : World),
 Bel w229 w233 →
 Calls Proofs.Tryz.prog 25 #[Value.slice a230 n231 n232] w233
 fun (e234 : Ending) (w235 : World) =>
 ∃ (s236 : ByteArray),
 e234 = Ending.returned (Value.string s236) ∧
 OpW Proofs.Tryz.prog
 (valueS (Instr.buildSlice 66 1 #[(0, Value.string s236)])) w235
 fun (v237 : Value) (w238 : World) =>
 ∃ (a239 : Option Addr),
 ∃ (n240 : Nat),
 ∃ (n241 : Nat),
 v237 = Value.slice a239 n240 n241 ∧
 OpW Proofs.Tryz.prog
 (invokeS
 (Value.func (Fn.func 54) #[]
 #[Value.pointer (some ad3),
 Value.pointer (some ad15)])
 #[Value.bool true, Value.slice a239 n240 n241])
 w238 fun (v242 : Value) (w243 : World) =>
 v242 = Value.tuple #[] ∧
 ∃ (a244 : Option Addr),
 ∃ (n245 : Nat),
 ∃ (n246 : Nat),
 Reads Proofs.Tryz.prog []
 (Instr.loadAt 66
 (Value.pointer (some ad15)))
 w243 (Value.slice a244 n245 n246) ∧
 Calls Proofs.Tryz.prog 21
 #[Value.slice a244 n245 n246] w243
 fun (e247 : Ending) (w248 : World) =>
 ∃ (s249 : ByteArray),
 e247 =
 Ending.returned (Value.string s249) ∧
 R (Ending.returned (Value.string s249))
 w248) ∧
 (decide (x18 ≥ 6) = false →
 ∃ (x250 : Int),
 Reads Proofs.Tryz.prog [] (Instr.loadAt 3 (Value.pointer (some ad3))) w229
 (Value.int IntKind.i64 x250) ∧
 ∃ (a251 : Option Addr),
 ∃ (n252 : Nat),
 ∃ (n253 : Nat),
 Reads Proofs.Tryz.prog []
 (Instr.loadAt 43
 (Value.pointer (some (Addr.mk ad3.block (ad3.off + 4) none))))
 w229 (Value.slice a251 n252 n253) ∧
 ∀ (w254 : World),
 Bel w229 w254 →
 Calls Proofs.Tryz.prog 25 #[Value.slice a251 n252 n253] w254
 fun (e255 : Ending) (w256 : World) =>
 ∃ (s257 : ByteArray),
 e255 = Ending.returned (Value.string s257) ∧
 Reads Proofs.Tryz.prog []
 (Instr.loadAt 3 (Value.pointer (some ad3))) w256
 (Value.int IntKind.i64 x250) ∧
 OpW Proofs.Tryz.prog
 (valueS (Instr.buildSlice 66 1 #[(0, Value.string s257)]))
 w256 fun (v258 : Value) (w259 : World) =>
 ∃ (a260 : Option Addr),
 ∃ (n261 : Nat),
 ∃ (n262 : Nat),
 v258 = Value.slice a260 n261 n262 ∧
 Reads Proofs.Tryz.prog []
 (Instr.loadAt 3 (Value.pointer (some ad3))) w259
 (Value.int IntKind.i64 x250) ∧
 OpW Proofs.Tryz.prog
 (invokeS
 (Value.func (Fn.func 54) #[]
 #[Value.pointer (some ad3),
 Value.pointer (some ad15)])
 #[Value.bool (x250 == 1),
 Value.slice a260 n261 n262])
 w259 fun (v263 : Value) (w264 : World) =>
 v263 = Value.tuple #[] ∧
 Reads Proofs.Tryz.prog []
 (Instr.loadAt 3
 (Value.pointer (some ad3)))
 w264 (Value.int IntKind.i64 x250) ∧
 ∃ (a265 : Option Addr),
 ∃ (n266 : Nat),
 ∃ (n267 : Nat),
 Reads Proofs.Tryz.prog []
 (Instr.loadAt 66
 (Value.pointer (some ad15)))
 w264
 (Value.slice a265 n266 n267) ∧
 Calls Proofs.Tryz.prog 21
 #[Value.slice a265 n266 n267] w264
 fun (e268 : Ending)
 (w269 : World) =>
 ∃ (s270 : ByteArray),
 e268 =
 Ending.returned
 (Value.string s270) ∧
 R
 (Ending.returned
 (Value.string s270))
 w269)))
theorem f17_eq (e_0 : Int) (e_1 : Int) (e_2 : Int) (e_3 : Int) (e_4a : Option Addr) (e_4n : Nat) (e_4c : Nat) (w : World) (R : Ending → World → Prop) : (fnF Go.Proofs.Tryz.prog h17 Go.Proofs.Tryz.f17 [Value.agg #[Value.int IntKind.i64 e_0, Value.int IntKind.i64 e_1, Value.int IntKind.i64 e_2, Value.int IntKind.i64 e_3, Value.slice e_4a e_4n e_4c]] w R).den = f17_vc e_0 e_1 e_2 e_3 e_4a e_4n e_4c w R := by kernel_rfl
theorem f17_calls (e_0 : Int) (e_1 : Int) (e_2 : Int) (e_3 : Int) (e_4a : Option Addr) (e_4n : Nat) (e_4c : Nat) (w : World) (R : Ending → World → Prop) (h : f17_vc e_0 e_1 e_2 e_3 e_4a e_4n e_4c w R) : Calls Go.Proofs.Tryz.prog 17 (List.toArray [Value.agg #[Value.int IntKind.i64 e_0, Value.int IntKind.i64 e_1, Value.int IntKind.i64 e_2, Value.int IntKind.i64 e_3, Value.slice e_4a e_4n e_4c]]) w R :=
 fn_sound (H := h17) (fn := Go.Proofs.Tryz.f17) (by kernel_rfl) (by kernel_rfl) (by kernel_rfl) ((f17_eq e_0 e_1 e_2 e_3 e_4a e_4n e_4c w R).mpr h)


/-! manciple/tell.Reply -/
def h18 : Hints := ⟨[1, 5], [14, 21, 22], [13], [], [], [(3, ⟨[(3, .str), (12, .int .i64)], []⟩)], [], [], [(5, (.op 0 (.op 3 (.alt (.op 1 (.alt (.op 2 (.op 4 (.op 5 (.op 6 (.op 7 .nil))))) (.op 4 (.op 2 (.op 5 (.op 6 (.op 7 .nil))))))) (.op 4 (.op 1 (.op 2 (.op 5 (.op 6 (.op 7 .nil))))))))))]⟩
def f18_vc (r_0 : Int) (r_1a : Option Addr) (r_1n : Nat) (r_1c : Nat) (w : World) (R : Ending → World → Prop) : Prop :=
 ∀ (n1 : Nat),
 w.heap.size ≤ n1 →
 ∀ (w2 : World),
 Bel w w2 →
 Under [n1] w2 →
 Calls Proofs.Tryz.prog 55 #[Value.int IntKind.i64 r_0] w2 fun (e3 : Ending) (w4 : World) =>
 ∃ (s5 : ByteArray),
 e3 = Ending.returned (Value.string s5) ∧
 Keeps [n1] w2 w4 ∧
 ∃ (J6 : ByteArray × Int × Unit → World → Prop),
 ∃ (J7 : ByteArray × Int × Unit → World → Nat),
 J6 (s5, 0, ()) w4 ∧
 ∀ (s8 : ByteArray) (x9 : Int) (w10 : World),
 J6 (s8, x9, ()) w10 →
 (decide (x9 < (↑r_1n : Int)) = true →
 ∃ (ad11 : Addr),
 Gives Proofs.Tryz.prog (Instr.indexAt 59 (Value.slice r_1a r_1n r_1c) (Value.int IntKind.i64 x9)) (Value.pointer (some ad11)) ∧
 ∃ (x12 : Int),
 ∃ (x13 : Int),
 ∃ (x14 : Int),
 ∃ (x15 : Int),
 ∃ (a16 : Option Addr),
 ∃ (n17 : Nat),
 ∃ (n18 : Nat),
 Reads Proofs.Tryz.prog [] (Instr.loadAt 56 (Value.pointer (some ad11))) w10
 (Value.agg #[Value.int IntKind.i64 x12, Value.int IntKind.i64 x13, Value.int IntKind.i64 x14, Value.int IntKind.i64 x15, Value.slice a16 n17 n18]) ∧
 ∀ (n19 : Nat),
 w10.heap.size ≤ n19 →
 (∀ (w20 : World),
 Evo [n19] w10 w20 →
 Under [n1, n19] w20 →
 OpW Proofs.Tryz.prog (valueS (Instr.buildSlice 114 2 #[(0, Value.int IntKind.i32 59), (1, Value.int IntKind.i32 32)])) w20 fun (v21 : Value) (w22 : World) =>
 ∃ (a23 : Option Addr),
 ∃ (n24 : Nat),
 ∃ (n25 : Nat),
 v21 = Value.slice a23 n24 n25 ∧
 Keeps [n1, n19] w20 w22 ∧
 (OpW Proofs.Tryz.prog (valueS (convert 114 9 (Value.slice a23 n24 n25))) w22 fun (v26 : Value) (w27 : World) =>
 ∃ (s28 : ByteArray),
 v26 = Value.string s28 ∧
 Keeps [n1, n19] w22 w27 ∧
 Calls Proofs.Tryz.prog 17
 #[Value.agg #[Value.int IntKind.i64 x12, Value.int IntKind.i64 x13, Value.int IntKind.i64 x14, Value.int IntKind.i64 x15, Value.slice a16 n17 n18]] w27
 fun (e29 : Ending) (w30 : World) =>
 ∃ (s31 : ByteArray),
 e29 = Ending.returned (Value.string s31) ∧
 Keeps [n1, n19] w27 w30 ∧
 ∃ (s32 : ByteArray),
 Gives Proofs.Tryz.prog (binOpS BinOp.add 9 (Operand.tmp 18) (Operand.tmp 20) (Value.string s28) (Value.string s31)) (Value.string s32) ∧
 ∃ (s33 : ByteArray),
 Gives Proofs.Tryz.prog (binOpS BinOp.add 9 (Operand.tmp 16) (Operand.tmp 21) (Value.string s8) (Value.string s32)) (Value.string s33) ∧
 J6 (s33, IntKind.i64.wrap (x9 + 1), ()) w30 ∧ J7 (s33, IntKind.i64.wrap (x9 + 1), ()) w30 < J7 (s8, x9, ()) w10) ∧
 Calls Proofs.Tryz.prog 17
 #[Value.agg #[Value.int IntKind.i64 x12, Value.int IntKind.i64 x13, Value.int IntKind.i64 x14, Value.int IntKind.i64 x15, Value.slice a16 n17 n18]] w22
 fun (e34 : Ending) (w35 : World) =>
 ∃ (s36 : ByteArray),
 e34 = Ending.returned (Value.string s36) ∧
 Keeps [n1, n19] w22 w35 ∧
 OpW Proofs.Tryz.prog (valueS (convert 114 9 (Value.slice a23 n24 n25))) w35 fun (v37 : Value) (w38 : World) =>
 ∃ (s39 : ByteArray),
 v37 = Value.string s39 ∧
 Keeps [n1, n19] w35 w38 ∧
 ∃ (s40 : ByteArray),
 Gives Proofs.Tryz.prog (binOpS BinOp.add 9 (Operand.tmp 18) (Operand.tmp 20) (Value.string s39) (Value.string s36)) (Value.string s40) ∧
 ∃ (s41 : ByteArray),
 Gives Proofs.Tryz.prog (binOpS BinOp.add 9 (Operand.tmp 16) (Operand.tmp 21) (Value.string s8) (Value.string s40)) (Value.string s41) ∧
 J6 (s41, IntKind.i64.wrap (x9 + 1), ()) w38 ∧ J7 (s41, IntKind.i64.wrap (x9 + 1), ()) w38 < J7 (s8, x9, ()) w10) ∧
 ∀ (w42 : World),
 Evo [n19] w10 w42 →
 Under [n1, n19] w42 →
 Calls Proofs.Tryz.prog 17 #[Value.agg #[Value.int IntKind.i64 x12, Value.int IntKind.i64 x13, Value.int IntKind.i64 x14, Value.int IntKind.i64 x15, Value.slice a16 n17 n18]]
 w42 fun (e43 : Ending) (w44 : World) =>
 ∃ (s45 : ByteArray),
 e43 = Ending.returned (Value.string s45) ∧
 Keeps [n1, n19] w42 w44 ∧
 OpW Proofs.Tryz.prog (valueS (Instr.buildSlice 114 2 #[(0, Value.int IntKind.i32 59), (1, Value.int IntKind.i32 32)])) w44 fun (v46 : Value) (w47 : World) =>
 ∃ (a48 : Option Addr),
 ∃ (n49 : Nat),
 ∃ (n50 : Nat),
 v46 = Value.slice a48 n49 n50 ∧
 Keeps [n1, n19] w44 w47 ∧
 OpW Proofs.Tryz.prog (valueS (convert 114 9 (Value.slice a48 n49 n50))) w47 fun (v51 : Value) (w52 : World) =>
 ∃ (s53 : ByteArray),
 v51 = Value.string s53 ∧
 Keeps [n1, n19] w47 w52 ∧
 ∃ (s54 : ByteArray),
 Gives Proofs.Tryz.prog (binOpS BinOp.add 9 (Operand.tmp 18) (Operand.tmp 20) (Value.string s53) (Value.string s45)) (Value.string s54) ∧
 ∃ (s55 : ByteArray),
 Gives Proofs.Tryz.prog (binOpS BinOp.add 9 (Operand.tmp 16) (Operand.tmp 21) (Value.string s8) (Value.string s54)) (Value.string s55) ∧
 J6 (s55, IntKind.i64.wrap (x9 + 1), ()) w52 ∧ J7 (s55, IntKind.i64.wrap (x9 + 1), ()) w52 < J7 (s8, x9, ()) w10) ∧
 (decide (x9 < (↑r_1n : Int)) = false → R (Ending.returned (Value.string s8)) w10)
theorem f18_eq (r_0 : Int) (r_1a : Option Addr) (r_1n : Nat) (r_1c : Nat) (w : World) (R : Ending → World → Prop) : (fnF Go.Proofs.Tryz.prog h18 Go.Proofs.Tryz.f18 [Value.agg #[Value.int IntKind.i64 r_0, Value.slice r_1a r_1n r_1c]] w R).den = f18_vc r_0 r_1a r_1n r_1c w R := by kernel_rfl
theorem f18_calls (r_0 : Int) (r_1a : Option Addr) (r_1n : Nat) (r_1c : Nat) (w : World) (R : Ending → World → Prop) (h : f18_vc r_0 r_1a r_1n r_1c w R) : Calls Go.Proofs.Tryz.prog 18 (List.toArray [Value.agg #[Value.int IntKind.i64 r_0, Value.slice r_1a r_1n r_1c]]) w R :=
 fn_sound (H := h18) (fn := Go.Proofs.Tryz.f18) (by kernel_rfl) (by kernel_rfl) (by kernel_rfl) ((f18_eq r_0 r_1a r_1n r_1c w R).mpr h)


/-! manciple/tell.Book$1 -/
def h19 : Hints := ⟨[], [], [], [], [], [], [], [], []⟩
def f19_vc (wordsa : Option Addr) (wordsn : Nat) (wordsc : Nat) (cap0 : Value) (w : World) (R : Ending → World → Prop) : Prop :=
 Calls Proofs.Tryz.prog 21 #[Value.slice wordsa wordsn wordsc] w fun (e1 : Ending) (w2 : World) =>
 ∃ (s3 : ByteArray),
 e1 = Ending.returned (Value.string s3) ∧
 Calls Proofs.Tryz.prog 20 #[cap0, Value.string s3] w2 fun (e4 : Ending) (w5 : World) =>
 ∃ (x6 : Int),
 ∃ (v7 : Value),
 e4 = Ending.returned (Value.tuple #[Value.int IntKind.i64 x6, v7]) ∧
 Calls Proofs.Tryz.prog 22 #[cap0, Value.int IntKind.i32 10] w5 fun (e8 : Ending) (w9 : World) =>
 ∃ (x10 : Int), ∃ (v11 : Value), e8 = Ending.returned (Value.tuple #[Value.int IntKind.i64 x10, v11]) ∧ R (Ending.returned (Value.tuple #[])) w9
theorem f19_eq (wordsa : Option Addr) (wordsn : Nat) (wordsc : Nat) (cap0 : Value) (w : World) (R : Ending → World → Prop) : (fnF Go.Proofs.Tryz.prog h19 Go.Proofs.Tryz.f19 [Value.slice wordsa wordsn wordsc, cap0] w R).den = f19_vc wordsa wordsn wordsc cap0 w R := by kernel_rfl
theorem f19_calls (wordsa : Option Addr) (wordsn : Nat) (wordsc : Nat) (cap0 : Value) (w : World) (R : Ending → World → Prop) (h : f19_vc wordsa wordsn wordsc cap0 w R) : Calls Go.Proofs.Tryz.prog 19 (List.toArray [Value.slice wordsa wordsn wordsc, cap0]) w R :=
 fn_sound (H := h19) (fn := Go.Proofs.Tryz.f19) (by kernel_rfl) (by kernel_rfl) (by kernel_rfl) ((f19_eq wordsa wordsn wordsc cap0 w R).mpr h)


/-! manciple/tell.join -/
def h21 : Hints := ⟨[], [], [], [], [], [], [], [], []⟩
def f21_vc (wordsa : Option Addr) (wordsn : Nat) (wordsc : Nat) (w : World) (R : Ending → World → Prop) : Prop :=
 Calls Proofs.Tryz.prog 57 #[Value.slice wordsa wordsn wordsc, Value.string (ByteArray.mk #[32])] w fun (e1 : Ending) (w2 : World) => ∃ (s3 : ByteArray), e1 = Ending.returned (Value.string s3) ∧ R (Ending.returned (Value.string s3)) w2
theorem f21_eq (wordsa : Option Addr) (wordsn : Nat) (wordsc : Nat) (w : World) (R : Ending → World → Prop) : (fnF Go.Proofs.Tryz.prog h21 Go.Proofs.Tryz.f21 [Value.slice wordsa wordsn wordsc] w R).den = f21_vc wordsa wordsn wordsc w R := by kernel_rfl
theorem f21_calls (wordsa : Option Addr) (wordsn : Nat) (wordsc : Nat) (w : World) (R : Ending → World → Prop) (h : f21_vc wordsa wordsn wordsc w R) : Calls Go.Proofs.Tryz.prog 21 (List.toArray [Value.slice wordsa wordsn wordsc]) w R :=
 fn_sound (H := h21) (fn := Go.Proofs.Tryz.f21) (by kernel_rfl) (by kernel_rfl) (by kernel_rfl) ((f21_eq wordsa wordsn wordsc w R).mpr h)


/-! manciple/tell.num -/
def h23 : Hints := ⟨[], [], [], [], [], [], [], [], []⟩
def f23_vc (n : Int) (w : World) (R : Ending → World → Prop) : Prop :=
 Calls Proofs.Tryz.prog 59 #[Value.int IntKind.i64 n, Value.int IntKind.i64 10] w fun (e1 : Ending) (w2 : World) => ∃ (s3 : ByteArray), e1 = Ending.returned (Value.string s3) ∧ R (Ending.returned (Value.string s3)) w2
theorem f23_eq (n : Int) (w : World) (R : Ending → World → Prop) : (fnF Go.Proofs.Tryz.prog h23 Go.Proofs.Tryz.f23 [Value.int IntKind.i64 n] w R).den = f23_vc n w R := by kernel_rfl
theorem f23_calls (n : Int) (w : World) (R : Ending → World → Prop) (h : f23_vc n w R) : Calls Go.Proofs.Tryz.prog 23 (List.toArray [Value.int IntKind.i64 n]) w R :=
 fn_sound (H := h23) (fn := Go.Proofs.Tryz.f23) (by kernel_rfl) (by kernel_rfl) (by kernel_rfl) ((f23_eq n w R).mpr h)


/-! manciple/tell.frame -/
def h24 : Hints := ⟨[1], [], [15, 26], [(1, [0, 1, 3, 4, 6, 7, 2, 5, 8, 9, 10])], [], [], [], [], []⟩
def f24_vc (f_0 : Int) (f_1 : Int) (f_2 : Int) (f_3 : Bool) (f_4 : Bool) (f_5 : Int) (f_6 : Int) (w : World) (R : Ending → World → Prop) : Prop :=
 ∀ (n1 : Nat),
 w.heap.size ≤ n1 →
 ∀ (w2 : World),
 Bel w w2 →
 Under [n1] w2 →
 Calls Proofs.Tryz.prog 23 #[Value.int IntKind.i64 f_0] w2 fun (e3 : Ending) (w4 : World) =>
 ∃ (s5 : ByteArray),
 e3 = Ending.returned (Value.string s5) ∧
 Keeps [n1] w2 w4 ∧
 Calls Proofs.Tryz.prog 23 #[Value.int IntKind.i64 f_1] w4 fun (e6 : Ending) (w7 : World) =>
 ∃ (s8 : ByteArray),
 e6 = Ending.returned (Value.string s8) ∧
 Keeps [n1] w4 w7 ∧
 Calls Proofs.Tryz.prog 23 #[Value.int IntKind.i64 f_2] w7 fun (e9 : Ending) (w10 : World) =>
 ∃ (s11 : ByteArray),
 e9 = Ending.returned (Value.string s11) ∧
 Keeps [n1] w7 w10 ∧
 OpW Proofs.Tryz.prog
 (valueS
 (Instr.buildSlice 66 6
 #[(0, Value.string (ByteArray.mk #[102, 114, 97, 109, 101])), (1, Value.string s5), (2, Value.string (ByteArray.mk #[114, 111, 108, 101])), (3, Value.string s8),
 (4, Value.string (ByteArray.mk #[119, 101, 105, 103, 104, 116])), (5, Value.string s11)]))
 w10 fun (v12 : Value) (w13 : World) =>
 ∃ (a14 : Option Addr),
 ∃ (n15 : Nat),
 ∃ (n16 : Nat),
 v12 = Value.slice a14 n15 n16 ∧
 Keeps [n1] w10 w13 ∧
 (f_3 = true →
 OpW Proofs.Tryz.prog (valueS (Instr.buildSlice 66 1 #[(0, Value.string (ByteArray.mk #[117, 112]))])) w13 fun (v17 : Value) (w18 : World) =>
 ∃ (a19 : Option Addr),
 ∃ (n20 : Nat),
 ∃ (n21 : Nat),
 v17 = Value.slice a19 n20 n21 ∧
 Keeps [n1] w13 w18 ∧
 OpW Proofs.Tryz.prog (builtin Builtin.append #[66, 66] 66 #[false, false] #[Value.slice a14 n15 n16, Value.slice a19 n20 n21]) w18 fun (v22 : Value) (w23 : World) =>
 ∃ (a24 : Option Addr),
 ∃ (n25 : Nat),
 ∃ (n26 : Nat),
 v22 = Value.slice a24 n25 n26 ∧
 Keeps [n1] w18 w23 ∧
 (f_4 = true →
 OpW Proofs.Tryz.prog (valueS (Instr.buildSlice 66 1 #[(0, Value.string (ByteArray.mk #[113, 117, 105, 101, 116]))])) w23 fun (v27 : Value) (w28 : World) =>
 ∃ (a29 : Option Addr),
 ∃ (n30 : Nat),
 ∃ (n31 : Nat),
 v27 = Value.slice a29 n30 n31 ∧
 Keeps [n1] w23 w28 ∧
 OpW Proofs.Tryz.prog (builtin Builtin.append #[66, 66] 66 #[false, false] #[Value.slice a24 n25 n26, Value.slice a29 n30 n31]) w28
 fun (v32 : Value) (w33 : World) =>
 ∃ (a34 : Option Addr),
 ∃ (n35 : Nat), ∃ (n36 : Nat), v32 = Value.slice a34 n35 n36 ∧ Keeps [n1] w28 w33 ∧ R (Ending.returned (Value.slice a34 n35 n36)) w33) ∧
 (f_4 = false → R (Ending.returned (Value.slice a24 n25 n26)) w23)) ∧
 (f_3 = false →
 Calls Proofs.Tryz.prog 23 #[Value.int IntKind.i64 f_6] w13 fun (e37 : Ending) (w38 : World) =>
 ∃ (s39 : ByteArray),
 e37 = Ending.returned (Value.string s39) ∧
 Keeps [n1] w13 w38 ∧
 OpW Proofs.Tryz.prog (valueS (Instr.buildSlice 66 2 #[(0, Value.string (ByteArray.mk #[97, 119, 97, 121])), (1, Value.string s39)])) w38 fun (v40 : Value) (w41 : World) =>
 ∃ (a42 : Option Addr),
 ∃ (n43 : Nat),
 ∃ (n44 : Nat),
 v40 = Value.slice a42 n43 n44 ∧
 Keeps [n1] w38 w41 ∧
 OpW Proofs.Tryz.prog (builtin Builtin.append #[66, 66] 66 #[false, false] #[Value.slice a14 n15 n16, Value.slice a42 n43 n44]) w41 fun (v45 : Value) (w46 : World) =>
 ∃ (a47 : Option Addr),
 ∃ (n48 : Nat),
 ∃ (n49 : Nat),
 v45 = Value.slice a47 n48 n49 ∧
 Keeps [n1] w41 w46 ∧
 (f_4 = true →
 OpW Proofs.Tryz.prog (valueS (Instr.buildSlice 66 1 #[(0, Value.string (ByteArray.mk #[113, 117, 105, 101, 116]))])) w46
 fun (v50 : Value) (w51 : World) =>
 ∃ (a52 : Option Addr),
 ∃ (n53 : Nat),
 ∃ (n54 : Nat),
 v50 = Value.slice a52 n53 n54 ∧
 Keeps [n1] w46 w51 ∧
 OpW Proofs.Tryz.prog (builtin Builtin.append #[66, 66] 66 #[false, false] #[Value.slice a47 n48 n49, Value.slice a52 n53 n54]) w51
 fun (v55 : Value) (w56 : World) =>
 ∃ (a57 : Option Addr),
 ∃ (n58 : Nat), ∃ (n59 : Nat), v55 = Value.slice a57 n58 n59 ∧ Keeps [n1] w51 w56 ∧ R (Ending.returned (Value.slice a57 n58 n59)) w56) ∧
 (f_4 = false → R (Ending.returned (Value.slice a47 n48 n49)) w46))
theorem f24_eq (f_0 : Int) (f_1 : Int) (f_2 : Int) (f_3 : Bool) (f_4 : Bool) (f_5 : Int) (f_6 : Int) (w : World) (R : Ending → World → Prop) : (fnF Go.Proofs.Tryz.prog h24 Go.Proofs.Tryz.f24 [Value.agg #[Value.int IntKind.i64 f_0, Value.int IntKind.i64 f_1, Value.int IntKind.i64 f_2, Value.bool f_3, Value.bool f_4, Value.int IntKind.i64 f_5, Value.int IntKind.i64 f_6]] w R).den = f24_vc f_0 f_1 f_2 f_3 f_4 f_5 f_6 w R := by kernel_rfl
theorem f24_calls (f_0 : Int) (f_1 : Int) (f_2 : Int) (f_3 : Bool) (f_4 : Bool) (f_5 : Int) (f_6 : Int) (w : World) (R : Ending → World → Prop) (h : f24_vc f_0 f_1 f_2 f_3 f_4 f_5 f_6 w R) : Calls Go.Proofs.Tryz.prog 24 (List.toArray [Value.agg #[Value.int IntKind.i64 f_0, Value.int IntKind.i64 f_1, Value.int IntKind.i64 f_2, Value.bool f_3, Value.bool f_4, Value.int IntKind.i64 f_5, Value.int IntKind.i64 f_6]]) w R :=
 fn_sound (H := h24) (fn := Go.Proofs.Tryz.f24) (by kernel_rfl) (by kernel_rfl) (by kernel_rfl) ((f24_eq f_0 f_1 f_2 f_3 f_4 f_5 f_6 w R).mpr h)


/-! manciple/tell.vector -/
def h25 : Hints := ⟨[], [], [5], [], [], [], [], [], []⟩
def f25_vc (va : Option Addr) (vn : Nat) (vc : Nat) (w : World) (R : Ending → World → Prop) : Prop :=
 Calls Proofs.Tryz.prog 40 #[Value.slice va vn vc] w fun (e1 : Ending) (w2 : World) =>
 ∃ (b3 : Bool),
 e1 = Ending.returned (Value.bool b3) ∧
 ((!b3) = true → R (Ending.returned (Value.string (ByteArray.mk #[63]))) w2) ∧
 ((!b3) = false → Calls Proofs.Tryz.prog 60 #[Value.slice va vn vc] w2 fun (e4 : Ending) (w5 : World) => ∃ (s6 : ByteArray), e4 = Ending.returned (Value.string s6) ∧ R (Ending.returned (Value.string s6)) w5)
theorem f25_eq (va : Option Addr) (vn : Nat) (vc : Nat) (w : World) (R : Ending → World → Prop) : (fnF Go.Proofs.Tryz.prog h25 Go.Proofs.Tryz.f25 [Value.slice va vn vc] w R).den = f25_vc va vn vc w R := by kernel_rfl
theorem f25_calls (va : Option Addr) (vn : Nat) (vc : Nat) (w : World) (R : Ending → World → Prop) (h : f25_vc va vn vc w R) : Calls Go.Proofs.Tryz.prog 25 (List.toArray [Value.slice va vn vc]) w R :=
 fn_sound (H := h25) (fn := Go.Proofs.Tryz.f25) (by kernel_rfl) (by kernel_rfl) (by kernel_rfl) ((f25_eq va vn vc w R).mpr h)


/-! manciple/tell.Kind -/
def h53 : Hints := ⟨[], [3], [], [], [], [], [], [], []⟩
def f53_vc (kind : Int) (w : World) (R : Ending → World → Prop) : Prop :=
 ∃ (a1 : Option Addr),
 ∃ (n2 : Nat),
 ∃ (n3 : Nat),
 Gives Proofs.Tryz.prog (Instr.sliceAt 133 (Value.pointer (some (Addr.mk 0 0 none))) none none none) (Value.slice a1 n2 n3) ∧
 Calls Proofs.Tryz.prog 76 #[Value.slice a1 n2 n3, Value.int IntKind.i64 kind, Value.string (ByteArray.mk #[101, 118, 101, 110, 116])] w fun (e4 : Ending) (w5 : World) =>
 ∃ (s6 : ByteArray), e4 = Ending.returned (Value.string s6) ∧ R (Ending.returned (Value.string s6)) w5
theorem f53_eq (kind : Int) (w : World) (R : Ending → World → Prop) : (fnF Go.Proofs.Tryz.prog h53 Go.Proofs.Tryz.f53 [Value.int IntKind.i64 kind] w R).den = f53_vc kind w R := by kernel_rfl
theorem f53_calls (kind : Int) (w : World) (R : Ending → World → Prop) (h : f53_vc kind w R) : Calls Go.Proofs.Tryz.prog 53 (List.toArray [Value.int IntKind.i64 kind]) w R :=
 fn_sound (H := h53) (fn := Go.Proofs.Tryz.f53) (by kernel_rfl) (by kernel_rfl) (by kernel_rfl) ((f53_eq kind w R).mpr h)


/-! manciple/tell.Event$1 -/
def h54 : Hints := ⟨[], [], [16, 7, 12], [], [], [], [], [], []⟩
def f54_vc (is : Bool) (morea : Option Addr) (moren : Nat) (morec : Nat) (cap0 : Addr) (cap1 : Addr) (w : World) (R : Ending → World → Prop) : Prop :=
 (is = true →
 ∃ (x1 : Int),
 Reads Proofs.Tryz.prog [] (Instr.loadAt 3 (Value.pointer (some cap0))) w (Value.int IntKind.i64 x1) ∧
 (decide (x1 ≥ 1) = true →
 ∃ (x2 : Int),
 Reads Proofs.Tryz.prog [] (Instr.loadAt 3 (Value.pointer (some cap0))) w (Value.int IntKind.i64 x2) ∧
 (decide (x2 ≤ 19) = true →
 ∃ (a3 : Option Addr),
 ∃ (n4 : Nat),
 ∃ (n5 : Nat),
 Reads Proofs.Tryz.prog [] (Instr.loadAt 66 (Value.pointer (some cap1))) w (Value.slice a3 n4 n5) ∧
 OpW Proofs.Tryz.prog (builtin Builtin.append #[66, 66] 66 #[false, false] #[Value.slice a3 n4 n5, Value.slice morea moren morec]) w fun (v6 : Value) (w7 : World) =>
 ∃ (a8 : Option Addr),
 ∃ (n9 : Nat),
 ∃ (n10 : Nat),
 v6 = Value.slice a8 n9 n10 ∧
 OpW Proofs.Tryz.prog (skipS (Instr.storeAt 66 (Value.pointer (some cap1)) (Value.slice a8 n9 n10))) w7 fun (v11 : Value) (w12 : World) => R (Ending.returned (Value.tuple #[])) w12) ∧
 (decide (x2 ≤ 19) = false → R (Ending.returned (Value.tuple #[])) w)) ∧
 (decide (x1 ≥ 1) = false → R (Ending.returned (Value.tuple #[])) w)) ∧
 (is = false → R (Ending.returned (Value.tuple #[])) w)
theorem f54_eq (is : Bool) (morea : Option Addr) (moren : Nat) (morec : Nat) (cap0 : Addr) (cap1 : Addr) (w : World) (R : Ending → World → Prop) : (fnF Go.Proofs.Tryz.prog h54 Go.Proofs.Tryz.f54 [Value.bool is, Value.slice morea moren morec, Value.pointer (some cap0), Value.pointer (some cap1)] w R).den = f54_vc is morea moren morec cap0 cap1 w R := by kernel_rfl
theorem f54_calls (is : Bool) (morea : Option Addr) (moren : Nat) (morec : Nat) (cap0 : Addr) (cap1 : Addr) (w : World) (R : Ending → World → Prop) (h : f54_vc is morea moren morec cap0 cap1 w R) : Calls Go.Proofs.Tryz.prog 54 (List.toArray [Value.bool is, Value.slice morea moren morec, Value.pointer (some cap0), Value.pointer (some cap1)]) w R :=
 fn_sound (H := h54) (fn := Go.Proofs.Tryz.f54) (by kernel_rfl) (by kernel_rfl) (by kernel_rfl) ((f54_eq is morea moren morec cap0 cap1 w R).mpr h)


/-! manciple/tell.Err -/
def h55 : Hints := ⟨[], [3], [], [], [], [], [], [], []⟩
def f55_vc (e : Int) (w : World) (R : Ending → World → Prop) : Prop :=
 ∃ (a1 : Option Addr),
 ∃ (n2 : Nat),
 ∃ (n3 : Nat),
 Gives Proofs.Tryz.prog (Instr.sliceAt 134 (Value.pointer (some (Addr.mk 1 0 none))) none none none) (Value.slice a1 n2 n3) ∧
 Calls Proofs.Tryz.prog 76 #[Value.slice a1 n2 n3, Value.int IntKind.i64 e, Value.string (ByteArray.mk #[101, 114, 114, 111, 114])] w fun (e4 : Ending) (w5 : World) =>
 ∃ (s6 : ByteArray), e4 = Ending.returned (Value.string s6) ∧ R (Ending.returned (Value.string s6)) w5
theorem f55_eq (e : Int) (w : World) (R : Ending → World → Prop) : (fnF Go.Proofs.Tryz.prog h55 Go.Proofs.Tryz.f55 [Value.int IntKind.i64 e] w R).den = f55_vc e w R := by kernel_rfl
theorem f55_calls (e : Int) (w : World) (R : Ending → World → Prop) (h : f55_vc e w R) : Calls Go.Proofs.Tryz.prog 55 (List.toArray [Value.int IntKind.i64 e]) w R :=
 fn_sound (H := h55) (fn := Go.Proofs.Tryz.f55) (by kernel_rfl) (by kernel_rfl) (by kernel_rfl) ((f55_eq e w R).mpr h)


/-! manciple/vec.Text -/
def h60 : Hints := ⟨[5], [13, 19, 23], [8, 12, 29], [(7, [0, 1, 5, 6, 2, 3, 4, 7, 8, 9, 10, 11])], [], [(5, ⟨[(3, .sl), (11, .int .i64)], []⟩)], [], [], []⟩
def f60_vc (va : Option Addr) (vn : Nat) (vc : Nat) (w : World) (R : Ending → World → Prop) : Prop :=
 Calls Proofs.Tryz.prog 40 #[Value.slice va vn vc] w fun (e1 : Ending) (w2 : World) =>
 ∃ (b3 : Bool),
 e1 = Ending.returned (Value.bool b3) ∧
 ((!b3) = true → R (Ending.returned (Value.string (ByteArray.mk #[]))) w2) ∧
 ((!b3) = false →
 ∃ (J4 : (Option Addr × Nat × Nat) × Int × Unit → World → Prop),
 ∃ (J5 : (Option Addr × Nat × Nat) × Int × Unit → World → Nat),
 J4 ((none, 0, 0), 0, ()) w2 ∧
 ∀ (a6 : Option Addr) (n7 n8 : Nat) (x9 : Int) (w10 : World),
 J4 ((a6, n7, n8), x9, ()) w10 →
 (decide (x9 < (↑vn : Int)) = true →
 ∃ (ad11 : Addr),
 Gives Proofs.Tryz.prog (Instr.indexAt 43 (Value.slice va vn vc) (Value.int IntKind.i64 x9)) (Value.pointer (some ad11)) ∧
 ∃ (x12 : Int),
 ∃ (x13 : Int),
 ∃ (x14 : Int),
 Reads Proofs.Tryz.prog [] (Instr.loadAt 53 (Value.pointer (some ad11))) w10 (Value.agg #[Value.int IntKind.i64 x12, Value.int IntKind.i64 x13, Value.int IntKind.i64 x14]) ∧
 ∀ (n15 : Nat),
 w10.heap.size ≤ n15 →
 ∀ (w16 : World),
 Evo [n15] w10 w16 →
 Under [n15] w16 →
 Calls Proofs.Tryz.prog 65 #[Value.agg #[Value.int IntKind.i64 x12, Value.int IntKind.i64 x13, Value.int IntKind.i64 x14]] w16 fun (e17 : Ending) (w18 : World) =>
 ∃ (x19 : Int),
 ∃ (x20 : Int),
 e17 = Ending.returned (Value.agg #[Value.int IntKind.i64 x19, Value.int IntKind.i64 x20]) ∧
 Keeps [n15] w16 w18 ∧
 Calls Proofs.Tryz.prog 81 #[Value.agg #[Value.int IntKind.i64 x19, Value.int IntKind.i64 x20]] w18 fun (e21 : Ending) (w22 : World) =>
 ∃ (s23 : ByteArray),
 e21 = Ending.returned (Value.string s23) ∧
 Keeps [n15] w18 w22 ∧
 ∃ (s24 : ByteArray),
 Gives Proofs.Tryz.prog (binOpS BinOp.add 9 (Operand.tmp 18) (Operand.const (Value.string (ByteArray.mk #[58]))) (Value.string s23) (Value.string (ByteArray.mk #[58])))
 (Value.string s24) ∧
 Calls Proofs.Tryz.prog 82 #[Value.int IntKind.i64 x14] w22 fun (e25 : Ending) (w26 : World) =>
 ∃ (s27 : ByteArray),
 e25 = Ending.returned (Value.string s27) ∧
 Keeps [n15] w22 w26 ∧
 ∃ (s28 : ByteArray),
 Gives Proofs.Tryz.prog (binOpS BinOp.add 9 (Operand.tmp 19) (Operand.tmp 22) (Value.string s24) (Value.string s27)) (Value.string s28) ∧
 OpW Proofs.Tryz.prog (valueS (Instr.buildSlice 66 1 #[(0, Value.string s28)])) w26 fun (v29 : Value) (w30 : World) =>
 ∃ (a31 : Option Addr),
 ∃ (n32 : Nat),
 ∃ (n33 : Nat),
 v29 = Value.slice a31 n32 n33 ∧
 Keeps [n15] w26 w30 ∧
 OpW Proofs.Tryz.prog (builtin Builtin.append #[66, 66] 66 #[false, false] #[Value.slice a6 n7 n8, Value.slice a31 n32 n33]) w30
 fun (v34 : Value) (w35 : World) =>
 ∃ (a36 : Option Addr),
 ∃ (n37 : Nat),
 ∃ (n38 : Nat),
 v34 = Value.slice a36 n37 n38 ∧
 Keeps [n15] w30 w35 ∧
 J4 ((a36, n37, n38), IntKind.i64.wrap (x9 + 1), ()) w35 ∧
 J5 ((a36, n37, n38), IntKind.i64.wrap (x9 + 1), ()) w35 < J5 ((a6, n7, n8), x9, ()) w10) ∧
 (decide (x9 < (↑vn : Int)) = false →
 (((↑n7 : Int) == 0) = true → R (Ending.returned (Value.string (ByteArray.mk #[45]))) w10) ∧
 (((↑n7 : Int) == 0) = false →
 Calls Proofs.Tryz.prog 57 #[Value.slice a6 n7 n8, Value.string (ByteArray.mk #[44])] w10 fun (e39 : Ending) (w40 : World) =>
 ∃ (s41 : ByteArray), e39 = Ending.returned (Value.string s41) ∧ R (Ending.returned (Value.string s41)) w40)))
theorem f60_eq (va : Option Addr) (vn : Nat) (vc : Nat) (w : World) (R : Ending → World → Prop) : (fnF Go.Proofs.Tryz.prog h60 Go.Proofs.Tryz.f60 [Value.slice va vn vc] w R).den = f60_vc va vn vc w R := by kernel_rfl
theorem f60_calls (va : Option Addr) (vn : Nat) (vc : Nat) (w : World) (R : Ending → World → Prop) (h : f60_vc va vn vc w R) : Calls Go.Proofs.Tryz.prog 60 (List.toArray [Value.slice va vn vc]) w R :=
 fn_sound (H := h60) (fn := Go.Proofs.Tryz.f60) (by kernel_rfl) (by kernel_rfl) (by kernel_rfl) ((f60_eq va vn vc w R).mpr h)


/-! manciple/tell.word -/
def h76 : Hints := ⟨[], [18, 23, 26, 29], [21, 9, 15], [], [], [], [], [], []⟩
def f76_vc (la : Option Addr) (ln : Nat) (lc : Nat) (n : Int) (what : ByteArray) (w : World) (R : Ending → World → Prop) : Prop :=
 (decide (n < 0) = true →
 ∃ (s1 : ByteArray),
 Gives Proofs.Tryz.prog (binOpS BinOp.add 9 (Operand.tmp 22) (Operand.const (Value.string (ByteArray.mk #[32]))) (Value.string what) (Value.string (ByteArray.mk #[32]))) (Value.string s1) ∧
 Calls Proofs.Tryz.prog 23 #[Value.int IntKind.i64 n] w fun (e2 : Ending) (w3 : World) =>
 ∃ (s4 : ByteArray),
 e2 = Ending.returned (Value.string s4) ∧
 ∃ (s5 : ByteArray), Gives Proofs.Tryz.prog (binOpS BinOp.add 9 (Operand.tmp 23) (Operand.tmp 25) (Value.string s1) (Value.string s4)) (Value.string s5) ∧ R (Ending.returned (Value.string s5)) w3) ∧
 (decide (n < 0) = false →
 (decide (n ≥ (↑ln : Int)) = true →
 ∃ (s6 : ByteArray),
 Gives Proofs.Tryz.prog (binOpS BinOp.add 9 (Operand.tmp 22) (Operand.const (Value.string (ByteArray.mk #[32]))) (Value.string what) (Value.string (ByteArray.mk #[32]))) (Value.string s6) ∧
 Calls Proofs.Tryz.prog 23 #[Value.int IntKind.i64 n] w fun (e7 : Ending) (w8 : World) =>
 ∃ (s9 : ByteArray),
 e7 = Ending.returned (Value.string s9) ∧
 ∃ (s10 : ByteArray), Gives Proofs.Tryz.prog (binOpS BinOp.add 9 (Operand.tmp 23) (Operand.tmp 25) (Value.string s6) (Value.string s9)) (Value.string s10) ∧ R (Ending.returned (Value.string s10)) w8) ∧
 (decide (n ≥ (↑ln : Int)) = false →
 ∃ (ad11 : Addr),
 Gives Proofs.Tryz.prog (Instr.indexAt 66 (Value.slice la ln lc) (Value.int IntKind.i64 n)) (Value.pointer (some ad11)) ∧
 ∃ (s12 : ByteArray),
 Reads Proofs.Tryz.prog [] (Instr.loadAt 9 (Value.pointer (some ad11))) w (Value.string s12) ∧
 ((s12.toList == (ByteArray.mk #[]).toList) = true →
 ∃ (s13 : ByteArray),
 Gives Proofs.Tryz.prog (binOpS BinOp.add 9 (Operand.tmp 22) (Operand.const (Value.string (ByteArray.mk #[32]))) (Value.string what) (Value.string (ByteArray.mk #[32]))) (Value.string s13) ∧
 Calls Proofs.Tryz.prog 23 #[Value.int IntKind.i64 n] w fun (e14 : Ending) (w15 : World) =>
 ∃ (s16 : ByteArray),
 e14 = Ending.returned (Value.string s16) ∧
 ∃ (s17 : ByteArray), Gives Proofs.Tryz.prog (binOpS BinOp.add 9 (Operand.tmp 23) (Operand.tmp 25) (Value.string s13) (Value.string s16)) (Value.string s17) ∧ R (Ending.returned (Value.string s17)) w15) ∧
 ((s12.toList == (ByteArray.mk #[]).toList) = false →
 ∃ (ad18 : Addr),
 Gives Proofs.Tryz.prog (Instr.indexAt 66 (Value.slice la ln lc) (Value.int IntKind.i64 n)) (Value.pointer (some ad18)) ∧
 ∃ (s19 : ByteArray), Reads Proofs.Tryz.prog [] (Instr.loadAt 9 (Value.pointer (some ad18))) w (Value.string s19) ∧ R (Ending.returned (Value.string s19)) w)))
theorem f76_eq (la : Option Addr) (ln : Nat) (lc : Nat) (n : Int) (what : ByteArray) (w : World) (R : Ending → World → Prop) : (fnF Go.Proofs.Tryz.prog h76 Go.Proofs.Tryz.f76 [Value.slice la ln lc, Value.int IntKind.i64 n, Value.string what] w R).den = f76_vc la ln lc n what w R := by kernel_rfl
theorem f76_calls (la : Option Addr) (ln : Nat) (lc : Nat) (n : Int) (what : ByteArray) (w : World) (R : Ending → World → Prop) (h : f76_vc la ln lc n what w R) : Calls Go.Proofs.Tryz.prog 76 (List.toArray [Value.slice la ln lc, Value.int IntKind.i64 n, Value.string what]) w R :=
 fn_sound (H := h76) (fn := Go.Proofs.Tryz.f76) (by kernel_rfl) (by kernel_rfl) (by kernel_rfl) ((f76_eq la ln lc n what w R).mpr h)


/-! manciple/slot.Text -/
def h81 : Hints := ⟨[1], [15, 19, 20], [5, 8], [(5, [0, 1, 4, 5, 2, 3, 6, 7, 8, 9])], [], [], [], [], []⟩
def f81_vc (s_0 : Int) (s_1 : Int) (w : World) (R : Ending → World → Prop) : Prop :=
 ∀ (n1 : Nat),
 w.heap.size ≤ n1 →
 ∀ (w2 : World),
 Bel w w2 →
 Under [n1] w2 →
 Calls Proofs.Tryz.prog 64 #[Value.agg #[Value.int IntKind.i64 s_0, Value.int IntKind.i64 s_1]] w2 fun (e3 : Ending) (w4 : World) =>
 ∃ (b5 : Bool),
 e3 = Ending.returned (Value.bool b5) ∧
 Keeps [n1] w2 w4 ∧
 ((!b5) = true → R (Ending.returned (Value.string (ByteArray.mk #[]))) w4) ∧
 ((!b5) = false →
 ((s_1 == 0) = true →
 Calls Proofs.Tryz.prog 93 #[Value.int IntKind.i64 s_0] w4 fun (e6 : Ending) (w7 : World) =>
 ∃ (s8 : ByteArray), e6 = Ending.returned (Value.string s8) ∧ Keeps [n1] w4 w7 ∧ R (Ending.returned (Value.string s8)) w7) ∧
 ((s_1 == 0) = false →
 ∀ (w9 : World),
 Bel w4 w9 →
 Under [n1] w9 →
 Calls Proofs.Tryz.prog 93 #[Value.int IntKind.i64 s_0] w9 fun (e10 : Ending) (w11 : World) =>
 ∃ (s12 : ByteArray),
 e10 = Ending.returned (Value.string s12) ∧
 Keeps [n1] w9 w11 ∧
 ∃ (s13 : ByteArray),
 Gives Proofs.Tryz.prog (binOpS BinOp.add 9 (Operand.tmp 14) (Operand.const (Value.string (ByteArray.mk #[40]))) (Value.string s12) (Value.string (ByteArray.mk #[40]))) (Value.string s13) ∧
 Calls Proofs.Tryz.prog 94 #[Value.int IntKind.i64 s_1] w11 fun (e14 : Ending) (w15 : World) =>
 ∃ (s16 : ByteArray),
 e14 = Ending.returned (Value.string s16) ∧
 Keeps [n1] w11 w15 ∧
 ∃ (s17 : ByteArray),
 Gives Proofs.Tryz.prog (binOpS BinOp.add 9 (Operand.tmp 15) (Operand.tmp 18) (Value.string s13) (Value.string s16)) (Value.string s17) ∧
 ∃ (s18 : ByteArray),
 Gives Proofs.Tryz.prog (binOpS BinOp.add 9 (Operand.tmp 19) (Operand.const (Value.string (ByteArray.mk #[41]))) (Value.string s17) (Value.string (ByteArray.mk #[41])))
 (Value.string s18) ∧
 R (Ending.returned (Value.string s18)) w15))
theorem f81_eq (s_0 : Int) (s_1 : Int) (w : World) (R : Ending → World → Prop) : (fnF Go.Proofs.Tryz.prog h81 Go.Proofs.Tryz.f81 [Value.agg #[Value.int IntKind.i64 s_0, Value.int IntKind.i64 s_1]] w R).den = f81_vc s_0 s_1 w R := by kernel_rfl
theorem f81_calls (s_0 : Int) (s_1 : Int) (w : World) (R : Ending → World → Prop) (h : f81_vc s_0 s_1 w R) : Calls Go.Proofs.Tryz.prog 81 (List.toArray [Value.agg #[Value.int IntKind.i64 s_0, Value.int IntKind.i64 s_1]]) w R :=
 fn_sound (H := h81) (fn := Go.Proofs.Tryz.f81) (by kernel_rfl) (by kernel_rfl) (by kernel_rfl) ((f81_eq s_0 s_1 w R).mpr h)


/-! manciple/quant.Text -/
def h82 : Hints := ⟨[], [25, 32], [6, 12, 27], [], [], [(7, ⟨[(3, .sl)], []⟩)], [], [], []⟩
def f82_vc (n : Int) (w : World) (R : Ending → World → Prop) : Prop :=
 Calls Proofs.Tryz.prog 66 #[Value.int IntKind.i64 n] w fun (e1 : Ending) (w2 : World) =>
 ∃ (b3 : Bool),
 e1 = Ending.returned (Value.bool b3) ∧
 ((!b3) = true → R (Ending.returned (Value.string (ByteArray.mk #[]))) w2) ∧
 ((!b3) = false →
 Calls Proofs.Tryz.prog 95 #[Value.slice none 0 0, Value.int IntKind.i64 (IntKind.i64.wrap (n.tdiv 1000)), Value.int IntKind.i64 1] w2 fun (e4 : Ending) (w5 : World) =>
 ∃ (a6 : Option Addr),
 ∃ (n7 : Nat),
 ∃ (n8 : Nat),
 e4 = Ending.returned (Value.slice a6 n7 n8) ∧
 ((n.tmod 1000 == 0) = true →
 OpW Proofs.Tryz.prog (valueS (convert 63 9 (Value.slice a6 n7 n8))) w5 fun (v9 : Value) (w10 : World) => ∃ (s11 : ByteArray), v9 = Value.string s11 ∧ R (Ending.returned (Value.string s11)) w10) ∧
 ((n.tmod 1000 == 0) = false →
 OpW Proofs.Tryz.prog (valueS (Instr.buildSlice 63 1 #[(0, Value.int IntKind.u8 46)])) w5 fun (v12 : Value) (w13 : World) =>
 ∃ (a14 : Option Addr),
 ∃ (n15 : Nat),
 ∃ (n16 : Nat),
 v12 = Value.slice a14 n15 n16 ∧
 OpW Proofs.Tryz.prog (builtin Builtin.append #[63, 63] 63 #[false, false] #[Value.slice a6 n7 n8, Value.slice a14 n15 n16]) w13 fun (v17 : Value) (w18 : World) =>
 ∃ (a19 : Option Addr),
 ∃ (n20 : Nat),
 ∃ (n21 : Nat),
 v17 = Value.slice a19 n20 n21 ∧
 Calls Proofs.Tryz.prog 95 #[Value.slice a19 n20 n21, Value.int IntKind.i64 (n.tmod 1000), Value.int IntKind.i64 3] w18 fun (e22 : Ending) (w23 : World) =>
 ∃ (a24 : Option Addr),
 ∃ (n25 : Nat),
 ∃ (n26 : Nat),
 e22 = Ending.returned (Value.slice a24 n25 n26) ∧
 ∃ (J27 : (Option Addr × Nat × Nat) × Unit → World → Prop),
 ∃ (J28 : (Option Addr × Nat × Nat) × Unit → World → Nat),
 J27 ((a24, n25, n26), ()) w23 ∧
 ∀ (a29 : Option Addr) (n30 n31 : Nat) (w32 : World),
 J27 ((a29, n30, n31), ()) w32 →
 ∃ (ad33 : Addr),
 Gives Proofs.Tryz.prog (Instr.indexAt 63 (Value.slice a29 n30 n31) (Value.int IntKind.i64 (IntKind.i64.wrap ((↑n30 : Int) - 1)))) (Value.pointer (some ad33)) ∧
 ∃ (x34 : Int),
 Reads Proofs.Tryz.prog [] (Instr.loadAt 5 (Value.pointer (some ad33))) w32 (Value.int IntKind.u8 x34) ∧
 ((x34 == 48) = true →
 ∃ (a35 : Option Addr),
 ∃ (n36 : Nat),
 ∃ (n37 : Nat),
 Gives Proofs.Tryz.prog (Instr.sliceAt 63 (Value.slice a29 n30 n31) none (some (Value.int IntKind.i64 (IntKind.i64.wrap ((↑n30 : Int) - 1)))) none)
 (Value.slice a35 n36 n37) ∧
 J27 ((a35, n36, n37), ()) w32 ∧ J28 ((a35, n36, n37), ()) w32 < J28 ((a29, n30, n31), ()) w32) ∧
 ((x34 == 48) = false →
 OpW Proofs.Tryz.prog (valueS (convert 63 9 (Value.slice a29 n30 n31))) w32 fun (v38 : Value) (w39 : World) =>
 ∃ (s40 : ByteArray), v38 = Value.string s40 ∧ R (Ending.returned (Value.string s40)) w39)))
theorem f82_eq (n : Int) (w : World) (R : Ending → World → Prop) : (fnF Go.Proofs.Tryz.prog h82 Go.Proofs.Tryz.f82 [Value.int IntKind.i64 n] w R).den = f82_vc n w R := by kernel_rfl
theorem f82_calls (n : Int) (w : World) (R : Ending → World → Prop) (h : f82_vc n w R) : Calls Go.Proofs.Tryz.prog 82 (List.toArray [Value.int IntKind.i64 n]) w R :=
 fn_sound (H := h82) (fn := Go.Proofs.Tryz.f82) (by kernel_rfl) (by kernel_rfl) (by kernel_rfl) ((f82_eq n w R).mpr h)


/-! manciple/slot.Name -/
def h93 : Hints := ⟨[], [12], [10, 7], [], [], [], [], [], []⟩
def f93_vc (kind : Int) (w : World) (R : Ending → World → Prop) : Prop :=
 Calls Proofs.Tryz.prog 104 #[] w fun (e1 : Ending) (w2 : World) =>
 ∃ (s3 : ByteArray),
 ∃ (s4 : ByteArray),
 ∃ (s5 : ByteArray),
 ∃ (s6 : ByteArray),
 e1 = Ending.returned (Value.agg #[Value.string s3, Value.string s4, Value.string s5, Value.string s6]) ∧
 OpW Proofs.Tryz.prog (valueS (Instr.alloc 161 true (Value.tuple #[]))) w2 fun (v7 : Value) (w8 : World) =>
 ∃ (ad9 : Addr),
 v7 = Value.pointer (some ad9) ∧
 OpW Proofs.Tryz.prog (skipS (Instr.storeAt 161 (Value.pointer (some ad9)) (Value.agg #[Value.string s3, Value.string s4, Value.string s5, Value.string s6]))) w8 fun (v10 : Value) (w11 : World) =>
 (decide (kind < 0) = true → R (Ending.returned (Value.string (ByteArray.mk #[]))) w11) ∧
 (decide (kind < 0) = false →
 (decide (kind ≥ 4) = true → R (Ending.returned (Value.string (ByteArray.mk #[]))) w11) ∧
 (decide (kind ≥ 4) = false →
 ∃ (ad12 : Addr),
 Gives Proofs.Tryz.prog (Instr.indexAt 161 (Value.pointer (some ad9)) (Value.int IntKind.i64 kind)) (Value.pointer (some ad12)) ∧
 ∃ (s13 : ByteArray), Reads Proofs.Tryz.prog [] (Instr.loadAt 9 (Value.pointer (some ad12))) w11 (Value.string s13) ∧ R (Ending.returned (Value.string s13)) w11))
theorem f93_eq (kind : Int) (w : World) (R : Ending → World → Prop) : (fnF Go.Proofs.Tryz.prog h93 Go.Proofs.Tryz.f93 [Value.int IntKind.i64 kind] w R).den = f93_vc kind w R := by kernel_rfl
theorem f93_calls (kind : Int) (w : World) (R : Ending → World → Prop) (h : f93_vc kind w R) : Calls Go.Proofs.Tryz.prog 93 (List.toArray [Value.int IntKind.i64 kind]) w R :=
 fn_sound (H := h93) (fn := Go.Proofs.Tryz.f93) (by kernel_rfl) (by kernel_rfl) (by kernel_rfl) ((f93_eq kind w R).mpr h)


/-! manciple/slot.role -/
def h94 : Hints := ⟨[], [16], [4], [], [], [], [], [], []⟩
def f94_vc (n : Int) (w : World) (R : Ending → World → Prop) : Prop :=
 (decide (n < 10) = true →
 OpW Proofs.Tryz.prog (valueS (Instr.buildSlice 63 1 #[(0, Value.int IntKind.u8 (IntKind.u8.wrap (IntKind.i64.wrap (48 + n))))])) w fun (v1 : Value) (w2 : World) =>
 ∃ (a3 : Option Addr),
 ∃ (n4 : Nat),
 ∃ (n5 : Nat),
 v1 = Value.slice a3 n4 n5 ∧ OpW Proofs.Tryz.prog (valueS (convert 63 9 (Value.slice a3 n4 n5))) w2 fun (v6 : Value) (w7 : World) => ∃ (s8 : ByteArray), v6 = Value.string s8 ∧ R (Ending.returned (Value.string s8)) w7) ∧
 (decide (n < 10) = false →
 Calls Proofs.Tryz.prog 94 #[Value.int IntKind.i64 (IntKind.i64.wrap (n.tdiv 10))] w fun (e9 : Ending) (w10 : World) =>
 ∃ (s11 : ByteArray),
 e9 = Ending.returned (Value.string s11) ∧
 Calls Proofs.Tryz.prog 94 #[Value.int IntKind.i64 (n.tmod 10)] w10 fun (e12 : Ending) (w13 : World) =>
 ∃ (s14 : ByteArray),
 e12 = Ending.returned (Value.string s14) ∧
 ∃ (s15 : ByteArray), Gives Proofs.Tryz.prog (binOpS BinOp.add 9 (Operand.tmp 12) (Operand.tmp 15) (Value.string s11) (Value.string s14)) (Value.string s15) ∧ R (Ending.returned (Value.string s15)) w13)
theorem f94_eq (n : Int) (w : World) (R : Ending → World → Prop) : (fnF Go.Proofs.Tryz.prog h94 Go.Proofs.Tryz.f94 [Value.int IntKind.i64 n] w R).den = f94_vc n w R := by kernel_rfl
theorem f94_calls (n : Int) (w : World) (R : Ending → World → Prop) (h : f94_vc n w R) : Calls Go.Proofs.Tryz.prog 94 (List.toArray [Value.int IntKind.i64 n]) w R :=
 fn_sound (H := h94) (fn := Go.Proofs.Tryz.f94) (by kernel_rfl) (by kernel_rfl) (by kernel_rfl) ((f94_eq n w R).mpr h)


/-! manciple/quant.digits -/
def h95 : Hints := ⟨[], [], [12, 9], [], [], [], [], [], []⟩
def f95_vc (ba : Option Addr) (bn : Nat) (bc : Nat) (n : Int) (least : Int) (w : World) (R : Ending → World → Prop) : Prop :=
 (decide (n ≥ 10) = true →
 Calls Proofs.Tryz.prog 95 #[Value.slice ba bn bc, Value.int IntKind.i64 (IntKind.i64.wrap (n.tdiv 10)), Value.int IntKind.i64 (IntKind.i64.wrap (least - 1))] w fun (e1 : Ending) (w2 : World) =>
 ∃ (a3 : Option Addr),
 ∃ (n4 : Nat),
 ∃ (n5 : Nat),
 e1 = Ending.returned (Value.slice a3 n4 n5) ∧
 OpW Proofs.Tryz.prog (valueS (Instr.buildSlice 63 1 #[(0, Value.int IntKind.u8 (IntKind.u8.wrap (IntKind.i64.wrap (48 + n.tmod 10))))])) w2 fun (v6 : Value) (w7 : World) =>
 ∃ (a8 : Option Addr),
 ∃ (n9 : Nat),
 ∃ (n10 : Nat),
 v6 = Value.slice a8 n9 n10 ∧
 OpW Proofs.Tryz.prog (builtin Builtin.append #[63, 63] 63 #[false, false] #[Value.slice a3 n4 n5, Value.slice a8 n9 n10]) w7 fun (v11 : Value) (w12 : World) =>
 ∃ (a13 : Option Addr), ∃ (n14 : Nat), ∃ (n15 : Nat), v11 = Value.slice a13 n14 n15 ∧ R (Ending.returned (Value.slice a13 n14 n15)) w12) ∧
 (decide (n ≥ 10) = false →
 (decide (least > 1) = true →
 Calls Proofs.Tryz.prog 95 #[Value.slice ba bn bc, Value.int IntKind.i64 (IntKind.i64.wrap (n.tdiv 10)), Value.int IntKind.i64 (IntKind.i64.wrap (least - 1))] w fun (e16 : Ending) (w17 : World) =>
 ∃ (a18 : Option Addr),
 ∃ (n19 : Nat),
 ∃ (n20 : Nat),
 e16 = Ending.returned (Value.slice a18 n19 n20) ∧
 OpW Proofs.Tryz.prog (valueS (Instr.buildSlice 63 1 #[(0, Value.int IntKind.u8 (IntKind.u8.wrap (IntKind.i64.wrap (48 + n.tmod 10))))])) w17 fun (v21 : Value) (w22 : World) =>
 ∃ (a23 : Option Addr),
 ∃ (n24 : Nat),
 ∃ (n25 : Nat),
 v21 = Value.slice a23 n24 n25 ∧
 OpW Proofs.Tryz.prog (builtin Builtin.append #[63, 63] 63 #[false, false] #[Value.slice a18 n19 n20, Value.slice a23 n24 n25]) w22 fun (v26 : Value) (w27 : World) =>
 ∃ (a28 : Option Addr), ∃ (n29 : Nat), ∃ (n30 : Nat), v26 = Value.slice a28 n29 n30 ∧ R (Ending.returned (Value.slice a28 n29 n30)) w27) ∧
 (decide (least > 1) = false →
 OpW Proofs.Tryz.prog (valueS (Instr.buildSlice 63 1 #[(0, Value.int IntKind.u8 (IntKind.u8.wrap (IntKind.i64.wrap (48 + n.tmod 10))))])) w fun (v31 : Value) (w32 : World) =>
 ∃ (a33 : Option Addr),
 ∃ (n34 : Nat),
 ∃ (n35 : Nat),
 v31 = Value.slice a33 n34 n35 ∧
 OpW Proofs.Tryz.prog (builtin Builtin.append #[63, 63] 63 #[false, false] #[Value.slice ba bn bc, Value.slice a33 n34 n35]) w32 fun (v36 : Value) (w37 : World) =>
 ∃ (a38 : Option Addr), ∃ (n39 : Nat), ∃ (n40 : Nat), v36 = Value.slice a38 n39 n40 ∧ R (Ending.returned (Value.slice a38 n39 n40)) w37))
theorem f95_eq (ba : Option Addr) (bn : Nat) (bc : Nat) (n : Int) (least : Int) (w : World) (R : Ending → World → Prop) : (fnF Go.Proofs.Tryz.prog h95 Go.Proofs.Tryz.f95 [Value.slice ba bn bc, Value.int IntKind.i64 n, Value.int IntKind.i64 least] w R).den = f95_vc ba bn bc n least w R := by kernel_rfl
theorem f95_calls (ba : Option Addr) (bn : Nat) (bc : Nat) (n : Int) (least : Int) (w : World) (R : Ending → World → Prop) (h : f95_vc ba bn bc n least w R) : Calls Go.Proofs.Tryz.prog 95 (List.toArray [Value.slice ba bn bc, Value.int IntKind.i64 n, Value.int IntKind.i64 least]) w R :=
 fn_sound (H := h95) (fn := Go.Proofs.Tryz.f95) (by kernel_rfl) (by kernel_rfl) (by kernel_rfl) ((f95_eq ba bn bc n least w R).mpr h)


/-! manciple/slot.names -/
def h104 : Hints := ⟨[0], [], [], [], [], [], [], [], []⟩
def f104_vc  (w : World) (R : Ending → World → Prop) : Prop :=
 ∀ (n1 : Nat),
 w.heap.size ≤ n1 →
 ∃ (s2 : ByteArray),
 ∃ (s3 : ByteArray),
 ∃ (s4 : ByteArray),
 ∃ (s5 : ByteArray),
 Reads Proofs.Tryz.prog [] (Instr.loadAt 161 (Value.pointer (some (Addr.mk 4 0 none)))) w (Value.agg #[Value.string s2, Value.string s3, Value.string s4, Value.string s5]) ∧
 ∀ (w6 : World), Evo [n1] w w6 → Under [n1] w6 → R (Ending.returned (Value.agg #[Value.string s2, Value.string s3, Value.string s4, Value.string s5])) w6
theorem f104_eq  (w : World) (R : Ending → World → Prop) : (fnF Go.Proofs.Tryz.prog h104 Go.Proofs.Tryz.f104 [] w R).den = f104_vc  w R := by kernel_rfl
theorem f104_calls  (w : World) (R : Ending → World → Prop) (h : f104_vc  w R) : Calls Go.Proofs.Tryz.prog 104 (List.toArray []) w R :=
 fn_sound (H := h104) (fn := Go.Proofs.Tryz.f104) (by kernel_rfl) (by kernel_rfl) (by kernel_rfl) ((f104_eq  w R).mpr h)

end Vcqz

/- quant, slot, vec.Right. -/
set_option maxRecDepth 20000
namespace Go.Vc.ZQ
open Go Go.Vc Go.Vc.V Go.RowKit Go.Proofs Vcqz

/-! ### Amounts -/
def qgo (most : Int) : Int → List Int → Int × Bool
  | s, [] => (s, true)
  | s, n :: r => if n < 0 ∨ n > most - s then (0, false) else qgo most (s + n) r
def qsum (most : Int) (l : List Int) : Int × Bool := if most < 0 then (0, false) else qgo most 0 l
abbrev pairV (p : Int × Bool) : Value := .tuple #[.int .i64 p.1, .bool p.2]

theorem c66 (n : Int) (w : World) : Ret Tryz.prog 66 #[.int .i64 n] w (.bool (decide (0 ≤ n ∧ n ≤ 9007199254740992))) := by
  intro R h
  refine f66_calls n w R ?_
  unfold f66_vc
  have hA := At.refl w
  refine brD (fun h1 => leaf h hA ?_) (fun h1 => leaf h hA ?_)
  · simp [h1]
  · simp only [ge_iff_le] at h1
    simp [h1]

/-- A difference of amounts. -/
def qsub (a b : Int) : Int × Bool := if b < 0 ∨ b > a then (0, false) else (a - b, true)
theorem qsum2 {a b : Int} (ha : 0 ≤ a ∧ a ≤ 9007199254740992) (hb : 0 ≤ b ∧ b ≤ 9007199254740992) : qsum 9007199254740992 [a, b] = if a + b ≤ 9007199254740992 then (a + b, true) else (0, false) := by
  unfold qsum
  rw [if_neg (by omega)]
  simp only [qgo]
  repeat' split
  all_goals first | omega | (congr 1; omega) | rfl | skip

/-! ### Slots -/
theorem c64 (k r : Int) (w : World) : Ret Tryz.prog 64 #[slotV k r] w (.bool (decide (slotR k r))) := by
  intro R h
  refine f64_calls k r w R ?_
  unfold f64_vc
  have hA := At.refl w
  refine go_n hA fun n1 h_n1 => ?_
  refine brD (fun h1 => brD (fun h2 => brD (fun h3 => ?_) (fun h3 => ?_)) (fun h2 => ?_)) (fun h1 => ?_)
  all_goals refine go_below hA fun _ hA => leaf h hA ?_
  · rw [show decide (slotR k r) = decide (r ≤ 32) from decide_eq_decide.2 ⟨fun hh => hh.2.2.2, fun hh => ⟨h1, h2, h3, hh⟩⟩]
  · rw [decide_eq_false (show ¬ slotR k r from fun hh => h3 hh.2.2.1)]
  · rw [decide_eq_false (show ¬ slotR k r from fun hh => h2 hh.2.1)]
  · rw [decide_eq_false (show ¬ slotR k r from fun hh => h1 hh.1)]

theorem c65 (a b c : Int) (w : World) : Ret Tryz.prog 65 #[.agg #[.int .i64 a, .int .i64 b, .int .i64 c]] w (slotV a b) := by
  intro R h
  refine f65_calls a b c w R ?_
  unfold f65_vc
  intro n1 h1 n2 h2 w' hev _
  exact h _ (Chg.below ((Chg.of_evo hev).mono fun b hb hm => by simp at hm; omega))

theorem c67 (a b c d : Int) (w : World) : Ret Tryz.prog 67 #[slotV a b, slotV c d] w (.int .i64 (slotC a b c d)) := by
  intro R h
  refine f67_calls a b c d w R ?_
  unfold f67_vc
  have hA := At.refl w
  refine go_n hA fun n1 h_n1 => ?_
  refine go_n hA fun n2 h_n2 => ?_
  refine ⟨fun he => go_below hA fun _ hA => leaf h hA ?_, fun hne => ?_⟩
  · simp at he
    rw [slotC, if_pos he]
  simp at hne
  refine brD (fun h1 => go_below hA fun _ hA => leaf h hA ?_) (fun h1 => brE (fun h2 => brD (fun h3 => go_below hA fun _ hA => leaf h hA ?_) (fun h3 => go_below hA fun _ hA => leaf h hA ?_)) (fun h2 => go_below hA fun _ hA => leaf h hA ?_))
  · rw [slotC, if_neg (by omega), if_pos (.inl h1)]
  · rw [slotC, if_neg (by omega), if_pos (.inr ⟨h2, h3⟩)]
  · rw [slotC, if_neg (fun hh => hne hh.1 hh.2), if_neg (by omega)]
  · rw [slotC, if_neg (fun hh => hne hh.1 hh.2), if_neg (by omega)]

/-! ### Right -/
theorem c40 {l : List PartT} {a : Option Addr} {n c : Nat} (w : World) (hs : SlE w 3 partE l a n c) : Ret Tryz.prog 40 #[.slice a n c] w (.bool (vecB l)) := by
  intro R h
  refine f40_calls a n c w R ?_
  unfold f40_vc
  have hA := At.refl w
  have hn := hs.1
  subst hn
  have hlen := hs.len_le.2
  have hat : ∀ {W : World} {gs : List Nat} {i : Nat} {x : PartT}, At w gs W → l[i]? = some x → ∃ ad, Gives Tryz.prog (Instr.indexAt 43 (.slice a l.length c) (.int .i64 (i : Int))) (.pointer (some ad)) ∧ Reads Tryz.prog [] (Instr.loadAt 53 (.pointer (some ad))) W (partV x) := fun hA hx =>
    rd_agg (f := partE) (hs.call hA.below) hx (e := 53) (by kernel_rfl) (by kernel_rfl) (by kernel_rfl) (by kernel_rfl) (fun _ h => by cases h)
  refine ⟨fun s W => At w [] W ∧ ∃ k : Nat, s.1 = k ∧ k ≤ l.length ∧ vok (if k = 0 then none else l[k - 1]?) (l.drop k) = vecB l, fun s _ => l.length - s.1.toNat, ⟨hA, 0, rfl, Nat.zero_le _, rfl⟩, ?_⟩
  intro i W ⟨hA, k, hi, hk, hv⟩
  simp only at hi
  subst hi
  refine brD (fun hlt => ?_) (fun hge => ?_)
  · obtain ⟨p, hp⟩ : ∃ x, l[k]? = some x := ⟨_, List.getElem?_eq_getElem (by omega)⟩
    obtain ⟨ad, g1, r1⟩ := hat hA hp
    rw [vok_step hp] at hv
    have e1 : IntKind.i64.wrap ((k : Int) + 1) = ((k + 1 : Nat) : Int) := by rw [wrap_i64 (by omega) (by omega)]; rfl
    rw [e1]
    refine ⟨_, g1, _, _, _, r1, ?_⟩
    refine go_n hA fun n9 h_n9 => ?_
    refine go_evo hA (by intro d hd; simp at hd; omega) fun _ hA => ?_
    refine at_call hA (c65 _ _ _ _) (fun _ hA hk => ?_)
    refine ⟨_, _, rfl, hk, ?_⟩
    refine at_call hA (c64 _ _ _) (fun _ hA hk => ?_)
    refine ⟨_, rfl, hk, ?_⟩
    have next : (∀ W', At w [n9] W' → decide (partR p) = true → okB (if k = 0 then none else l[k - 1]?) p = true → (At w [] W' ∧ ∃ k' : Nat, ((k + 1 : Nat) : Int) = k' ∧ k' ≤ l.length ∧ vok (if k' = 0 then none else l[k' - 1]?) (l.drop k') = vecB l) ∧ l.length - ((k + 1 : Nat) : Int).toNat < l.length - (k : Int).toNat) := by
      intro W' hA h1 h2
      rw [h1, h2] at hv
      refine ⟨⟨hA.off, k + 1, rfl, by omega, ?_⟩, by omega⟩
      rw [if_neg (by omega), show k + 1 - 1 = k by omega, hp]
      simpa using hv
    refine brND (fun h1 => ?_) (fun h1 => brD (fun h2 => ?_) (fun h2 => ?_))
    · refine leaf h hA ?_
      rw [← hv, decide_eq_false (show ¬ partR p from fun hh => h1 hh.1)]
      rfl
    · refine leaf h hA ?_
      rw [← hv, decide_eq_false (show ¬ partR p from fun hh => by have := hh.2.1; omega)]
      rfl
    refine at_call hA (c66 _ _) (fun _ hA hk => ?_)
    refine ⟨_, rfl, hk, ?_⟩
    refine brND (fun h3 => leaf h hA ?_) (fun h3 => ?_)
    · rw [← hv, decide_eq_false (show ¬ partR p from fun hh => by have := hh.2; omega)]
      rfl
    have hR : partR p := ⟨h1, by omega, h3.2⟩
    refine brD (fun h4 => ?_) (fun h4 => ?_)
    · obtain ⟨q, hq⟩ : ∃ x, l[k - 1]? = some x := ⟨_, List.getElem?_eq_getElem (by omega)⟩
      obtain ⟨ad2, g2, r2⟩ := hat hA hq
      have e2 : IntKind.i64.wrap ((k : Int) - 1) = ((k - 1 : Nat) : Int) := by rw [wrap_i64 (by omega) (by omega)]; omega
      rw [e2]
      refine ⟨_, g2, _, _, _, r2, ?_⟩
      refine at_call hA (c65 _ _ _ _) (fun _ hA hk => ?_)
      refine ⟨_, _, rfl, hk, ?_⟩
      refine at_call hA (c65 _ _ _ _) (fun _ hA hk => ?_)
      refine ⟨_, _, rfl, hk, ?_⟩
      refine at_call hA (c67 _ _ _ _ _) (fun _ hA hk => ?_)
      refine ⟨_, rfl, hk, ?_⟩
      rw [if_neg (show ¬ k = 0 by omega), hq] at hv next
      refine brD (fun h5 => leaf h hA ?_) (fun h5 => next _ hA (by simpa using hR) (by rw [slotC_ge] at h5; simpa [okB] using h5))
      rw [slotC_ge] at h5
      rw [← hv]
      simp [okB, h5]
    · have h0 : k = 0 := by omega
      rw [if_pos h0] at next
      exact next _ hA (by simpa using hR) rfl
  · have hke : k = l.length := by omega
    subst hke
    rw [List.drop_length] at hv
    exact leaf h hA (by rw [← hv, vok_nil])
theorem succ_i (k : Nat) (h : k < 9223372036854775807) : IntKind.i64.wrap ((k : Int) + 1) = ((k + 1 : Nat) : Int) := by rw [wrap_i64 (by omega) (by omega)]; rfl
theorem part_len (x : PartT) : (partE x).length = 3 := rfl
theorem part_one (x : PartT) : ∀ u ∈ partE x, u.oneCell' = true := fun u hu => by
  simp at hu
  rcases hu with rfl | rfl | rfl <;> rfl
end Go.Vc.ZQ

/- Decimal digits, and strings as lists of bytes. -/
namespace Go.Vc
open Go Go.RowKit
def decL (n least : Int) : List Int := if 10 ≤ n ∨ (1 < least ∧ 0 ≤ n) then decL (n / 10) (least - 1) ++ [48 + n % 10] else [48 + n % 10]
termination_by n.toNat + least.toNat
decreasing_by
  rename_i h
  rcases h with h | h <;> omega

theorem decL_len (n least : Int) : (decL n least).length ≤ n.toNat + least.toNat + 1 := by
  rw [decL]
  split
  · rename_i h
    have := decL_len (n / 10) (least - 1)
    rw [List.length_append, List.length_singleton]
    rcases h with h | h <;> omega
  · simp
termination_by n.toNat + least.toNat
decreasing_by
  rename_i h
  rcases h with h | h <;> omega

theorem decL_byte (n least : Int) (hn : 0 ≤ n) : ∀ x ∈ decL n least, 48 ≤ x ∧ x ≤ 57 := by
  rw [decL]
  split
  · rename_i h
    intro x hx
    rcases List.mem_append.1 hx with hx | hx
    · exact decL_byte (n / 10) (least - 1) (by omega) x hx
    · simp at hx
      omega
  · intro x hx
    simp at hx
    omega
termination_by n.toNat + least.toNat
decreasing_by
  all_goals omega

theorem decL_one (n least : Int) (h : least ≤ 1) : decL n least = decL n 1 := by
  rw [decL, decL.eq_def n 1]
  by_cases hn : 10 ≤ n
  · rw [if_pos (.inl hn), if_pos (.inl hn), decL_one (n / 10) (least - 1) (by omega), decL_one (n / 10) (1 - 1) (by omega)]
  · rw [if_neg (by omega), if_neg (by omega)]
termination_by n.toNat
decreasing_by
  all_goals omega

theorem strOfNums_append (a b : List Int) : strOfNums a ++ strOfNums b = strOfNums (a ++ b) := by
  show (⟨_⟩ : ByteArray) ++ ⟨_⟩ = ⟨_⟩
  rw [ByteArray.mk_append_mk, List.map_append]

theorem decL_short : ∀ (k : Nat) (n : Int), 0 ≤ n → n < 10 ^ (k + 1) → (decL n 1).length ≤ k + 1
  | 0, n, h0, h => by
    rw [decL, if_neg (by omega)]
    simp
  | k + 1, n, h0, h => by
    rw [decL]
    split
    · rw [decL_one _ (1 - 1) (by omega), List.length_append, List.length_singleton]
      have e : (10 : Int) ^ (k + 1 + 1) = 10 ^ (k + 1) * 10 := Int.pow_succ ..
      have := decL_short k (n / 10) (by omega) (by rw [e] at h; omega)
      omega
    · simp

/-- Digits by the reference: put in front, one by one. -/
theorem digit1 {d : Int} (h : 0 ≤ d ∧ d < 10) : decL d 1 = [48 + d] := by
  rw [decL, if_neg (by omega), Int.emod_eq_of_lt h.1 h.2]
theorem dec_small {n : Int} (h : 0 ≤ n ∧ n ≤ 9223372036854775807) : (strOfNums (decL n 1)).size ≤ 19 := by
  rw [strOfNums_size]
  exact decL_short 18 n h.1 (by omega)

theorem bytesOf_strOfNums {l : List Int} (h : ∀ x ∈ l, 0 ≤ x ∧ x < 256) : bytesOf (strOfNums l) = l := by
  show (((l.map fun n => UInt8.ofNat n.toNat).toArray).toList.map fun b => (b.toNat : Int)) = l
  rw [List.toList_toArray, List.map_map]
  conv => rhs; rw [← List.map_id l]
  apply List.map_congr_left
  intro x hx
  have := h x hx
  simp
  omega
theorem bytes_ext {a b : ByteArray} (h : bytesOf a = bytesOf b) : a = b := by
  rw [← strOfNums_bytesOf a, h, strOfNums_bytesOf]

theorem append_sep {k : Int} : ∀ {a b x y : List Int}, k ∉ a → k ∉ b → a ++ k :: x = b ++ k :: y → a = b ∧ x = y
  | [], [], x, y, _, _, h => ⟨rfl, by simpa using h⟩
  | [], c :: b, x, y, _, hb, h => by
    simp at h
    exact absurd (h.1 ▸ List.mem_cons_self ..) hb
  | c :: a, [], x, y, ha, _, h => by
    simp at h
    exact absurd (h.1 ▸ List.mem_cons_self ..) ha
  | c :: a, d :: b, x, y, ha, hb, h => by
    simp only [List.cons_append, List.cons.injEq] at h
    obtain ⟨rfl, h⟩ := h
    obtain ⟨rfl, rfl⟩ := append_sep (fun hk => ha (List.mem_cons_of_mem _ hk)) (fun hk => hb (List.mem_cons_of_mem _ hk)) h
    exact ⟨rfl, rfl⟩

theorem decL_inj (n m : Int) (hn : 0 ≤ n) (hm : 0 ≤ m) (h : decL n 1 = decL m 1) : n = m := by
  rw [decL.eq_def n, decL.eq_def m] at h
  have l1 : ∀ k : Int, 0 < (decL k (1 - 1)).length := fun k => by rw [decL]; split <;> simp
  split at h <;> split at h
  · obtain ⟨h1, h2⟩ := List.append_inj' h rfl
    rw [decL_one _ (1 - 1) (by omega), decL_one (m / 10) (1 - 1) (by omega)] at h1
    have := decL_inj (n / 10) (m / 10) (by omega) (by omega) h1
    simp at h2
    omega
  · have hlen := congrArg List.length h
    rw [List.length_append, List.length_singleton, List.length_singleton] at hlen
    have := l1 (n / 10)
    omega
  · have hlen := congrArg List.length h
    rw [List.length_append, List.length_singleton, List.length_singleton] at hlen
    have := l1 (m / 10)
    omega
  · simp at h
    omega
termination_by n.toNat
decreasing_by
  all_goals omega

theorem decL_no {n : Int} (hn : 0 ≤ n) {k : Int} (hk : k < 48 ∨ 57 < k) : k ∉ decL n 1 := fun h => by
  have := decL_byte n 1 hn k h
  omega


/-- A string of bytes written out. -/
theorem opw_bytes0 {P : Program} {M : Nat → Prop} {w W : World} {t e td : TypeId} {len : Nat} {parts : Array (Nat × Value)} {l : List Int} {K : ByteArray → World → Prop} (hA : AtF w M [] W) (hl : len = l.length) (hm : len ≤ maxLen) (hc : sliceCells P t len parts = some (e, l.flatMap u8e))
    (hs : P.underlying t = some (.slice e)) (he : P.underlying e = some (.int .u8)) (hd : P.underlying td = some .string)
    (h : ∀ w', AtF w M [] w' → Bel W w' → K (strOfNums l) w') :
    OpW P (valueS (Instr.buildSlice t len parts)) W fun v1 w1 => ∃ a n c, v1 = .slice a n c ∧ OpW P (valueS (convert t td (.slice a n c))) w1 fun v2 w2 => ∃ s, v2 = .string s ∧ K s w2 := by
  refine opw_litL (f := u8e) (size := 1) hA hl (fun _ _ => rfl) hm hc fun g w' _ hA' _ hb ho => ⟨_, _, _, rfl, ?_⟩
  exact opw_b2s hs he hd (ho.sl (by simp)) ⟨_, rfl, h w' hA' hb⟩
end Go.Vc

/- Own text of this claim: ZQE1. -/
set_option maxRecDepth 20000
namespace Go.Vc.ZQ
open Go Go.Vc Go.Vc.V Go.RowKit Go.Proofs Vcqz

def sCpus : ByteArray := ByteArray.mk #[99, 112, 117, 115]
def sMem : ByteArray := ByteArray.mk #[109, 101, 109]
def sDisk : ByteArray := ByteArray.mk #[100, 105, 115, 107]
def sGpus : ByteArray := ByteArray.mk #[103, 112, 117, 115]
def nms : List ByteArray := [sCpus, sMem, sDisk, sGpus]
/-- The table, in memory. -/
def Tab (W : World) : Prop := Elt W ⟨4, 0, none⟩ (nms.map Value.string)
theorem Tab.below {W W' : World} (h : Tab W) (hb : Bel W W') : Tab W' := Elt.below h hb
theorem Tab.at_ {w W : World} {gs : List Nat} (h : Tab w) (hA : At w gs W) : Tab W := h.below hA.below

theorem c104 (w : World) (hT : Tab w) : Ret Tryz.prog 104 #[] w (.agg #[.string sCpus, .string sMem, .string sDisk, .string sGpus]) := by
  intro R h
  refine f104_calls w R ?_
  unfold f104_vc
  have hA := At.refl w
  refine go_n hA fun n1 h_n1 => ?_
  refine ⟨_, _, _, _, Elt.agg 4 hT (by kernel_rfl) (by kernel_rfl) (by decide) no_ds, ?_⟩
  refine go_evo hA (by intro d hd; simp at hd; omega) fun _ hA => ?_
  exact leaf h hA rfl

end Go.Vc.ZQ

/- Own text of this claim: ZQE2. -/
set_option maxRecDepth 20000
namespace Go.Vc.ZQ
open Go Go.Vc Go.Vc.V Go.RowKit Go.Proofs Vcqz

theorem u8_digit {x : Int} (h : 0 ≤ x) : IntKind.u8.wrap (IntKind.i64.wrap (48 + x.tmod 10)) = 48 + x % 10 := by
  rw [Int.tmod_eq_emod_of_nonneg h, wrap_i64 (by omega) (by omega), wrap_u8]
  omega

theorem c95 {w0 : World} {gs : List Nat} (n least : Int) (h0 : 0 ≤ n) (h1 : n ≤ 9223372036854775807) (h2 : least ≤ 1000) (h3 : -4611686018427387904 ≤ least - n) {W : World} {a : Option Addr} {m c : Nat} {l : List Int} (hA : At w0 gs W) (ho : OwnL w0 gs W 5 1 u8e (.slice a m c) l) (hb : l.length + n.toNat + least.toNat + 1 ≤ 70368744177664)
    (R : Ending → World → Prop) (h : ∀ a' c' w', At w0 gs w' → Keeps gs W w' → OwnL w0 gs w' 5 1 u8e (.slice a' (l ++ decL n least).length c') (l ++ decL n least) → R (.returned (.slice a' (l ++ decL n least).length c')) w') :
    Calls Tryz.prog 95 #[.slice a m c, .int .i64 n, .int .i64 least] W R := by
  refine f95_calls a m c n least W R ?_
  unfold f95_vc
  rw [u8_digit h0]
  have fin : ∀ {W : World} {a : Option Addr} {m c : Nat} {l' : List Int}, At w0 gs W → OwnL w0 gs W 5 1 u8e (.slice a m c) l' → l'.length + 1 ≤ 70368744177664 → ∀ {K : Value → World → Prop}, (∀ a' c' w', At w0 gs w' → Keeps gs W w' → OwnL w0 gs w' 5 1 u8e (.slice a' (l' ++ [48 + n % 10]).length c') (l' ++ [48 + n % 10]) → K (.slice a' (l' ++ [48 + n % 10]).length c') w') → OpW Tryz.prog (valueS (Instr.buildSlice 63 1 #[(0, .int .u8 (48 + n % 10))])) W fun v w' => ∃ a1 n1 cc1, v = .slice a1 n1 cc1 ∧ OpW Tryz.prog (builtin .append #[63, 63] 63 #[false, false] #[.slice a m c, .slice a1 n1 cc1]) w' K := by
    intro W a m c l' hA ho hlen K hK
    refine opw_lit hA (e' := 5) (cs := u8e (48 + n % 10)) (by kernel_rfl) fun w' hA hk hb hc _ => ⟨_, _, _, rfl, ?_⟩
    refine opw_append1 (bytes := 1) (by kernel_rfl) hA (ho.call hb) (x := 48 + n % 10) rfl hc (by simp [Value.oneCell']) hlen (.inl rfl) fun v' w'' hA hk2 hg ho' _ => ?_
    obtain ⟨a', c', rfl, _⟩ := ho'.slice (by simp)
    exact hK a' c' w'' hA (fun g hg => (hk2 g hg).trans (hk g hg)) ho'
  have hlen := decL_len (n / 10) (least - 1)
  have rec' : (10 ≤ n ∨ (1 < least ∧ 0 ≤ n)) → ∀ (R : Ending → World → Prop), (∀ a' c' w', At w0 gs w' → Keeps gs W w' → OwnL w0 gs w' 5 1 u8e (.slice a' (l ++ decL (n / 10) (least - 1)).length c') (l ++ decL (n / 10) (least - 1)) → R (.returned (.slice a' (l ++ decL (n / 10) (least - 1)).length c')) w') →
      Calls Tryz.prog 95 #[.slice a m c, .int .i64 (IntKind.i64.wrap (n.tdiv 10)), .int .i64 (IntKind.i64.wrap (least - 1))] W R := by
    intro hc R h
    rw [Int.tdiv_eq_ediv_of_nonneg h0, wrap_i64 (by omega) (by omega), wrap_i64 (by omega) (by omega)]
    exact c95 (n / 10) (least - 1) (by omega) (by omega) (by omega) (by omega) hA ho (by rcases hc with hc | hc <;> omega) R h
  have hstep : (10 ≤ n ∨ (1 < least ∧ 0 ≤ n)) → decL n least = decL (n / 10) (least - 1) ++ [48 + n % 10] := fun hc => by rw [decL, if_pos hc]
  have go : (10 ≤ n ∨ (1 < least ∧ 0 ≤ n)) → Calls Tryz.prog 95 #[.slice a m c, .int .i64 (IntKind.i64.wrap (n.tdiv 10)), .int .i64 (IntKind.i64.wrap (least - 1))] W fun e w' => ∃ a3 n4 n5, e = .returned (.slice a3 n4 n5) ∧ OpW Tryz.prog (valueS (Instr.buildSlice 63 1 #[(0, .int .u8 (48 + n % 10))])) w' fun v w' => ∃ a1 n1 cc1, v = .slice a1 n1 cc1 ∧ OpW Tryz.prog (builtin .append #[63, 63] 63 #[false, false] #[.slice a3 n4 n5, .slice a1 n1 cc1]) w' fun v w' => ∃ a1 n1 cc1, v = .slice a1 n1 cc1 ∧ R (.returned (.slice a1 n1 cc1)) w' := by
    intro hc
    refine rec' hc _ fun a' c' w' hA hk ho => ⟨_, _, _, rfl, ?_⟩
    refine fin hA ho (by rw [List.length_append]; rcases hc with hc | hc <;> omega) fun a' c' w'' hA hk2 ho => ⟨_, _, _, rfl, ?_⟩
    have e : l ++ decL (n / 10) (least - 1) ++ [48 + n % 10] = l ++ decL n least := by rw [hstep hc, List.append_assoc]
    rw [e] at ho ⊢
    exact h a' c' w'' hA (fun g hg => (hk2 g hg).trans (hk g hg)) ho
  refine brD (fun h10 => go (.inl h10)) (fun h10 => brD (fun hl => go (.inr ⟨hl, h0⟩)) (fun hl => ?_))
  refine fin hA ho (by omega) fun a' c' w' hA hk ho => ⟨_, _, _, rfl, ?_⟩
  have e : [48 + n % 10] = decL n least := by rw [decL, if_neg (by omega)]
  rw [e] at ho ⊢
  exact h a' c' w' hA hk ho
termination_by n.toNat + least.toNat
decreasing_by
  rcases hc with hc | hc <;> omega

/-! ### Text -/
def strip (l : List Int) : List Int := (l.reverse.dropWhile (· == 48)).reverse
def txtL (n : Int) : List Int := if 0 ≤ n ∧ n ≤ 9007199254740992 then (if n % 1000 = 0 then decL (n / 1000) 1 else strip (decL (n / 1000) 1 ++ [46] ++ decL (n % 1000) 3)) else []

theorem strip_snoc (l : List Int) : strip (l ++ [48]) = strip l := by simp [strip]
theorem strip_keep (l : List Int) {x : Int} (h : x ≠ 48) : strip (l ++ [x]) = l ++ [x] := by
  simp [strip, h]

theorem c82 (n : Int) (w : World) (hn : I64 n) : Ret Tryz.prog 82 #[.int .i64 n] w (.string (strOfNums (txtL n))) := by
  intro R h
  refine f82_calls n w R ?_
  unfold f82_vc
  have hA := At.refl w
  refine at_call hA (c66 _ _) (fun _ hA hk => ⟨_, rfl, ?_⟩)
  refine brND (fun hr => leaf h hA (by rw [txtL, if_neg hr]; rfl)) (fun hr => ?_)
  rw [txtL, if_pos hr] at h
  rw [Int.tdiv_eq_ediv_of_nonneg hr.1, Int.tmod_eq_emod_of_nonneg hr.1, wrap_i64 (by omega) (by omega)]
  refine c95 (n / 1000) 1 (by omega) (by omega) (by omega) (by omega) hA OwnL.nil (by simp; omega) _ fun a' c' w' hA hk ho => ⟨_, _, _, rfl, ?_⟩
  rw [List.nil_append] at ho ⊢
  have hd := decL_len (n / 1000) 1
  refine brE (fun h0 => ?_) (fun h0 => ?_)
  · rw [if_pos h0] at h
    refine opw_b2s (e := 5) (by kernel_rfl) (by kernel_rfl) (by kernel_rfl) (ho.sl (by simp)) ⟨_, rfl, ?_⟩
    exact leaf h hA rfl
  · rw [if_neg h0] at h
    refine opw_lit hA (e' := 5) (cs := u8e 46) (by kernel_rfl) fun w' hA hk hb hc _ => ⟨_, _, _, rfl, ?_⟩
    refine opw_append1 (bytes := 1) (by kernel_rfl) hA (ho.call hb) (x := 46) rfl hc (by simp [Value.oneCell']) (by omega) (.inl rfl) fun v' w'' hA hk2 hg ho' _ => ?_
    obtain ⟨a1, cc1, rfl, _⟩ := ho'.slice (by simp)
    refine ⟨_, _, _, rfl, ?_⟩
    refine c95 (n % 1000) 3 (by omega) (by omega) (by omega) (by omega) hA ho' (by simp; omega) _ fun a' c' w' hA hk ho => ⟨_, _, _, rfl, ?_⟩
    generalize hL : decL (n / 1000) 1 ++ [46] ++ decL (n % 1000) 3 = L at ho h ⊢
    have hne : ∃ x ∈ L, x ≠ 48 := ⟨46, by rw [← hL]; simp, by decide⟩
    have hlen : L.length ≤ 70368744177664 := by
      have := decL_len (n % 1000) 3
      rw [← hL]
      simp
      omega
    have hby : ∀ x ∈ L, 0 ≤ x ∧ x ≤ 57 := by
      rw [← hL]
      intro x hx
      simp at hx
      rcases hx with hx | rfl | hx
      · have := decL_byte _ _ (by omega) x hx; omega
      · omega
      · have := decL_byte _ _ (by omega) x hx; omega
    refine ⟨fun s W => At w [] W ∧ ∃ l : List Int, OwnL w [] W 5 1 u8e (.slice s.1.1 s.1.2.1 s.1.2.2) l ∧ l <+: L ∧ (∃ x ∈ l, x ≠ 48) ∧ strip l = strip L, fun s _ => s.1.2.1, ⟨hA, L, ho, List.prefix_rfl, hne, rfl⟩, ?_⟩
    intro a2 m2 cc2 W ⟨hA, l, ho, hpre, hnz, hst⟩
    have hm := ho.len
    simp only at hm ho
    subst hm
    have hll := hpre.length_le
    have hpos : 0 < l.length := by
      obtain ⟨x, hx, _⟩ := hnz
      exact List.length_pos_of_mem hx
    have hidx : IntKind.i64.wrap ((l.length : Int) - 1) = ((l.length - 1 : Nat) : Int) := by
      rw [wrap_i64 (by omega) (by omega)]
      omega
    rw [hidx]
    obtain ⟨l', x, rfl⟩ : ∃ l' x, l = l' ++ [x] := ⟨l.dropLast, l.getLast (List.length_pos_iff.1 hpos), (List.dropLast_concat_getLast _).symm⟩
    have hx : (l' ++ [x])[(l' ++ [x]).length - 1]? = some x := by simp
    obtain ⟨ad, g1, r1⟩ := rd_one (te := 5) (ds := []) (k := .i64) (t := 63) (P := Tryz.prog) (e := 5) (ho.sl (by simp)) hx rfl (by kernel_rfl) (by kernel_rfl) (by kernel_rfl) (fun _ h => by cases h)
    refine ⟨_, g1, _, r1, brE (fun h48 => ?_) (fun h48 => ?_)⟩
    · subst h48
      obtain ⟨g, cur, _, _, _, hcap, _⟩ := ho.ptr hpos
      refine ⟨_, _, _, gives_front (e := 5) (size := 1) (by kernel_rfl) (by kernel_rfl) (by omega), ⟨hA, l', ?_, ?_, ?_, ?_⟩, ?_⟩
      · have hf := ho.front (by simp) (m := (l' ++ [(48 : Int)]).length - 1) (by omega)
        have e : (l' ++ [(48 : Int)]).take ((l' ++ [(48 : Int)]).length - 1) = l' := by simp
        rw [e] at hf
        exact hf
      · exact (List.prefix_append l' [48]).trans hpre
      · obtain ⟨y, hy, hy48⟩ := hnz
        rcases List.mem_append.1 hy with hy | hy
        · exact ⟨y, hy, hy48⟩
        · simp at hy
          exact absurd hy hy48
      · rw [← hst, strip_snoc]
      · simp only
        omega
    · refine opw_b2s (e := 5) (by kernel_rfl) (by kernel_rfl) (by kernel_rfl) (ho.sl (by simp)) ⟨_, rfl, ?_⟩
      exact leaf h hA (by rw [← hst, strip_keep _ h48])
end Go.Vc.ZQ

/- Own text of this claim: ZQE3. -/
set_option maxRecDepth 20000
namespace Go.Vc.ZQ
open Go Go.Vc Go.Vc.V Go.RowKit Go.Proofs Vcqz

abbrev strE (s : ByteArray) : List Value := [.string s]

def nmOf (k : Int) : ByteArray := if 0 ≤ k ∧ k < 4 then (nms[k.toNat]?).getD (ByteArray.mk #[]) else ByteArray.mk #[]
theorem nm_at {k : Nat} (h : k < 4) : nms[k]? = some (nmOf k) := by
  unfold nmOf
  rw [if_pos (by omega)]
  have hc : k = 0 ∨ k = 1 ∨ k = 2 ∨ k = 3 := by omega
  rcases hc with rfl | rfl | rfl | rfl <;> rfl
theorem nm_small (k : Int) : (nmOf k).size ≤ 4 := by
  unfold nmOf
  split
  · rename_i h
    have hc : k = 0 ∨ k = 1 ∨ k = 2 ∨ k = 3 := by omega
    rcases hc with rfl | rfl | rfl | rfl <;> decide
  · decide

theorem c93 (k : Int) (w : World) (hT : Tab w) : Ret Tryz.prog 93 #[.int .i64 k] w (.string (nmOf k)) := by
  intro R h
  refine f93_calls k w R ?_
  unfold f93_vc
  have hA := At.refl w
  refine at_call hA (c104 _ hT) (fun w2 hA hk => ⟨_, _, _, _, rfl, ?_⟩)
  refine opw_allocArr (n := 1) (size := 4) (f := fun x : ByteArray × ByteArray × ByteArray × ByteArray => [.string x.1, .string x.2.1, .string x.2.2.1, .string x.2.2.2]) (z := (ByteArray.mk #[], ByteArray.mk #[], ByteArray.mk #[], ByteArray.mk #[])) hA (zv := .agg #[.string (ByteArray.mk #[]), .string (ByteArray.mk #[]), .string (ByteArray.mk #[]), .string (ByteArray.mk #[])]) (by kernel_rfl) rfl rfl (by decide) fun w8 hA hk ho => ⟨_, rfl, ?_⟩
  generalize hg : w2.heap.size = g at ho ⊢
  refine opw_store (y := (sCpus, sMem, sDisk, sGpus)) (i := 0) hA ho (fun _ _ => rfl) (by simp) rfl rfl rfl (by kernel_rfl) (fun w11 hA _ _ ho => ?_) (fun g' hg' => by cases hg'; simp)
  refine brD (fun hlt => leaf h hA ?_) (fun hge => brD (fun hgt => leaf h hA ?_) (fun hle => ?_))
  · rw [nmOf, if_neg (by omega)]
  · rw [nmOf, if_neg (by omega)]
  obtain ⟨q, rfl⟩ : ∃ q : Nat, k = q := ⟨k.toNat, by omega⟩
  obtain ⟨b, cs, hb, hl, hcs, rfl⟩ := (ho.sl (fun _ _ => rfl)).at_ (i := 0) rfl
  cases hb
  have hcell : w11.cell? (Addr.add ⟨g, 0, none⟩ (q * 1)) = some (.string (nmOf q)) := by
    have hx : [Value.string sCpus, .string sMem, .string sDisk, .string sGpus][q]? = some (.string (nmOf q)) := by
      have := nm_at (k := q) (by omega)
      have h2 := congrArg (Option.map Value.string) this
      rw [← List.getElem?_map] at h2
      exact h2
    have := hcs q _ hx
    rw [Nat.zero_mul, addr_add0] at this
    rwa [Nat.mul_one]
  exact ⟨_, gives_index_arr (e := 9) (n := 1) (by kernel_rfl) (by kernel_rfl) (by omega : q < 4), _, reads_one (by kernel_rfl) no_ds hcell, leaf h hA rfl⟩

theorem c94 (n : Int) (h0 : 0 ≤ n) (h1 : n ≤ 9223372036854775807) (w : World) : Ret Tryz.prog 94 #[.int .i64 n] w (.string (strOfNums (decL n 1))) := by
  intro R h
  refine f94_calls n w R ?_
  unfold f94_vc
  have hA := At.refl w
  refine brD (fun hlt => ?_) (fun hge => ?_)
  · have e : IntKind.u8.wrap (IntKind.i64.wrap (48 + n)) = 48 + n := by
      rw [wrap_i64 (by omega) (by omega), wrap_u8]
      omega
    rw [e]
    refine opw_bytes0 (e := 5) (l := [48 + n]) hA rfl (by decide) (by kernel_rfl) (by kernel_rfl) (by kernel_rfl) (by kernel_rfl) fun w' hA _ => leaf h hA (by rw [digit1 ⟨h0, by omega⟩])
  · rw [Int.tdiv_eq_ediv_of_nonneg h0, Int.tmod_eq_emod_of_nonneg h0, wrap_i64 (x := n / 10) (by omega) (by omega)]
    refine at_call hA (c94 (n / 10) (by omega) (by omega) _) (fun _ hA hk => ⟨_, rfl, ?_⟩)
    refine at_call hA (c94 (n % 10) (by omega) (by omega) _) (fun _ hA hk => ⟨_, rfl, ?_⟩)
    have d1 := dec_small (n := n / 10) (by omega)
    have d2 := dec_small (n := n % 10) (by omega)
    refine ⟨_, gives_sadd (by omega), ?_⟩
    refine leaf h hA ?_
    rw [strOfNums_append, digit1 (d := n % 10) (by omega), decL.eq_def n 1, if_pos (.inl (by omega)), decL_one _ (1 - 1) (by omega)]
termination_by n.toNat
decreasing_by
  all_goals omega

noncomputable def stext (k r : Int) : ByteArray := if slotR k r then (if r = 0 then nmOf k else nmOf k ++ ByteArray.mk #[40] ++ strOfNums (decL r 1) ++ ByteArray.mk #[41]) else ByteArray.mk #[]

theorem c81 (k r : Int) (w : World) (hT : Tab w) : Ret Tryz.prog 81 #[slotV k r] w (.string (stext k r)) := by
  intro R h
  refine f81_calls k r w R ?_
  unfold f81_vc
  have hA := At.refl w
  refine go_n hA fun n1 h_n1 => ?_
  refine go_below hA fun _ hA => ?_
  refine at_call hA (c64 _ _ _) (fun _ hA hk => ?_)
  first | refine ⟨_, rfl, hk, ?_⟩ | refine ⟨_, _, rfl, hk, ?_⟩ | refine ⟨_, _, _, rfl, hk, ?_⟩ | refine ⟨_, _, _, _, rfl, hk, ?_⟩ | refine ⟨_, _, _, _, _, rfl, hk, ?_⟩ | refine ⟨_, _, _, _, _, _, rfl, hk, ?_⟩ | refine ⟨_, _, _, _, _, _, _, rfl, hk, ?_⟩ | refine ⟨_, _, _, _, _, _, _, _, rfl, hk, ?_⟩
  refine brND (fun hn => leaf h hA (by rw [stext, if_neg hn])) (fun hs => ?_)
  have hs' := hs
  unfold slotR at hs'
  refine brE (fun h0 => ?_) (fun h0 => ?_)
  · refine at_call hA (c93 _ _ (hT.at_ hA)) (fun _ hA hk => ?_)
    first | refine ⟨_, rfl, hk, ?_⟩ | refine ⟨_, _, rfl, hk, ?_⟩ | refine ⟨_, _, _, rfl, hk, ?_⟩ | refine ⟨_, _, _, _, rfl, hk, ?_⟩ | refine ⟨_, _, _, _, _, rfl, hk, ?_⟩ | refine ⟨_, _, _, _, _, _, rfl, hk, ?_⟩ | refine ⟨_, _, _, _, _, _, _, rfl, hk, ?_⟩ | refine ⟨_, _, _, _, _, _, _, _, rfl, hk, ?_⟩
    exact leaf h hA (by rw [stext, if_pos hs, if_pos h0])
  refine go_below hA fun _ hA => ?_
  refine at_call hA (c93 _ _ (hT.at_ hA)) (fun _ hA hk => ?_)
  first | refine ⟨_, rfl, hk, ?_⟩ | refine ⟨_, _, rfl, hk, ?_⟩ | refine ⟨_, _, _, rfl, hk, ?_⟩ | refine ⟨_, _, _, _, rfl, hk, ?_⟩ | refine ⟨_, _, _, _, _, rfl, hk, ?_⟩ | refine ⟨_, _, _, _, _, _, rfl, hk, ?_⟩ | refine ⟨_, _, _, _, _, _, _, rfl, hk, ?_⟩ | refine ⟨_, _, _, _, _, _, _, _, rfl, hk, ?_⟩
  have s1 := nm_small k
  have s2 : (ByteArray.mk #[40]).size = 1 := rfl
  have s3 : (ByteArray.mk #[41]).size = 1 := rfl
  have d1 := dec_small (n := r) (by omega)
  refine ⟨_, gives_sadd (by omega), ?_⟩
  refine at_call hA (c94 r (by omega) (by omega) _) (fun _ hA hk => ?_)
  first | refine ⟨_, rfl, hk, ?_⟩ | refine ⟨_, _, rfl, hk, ?_⟩ | refine ⟨_, _, _, rfl, hk, ?_⟩ | refine ⟨_, _, _, _, rfl, hk, ?_⟩ | refine ⟨_, _, _, _, _, rfl, hk, ?_⟩ | refine ⟨_, _, _, _, _, _, rfl, hk, ?_⟩ | refine ⟨_, _, _, _, _, _, _, rfl, hk, ?_⟩ | refine ⟨_, _, _, _, _, _, _, _, rfl, hk, ?_⟩
  refine ⟨_, gives_sadd (by rw [ByteArray.size_append]; omega), _, gives_sadd (by rw [ByteArray.size_append, ByteArray.size_append]; omega), ?_⟩
  exact leaf h hA (by rw [stext, if_pos hs, if_neg h0])

theorem dec2 {r : Int} (h1 : 10 ≤ r) (h2 : r < 100) : decL r 1 = [48 + r / 10, 48 + r % 10] := by
  rw [decL, if_pos (.inl h1), decL_one _ _ (by omega), digit1 (by omega)]
  rfl

theorem pack_num : ∀ (k : Fin 4) (r : Fin 33), IntKind.u16.wrap (↑(BitVec.ofInt 16 (IntKind.u16.wrap (IntKind.u16.wrap (r.val : Int) * 4)) ||| BitVec.ofInt 16 (IntKind.u16.wrap (k.val : Int))).toNat : Int) = 4 * (r.val : Int) + k.val := by decide +kernel
def pack (k r : Int) : Int := if slotR k r then 4 * r + k else 0
theorem and3 {n : Int} (h0 : 0 ≤ n) (h1 : n < 65536) : ((BitVec.ofInt 16 n &&& BitVec.ofInt 16 3).toNat : Int) = n % 4 := by
  obtain ⟨m, rfl⟩ : ∃ m : Nat, n = m := ⟨n.toNat, by omega⟩
  have e3 : (BitVec.ofInt 16 3 : BitVec 16) = BitVec.ofNat 16 3 := rfl
  have em : (BitVec.ofInt 16 (m : Int) : BitVec 16) = BitVec.ofNat 16 m := by simp
  rw [e3, em, BitVec.toNat_and, BitVec.toNat_ofNat, BitVec.toNat_ofNat, Nat.mod_eq_of_lt (by omega : m < 2 ^ 16)]
  have := Nat.and_two_pow_sub_one_eq_mod m 2
  rw [show (3 % 2 ^ 16 : Nat) = 2 ^ 2 - 1 by decide, this]
  omega
end Go.Vc.ZQ

/-
  DERIVED: THE SHELF's CONTRACTS AT THIS DUMP, IN PLAIN WORDS (tools/lay-plain.mjs out of 'TrydShelfQ.lean', which tools/lay-shelf.mjs wrote): THE SAME DECLARATIONS UNDER THE SAME NAMES: 'import', 'namespace', 'open', 'def', 'theorem' AND NOTHING ELSE: no command of the shelf's: FOR A HAND-IN. Each laying: the table of numbers ('.._ren') and one theorem, a field a fact of the dump's own or the kernel's comparison; each contract: ONE APPLICATION.
-/
namespace Go.Proofs
open Go.Shelf
def Tryz.lays156_ren : Go.Shelf.Ren := ⟨fun | 156 => 57 | 165 => 78 | 166 => 20 | 169 => 26 | 240 => 56 | 241 => 88 | 276 => 77 | 277 => 98 | n => n, fun | 31 => 66 | 9 => 9 | 3 => 3 | 4 => 4 | 0 => 0 | 20 => 20 | 72 => 65 | 76 => 69 | 70 => 62 | 37 => 63 | 75 => 68 | 127 => 118 | 164 => 135 | 5 => 5 | 80 => 77 | n => n, fun | n => n⟩
theorem Tryz.lays156 : Go.Proofs.Lays.n156 Tryz.prog Tryz.lays156_ren := {
  mixed := by kernel_rfl
  f156 := Tryz.func57.trans (congrArg some (by kernel_rfl))
  f165 := Tryz.func78.trans (congrArg some (by kernel_rfl))
  f166 := Tryz.func20.trans (congrArg some (by kernel_rfl))
  f169 := Tryz.func26.trans (congrArg some (by kernel_rfl))
  f240 := Tryz.func56.trans (congrArg some (by kernel_rfl))
  f241 := Tryz.func88.trans (congrArg some (by kernel_rfl))
  f276 := Tryz.func77.trans (congrArg some (by kernel_rfl))
  f277 := Tryz.func98.trans (congrArg some (by kernel_rfl))
  t0 := Tryz.underlying0
  a0 := Tryz.isAgg0
  z0 := Tryz.sizeOf0
  v0 := Tryz.zeroValue0
  t3 := Tryz.underlying3
  a3 := Tryz.isAgg3
  z3 := Tryz.sizeOf3
  v3 := Tryz.zeroValue3
  t4 := Tryz.underlying4
  a4 := Tryz.isAgg4
  z4 := Tryz.sizeOf4
  v4 := Tryz.zeroValue4
  t9 := Tryz.underlying9
  a9 := Tryz.isAgg9
  z9 := Tryz.sizeOf9
  v9 := Tryz.zeroValue9
  t20 := Tryz.underlying20
  a20 := Tryz.isAgg20
  z20 := Tryz.sizeOf20
  v20 := Tryz.zeroValue20
  t31 := Tryz.underlying66
  a31 := Tryz.isAgg66
  z31 := Tryz.sizeOf66
  v31 := Tryz.zeroValue66
  t37 := Tryz.underlying63
  a37 := Tryz.isAgg63
  z37 := Tryz.sizeOf63
  v37 := Tryz.zeroValue63
  t70 := Tryz.underlying62
  a70 := Tryz.isAgg62
  z70 := Tryz.sizeOf62
  v70 := Tryz.zeroValue62
  t72 := Tryz.underlying65
  a72 := Tryz.isAgg65
  z72 := Tryz.sizeOf65
  v72 := Tryz.zeroValue65
  t75 := Tryz.underlying68
  a75 := Tryz.isAgg68
  z75 := Tryz.sizeOf68
  v75 := Tryz.zeroValue68
  t76 := Tryz.underlying69
  a76 := Tryz.isAgg69
  z76 := Tryz.sizeOf69
  v76 := Tryz.zeroValue69
  t127 := Tryz.underlying118
  a127 := Tryz.isAgg118
  z127 := Tryz.sizeOf118
  v127 := Tryz.zeroValue118
  t164 := Tryz.underlying135
  a164 := Tryz.isAgg135
  z164 := Tryz.sizeOf135
  v164 := Tryz.zeroValue135 }
theorem Tryz.Builder_Extra_156 : Builder.Extra Tryz.prog Tryz.lays156_ren := {
  sizeBuilder := by kernel_rfl
  liesBuilder := by kernel_rfl
  t5 := Tryz.underlying5
  a5 := Tryz.isAgg5
  z5 := Tryz.sizeOf5
  v5 := Tryz.zeroValue5
  infoByte := by kernel_rfl
  cellsByte := by kernel_rfl
  sizeByte := by kernel_rfl
  neB5 := by decide }
open Go.RowKit in
/-- No element: the empty string; the world is as it was. (Whatever the slice's address and capacity: a nil slice too.) (LAID: no walk: one application.) -/
theorem Tryz.strings_Join_none (a : Option Addr) (c : Nat) (sep : ByteArray) (w : World) :
    Calls Tryz.prog 57 #[.slice a 0 c, .string sep] w fun e w' => e = .returned (.string ⟨#[]⟩) ∧ w' = w := Any.strings_Join_none Tryz.lays156 Tryz.Builder_Extra_156 a c sep w
open Go.RowKit in
/-- strings.Join: "Join concatenates the elements of its first argument to create a single string. The separator string sep is placed between elements in the resulting string.": HOWEVER MANY ELEMENTS. Below the heap's end the world is as it was. (LAID: no walk: one application.) -/
theorem Tryz.strings_Join (bk o c : Nat) (xs : List ByteArray) (sep : ByteArray) (w : World) (hcells : ∀ (j : Nat) x, xs[j]? = some x → w.cell? ⟨bk, o + j, none⟩ = some (.string x)) (hbk : bk < w.heap.size) (hN : xs.length ≤ 140737488355328) (hcap : xs.length ≤ c) (hlen : (Lib.join (xs.map (·.data.toList)) sep.data.toList).length ≤ 140737488355328) :
    Calls Tryz.prog 57 #[.slice (some ⟨bk, o, none⟩) xs.length c, .string sep] w fun e w' => e = .returned (.string ⟨(Lib.join (xs.map (·.data.toList)) sep.data.toList).toArray⟩) ∧ Below w.heap.size w w' := Any.strings_Join Tryz.lays156 Tryz.Builder_Extra_156 bk o c xs sep w hcells hbk hN hcap hlen
def Tryz.laysM173_ren : Go.Shelf.Ren := ⟨fun | 173 => 59 | 246 => 80 | 283 => 89 | 284 => 90 | 285 => 91 | 286 => 92 | 129 => 100 | 317 => 99 | 318 => 101 | 319 => 102 | 320 => 103 | 337 => 105 | 338 => 106 | n => n, fun | 2 => 2 | 3 => 3 | 9 => 9 | 4 => 4 | 171 => 146 | 0 => 0 | 53 => 147 | 37 => 63 | 5 => 5 | 173 => 150 | 212 => 158 | 51 => 138 | 20 => 20 | 213 => 159 | 46 => 145 | 232 => 164 | 233 => 165 | n => n, fun | 17 => 2 | 18 => 5 | 19 => 6 | n => n⟩
theorem Tryz.laysM173 : Go.Proofs.LaysM.n173 Tryz.prog Tryz.laysM173_ren := {
  mixed := by kernel_rfl
  f129 := Tryz.func100.trans (congrArg some (by kernel_rfl))
  f173 := Tryz.func59.trans (congrArg some (by kernel_rfl))
  f246 := Tryz.func80.trans (congrArg some (by kernel_rfl))
  f283 := Tryz.func89.trans (congrArg some (by kernel_rfl))
  f284 := Tryz.func90.trans (congrArg some (by kernel_rfl))
  f285 := Tryz.func91.trans (congrArg some (by kernel_rfl))
  f286 := Tryz.func92.trans (congrArg some (by kernel_rfl))
  f317 := Tryz.func99.trans (congrArg some (by kernel_rfl))
  f318 := Tryz.func101.trans (congrArg some (by kernel_rfl))
  f319 := Tryz.func102.trans (congrArg some (by kernel_rfl))
  f320 := Tryz.func103.trans (congrArg some (by kernel_rfl))
  f337 := Tryz.func105.trans (congrArg some (by kernel_rfl))
  f338 := Tryz.func106.trans (congrArg some (by kernel_rfl))
  t0 := Tryz.underlying0
  a0 := Tryz.isAgg0
  z0 := Tryz.sizeOf0
  v0 := Tryz.zeroValue0
  t2 := Tryz.underlying2
  a2 := Tryz.isAgg2
  z2 := Tryz.sizeOf2
  v2 := Tryz.zeroValue2
  t3 := Tryz.underlying3
  a3 := Tryz.isAgg3
  z3 := Tryz.sizeOf3
  v3 := Tryz.zeroValue3
  t4 := Tryz.underlying4
  a4 := Tryz.isAgg4
  z4 := Tryz.sizeOf4
  v4 := Tryz.zeroValue4
  t5 := Tryz.underlying5
  a5 := Tryz.isAgg5
  z5 := Tryz.sizeOf5
  v5 := Tryz.zeroValue5
  t9 := Tryz.underlying9
  a9 := Tryz.isAgg9
  z9 := Tryz.sizeOf9
  v9 := Tryz.zeroValue9
  t20 := Tryz.underlying20
  a20 := Tryz.isAgg20
  z20 := Tryz.sizeOf20
  v20 := Tryz.zeroValue20
  t37 := Tryz.underlying63
  a37 := Tryz.isAgg63
  z37 := Tryz.sizeOf63
  v37 := Tryz.zeroValue63
  t46 := Tryz.underlying145
  a46 := Tryz.isAgg145
  z46 := Tryz.sizeOf145
  v46 := Tryz.zeroValue145
  t51 := Tryz.underlying138
  a51 := Tryz.isAgg138
  z51 := Tryz.sizeOf138
  v51 := Tryz.zeroValue138
  t53 := Tryz.underlying147
  a53 := Tryz.isAgg147
  z53 := Tryz.sizeOf147
  v53 := Tryz.zeroValue147
  t171 := Tryz.underlying146
  a171 := Tryz.isAgg146
  z171 := Tryz.sizeOf146
  v171 := Tryz.zeroValue146
  t173 := Tryz.underlying150
  a173 := Tryz.isAgg150
  z173 := Tryz.sizeOf150
  v173 := Tryz.zeroValue150
  t212 := Tryz.underlying158
  a212 := Tryz.isAgg158
  z212 := Tryz.sizeOf158
  v212 := Tryz.zeroValue158
  t213 := Tryz.underlying159
  a213 := Tryz.isAgg159
  z213 := Tryz.sizeOf159
  t232 := Tryz.underlying164
  a232 := Tryz.isAgg164
  z232 := Tryz.sizeOf164
  v232 := Tryz.zeroValue164
  t233 := Tryz.underlying165
  a233 := Tryz.isAgg165
  z233 := Tryz.sizeOf165
  v233 := Tryz.zeroValue165
  g17 := by kernel_rfl
  g18 := by kernel_rfl
  g19 := by kernel_rfl
  i0 := by kernel_rfl
  i2 := by kernel_rfl
  i3 := by kernel_rfl
  i4 := by kernel_rfl
  i5 := by kernel_rfl
  i9 := by kernel_rfl
  i20 := by kernel_rfl
  i37 := by kernel_rfl
  i46 := by kernel_rfl
  i51 := by kernel_rfl
  i53 := by kernel_rfl
  i171 := by kernel_rfl
  i173 := by kernel_rfl
  i212 := by kernel_rfl
  i232 := by kernel_rfl
  i233 := by kernel_rfl
  m17 := by kernel_rfl
  m18 := by kernel_rfl
  m19 := by kernel_rfl }
open Go.RowKit Go.Sort Go.Lib in
/-- strconv.FormatInt: "FormatInt returns the string representation of i in the given base": AT BASE 10: i's decimal numeral, for every int64. (LAID: no walk: one application.) -/
theorem Tryz.strconv_FormatInt_10 (n : Int) (h0 : -9223372036854775808 ≤ n) (h1 : n ≤ 9223372036854775807) (w : World) (htab : Lib.TabIs Tryz.prog w "internal/strconv.uint64pow10" .u64 Lib.pow10Tab) :
    Calls Tryz.prog 59 #[.int .i64 n, .int .i64 10] w fun e w' => e = .returned (.string ⟨(Lib.itoa n).toArray⟩) ∧ ∃ k os, w' = grow (w.drewN k) os := Any.strconv_FormatInt_10 Tryz.laysM173 n h0 h1 w htab
end Go.Proofs

/- vec.Get, Text, Least; what works at all. -/
set_option maxRecDepth 20000
set_option maxHeartbeats 1000000
namespace Go.Vc.ZQ
open Go Go.Vc Go.Vc.V Go.RowKit Go.Proofs Vcqz

variable {w W W' : World} {M : Nat → Prop} {gs : List Nat}

/-- A contract that draws no one knows how often. -/
def RetW (P : Program) (f : FuncId) (args : Array Value) (W : World) (v : Value) : Prop :=
  ∀ R : Ending → World → Prop, (∀ w', Below W.heap.size W w' → R (.returned v) w') → Calls P f args W R
theorem SlE.low {α : Type} {n : Nat} {f : α → List Value} {l : List α} {a : Option Addr} {len c : Nat} (h : SlE W n f l a len c) (hb : Below W.heap.size W W') : SlE W' n f l a len c := h.mono (cell_below hb) fun _ _ h => h
theorem Tab.low (h : Tab W) (hb : Below W.heap.size W W') : Tab W' := fun j v hv => cell_below hb _ _ (h j v hv)

/-! ### Text -/
def rank (p : PartT) : Nat := (33 * p.1 + p.2.1).toNat
theorem sorted_len : ∀ (l : List PartT) (lo : Nat), l.Pairwise slt → (∀ p ∈ l, partR p) → (∀ p ∈ l, lo ≤ rank p) → l.length ≤ 132 - lo
  | [], _, _, _, _ => Nat.zero_le _
  | p :: l, lo, h, hR, hlo => by
    have h := List.pairwise_cons.1 h
    have hp := hR p (by simp)
    have hlp := hlo p (by simp)
    have ih := sorted_len l (rank p + 1) h.2 (fun q hq => hR q (by simp [hq])) fun q hq => by
      have h1 := h.1 q hq
      have h2 := hR q (by simp [hq])
      unfold rank slt partR slotR at *
      omega
    unfold rank partR slotR at *
    simp only [List.length_cons]
    omega
theorem vec_len' {l : List PartT} (h : vecB l = true) : l.length ≤ 132 := sorted_len l 0 (vecB_iff.1 h).2 (vecB_iff.1 h).1 fun _ _ => Nat.zero_le _
noncomputable def wordB (p : PartT) : ByteArray := stext p.1 p.2.1 ++ ByteArray.mk #[58] ++ strOfNums (txtL p.2.2)
noncomputable def vtext (l : List PartT) : ByteArray := if vecB l = true then (if l = [] then ByteArray.mk #[45] else ⟨(Lib.join (l.map fun p => (wordB p).data.toList) [44]).toArray⟩) else ByteArray.mk #[]
theorem stext_small (k r : Int) : (stext k r).size ≤ 40 := by
  unfold stext
  split
  · rename_i h
    unfold slotR at h
    have := nm_small k
    split
    · omega
    · have d1 := dec_small (n := r) (by omega)
      have s2 : (ByteArray.mk #[40]).size = 1 := rfl
      have s3 : (ByteArray.mk #[41]).size = 1 := rfl
      rw [ByteArray.size_append, ByteArray.size_append, ByteArray.size_append]
      omega
  · decide
theorem strip_le (l : List Int) : (strip l).length ≤ l.length := by
  unfold strip
  rw [List.length_reverse]
  exact Nat.le_trans (List.Sublist.length_le (List.dropWhile_sublist _)) (by simp)
theorem txt_small (n : Int) : (strOfNums (txtL n)).size ≤ 1100 := by
  have e : ∀ l : List Int, (strOfNums l).size = l.length := fun l => by simp [strOfNums, ByteArray.size]
  rw [e]
  unfold txtL
  split
  · rename_i h
    have h1 := decL_short 12 (n / 1000) (by omega) (by omega)
    have h2 := decL_len (n % 1000) 3
    split
    · omega
    · refine Nat.le_trans (strip_le _) ?_
      simp only [List.length_append, List.length_cons, List.length_nil]
      omega
  · simp
theorem word_small (p : PartT) : (wordB p).size ≤ 1200 := by
  have h1 := stext_small p.1 p.2.1
  have h2 := txt_small p.2.2
  have s2 : (ByteArray.mk #[58]).size = 1 := rfl
  unfold wordB
  rw [ByteArray.size_append, ByteArray.size_append]
  omega
theorem lens_small : ∀ l : List PartT, Lib.lens (l.map fun p => (wordB p).data.toList) ≤ 1200 * l.length
  | [] => by simp [Lib.lens]
  | p :: l => by
    have ih := lens_small l
    have := word_small p
    have e : (wordB p).data.toList.length = (wordB p).size := by rw [Array.length_toList]; rfl
    unfold Lib.lens at *
    simp only [List.map_cons, List.sum_cons, List.length_cons, e]
    omega
theorem join_small (l : List PartT) : (Lib.join (l.map fun p => (wordB p).data.toList) [44]).length ≤ 1201 * l.length := by
  cases l with
  | nil => simp [Lib.join_nil]
  | cons p l =>
    have := lens_small (p :: l)
    rw [List.map_cons] at this ⊢
    rw [Lib.join_length]
    simp only [List.length_map, List.length_cons, List.length_nil] at *
    omega
theorem str_one (s : ByteArray) : ∀ u ∈ strE s, u.oneCell' = true := fun u hu => by
  simp at hu
  subst hu
  rfl
theorem part_I {l : List PartT} (hv : vecB l = true) {p : PartT} (hp : p ∈ l) : I64 p.2.2 := by
  have := ((vecB_iff.1 hv).1 p hp).2
  unfold I64
  omega

theorem c60 {l : List PartT} {a : Option Addr} {n c : Nat} (w : World) (hT : Tab w) (hs : SlE w 3 partE l a n c) : RetW Tryz.prog 60 #[.slice a n c] w (.string (vtext l)) := by
  intro R h
  refine f60_calls a n c w R ?_
  unfold f60_vc
  have hn := hs.1
  refine at_callb (At.refl w) (c40 w hs) fun w2 hA _ hb2 => ⟨_, rfl, brNB (fun hno => ?_) (fun hv => ?_)⟩
  · have := h w2 hA.below.below
    rwa [vtext, if_neg (by rw [hno]; decide)] at this
  rw [vtext, if_pos hv] at h
  have hlen := vec_len' hv
  refine ⟨fun v W' => At w [] W' ∧ ∃ i : Nat, v.2.1 = i ∧ i ≤ l.length ∧ OwnL w [] W' 9 1 strE (.slice v.1.1 v.1.2.1 v.1.2.2) ((l.take i).map wordB), fun v _ => (n - v.2.1).toNat, ⟨hA, 0, rfl, Nat.zero_le _, OwnL.nil⟩, ?_⟩
  rintro a6 n7 n8 x9 w10 ⟨hA, i, hi, hil, ho⟩
  simp only at hi ho
  subst hi
  refine brD (fun hlt => ?_) (fun hge => ?_)
  · obtain ⟨p, hp⟩ : ∃ x, l[i]? = some x := ⟨_, List.getElem?_eq_getElem (by omega)⟩
    obtain ⟨ad, g1, el, _⟩ := elt_at (P := Tryz.prog) (k := .i64) (t := 43) (hs.call hA.below) hp (e := 53) (by kernel_rfl) (by kernel_rfl)
    refine ⟨ad, g1, _, _, _, el.agg 3 (by kernel_rfl) (by kernel_rfl) (by simp) (by simp), ?_⟩
    intro n15 hn15 w16 hev hun
    have hbel := hev.bel (by simpa using hn15)
    have hA : At w [n15] w16 := ⟨(hA.call hbel).chg, hun⟩
    have ho := (ho.more (gs' := [n15]) (by intro g h1 _; simp at h1; omega)).call hbel
    have z1 := stext_small p.1 p.2.1
    have z2 := txt_small p.2.2
    have z3 : (ByteArray.mk #[58]).size = 1 := rfl
    refine at_callb hA (c65 _ _ _ w16) fun w18 hA hk hb18 => ⟨_, _, rfl, hk, ?_⟩
    refine at_callb hA (c81 _ _ w18 (hT.below hA.below)) fun w22 hA hk hb22 => ⟨_, rfl, hk, _, gives_sadd (by omega), ?_⟩
    refine at_callb hA (c82 _ w22 (part_I hv (List.mem_of_getElem? hp))) fun w26 hA hk hb26 => ⟨_, rfl, hk, _, gives_sadd (by rw [ByteArray.size_append]; omega), ?_⟩
    rw [succ_i i (by omega)]
    refine opw_push (f := strE) (e' := 9) (bytes := 16) hA (((ho.call hb18).call hb22).call hb26) (wordB p) (by kernel_rfl) (by kernel_rfl) rfl (fun _ _ => rfl) (str_one _) (by simp; omega) (by omega) fun a2 cc2 w35 hA ho _ _ => ?_
    have htk : (l.take (i + 1)).map wordB = (l.take i).map wordB ++ [wordB p] := by
      rw [List.take_add_one, hp, List.map_append]
      rfl
    rw [← htk] at ho
    refine ⟨⟨hA.off, i + 1, rfl, by omega, ?_⟩, by simp only; omega⟩
    have e : ((l.take i).map wordB ++ [wordB p]).length = ((l.take (i + 1)).map wordB).length := by rw [htk]
    simp only
    rw [e]
    exact ho.more (by simp)
  · rw [show i = l.length by omega, List.take_length] at ho
    have hno := ho.len
    rw [List.length_map] at hno
    refine brE (fun h0 => ?_) (fun h0 => ?_)
    · have hl0 : l = [] := List.eq_nil_of_length_eq_zero (by omega)
      have := h w10 hA.below.below
      rwa [if_pos hl0] at this
    · have hl0 : l ≠ [] := fun e => h0 (by rw [hno, e]; rfl)
      rw [if_neg hl0] at h
      have hlp : 0 < (l.map wordB).length := by rw [List.length_map]; exact List.length_pos_iff.2 hl0
      obtain ⟨g, cur, rfl, _, hg, hlc, hcm, _, _⟩ := ho.ptr hlp
      have hsl := ho.sl fun _ _ => rfl
      have e7 : n7 = (l.map wordB).length := by rw [List.length_map]; exact hno
      subst e7
      have hem : (l.map wordB).map (fun x => x.data.toList) = l.map fun p => (wordB p).data.toList := by rw [List.map_map]; rfl
      have hjs := join_small l
      refine (Tryz.strings_Join g 0 n8 (l.map wordB) (ByteArray.mk #[44]) w10 (fun j x hx => ?_) (Array.getElem?_eq_some_iff.1 hg).1 (by rw [List.length_map]; omega) hlc (by rw [hem]; show (Lib.join _ [44]).length ≤ _; omega)).mono fun e w40 ⟨he, hb⟩ => ⟨_, he, ?_⟩
      · obtain ⟨ad, cs, ha, _, hcs, rfl⟩ := hsl.at_ hx
        cases ha
        have := hcs 0 _ rfl
        rw [addr_add_add _ _ _ rfl, addr_add] at this
        simpa using this
      · rw [hem]
        exact h w40 (hA.below.below.trans (hb.mono hA.size))
end Go.Vc.ZQ

/- Own text of this claim: ZQG1a. -/
set_option maxRecDepth 20000
namespace Go.Vc.ZQ
open Go Go.Vc Go.Vc.V Go.RowKit Go.Proofs Vcqz

/-- A name's kind. -/
def kindOf (s : ByteArray) : Int × Bool := if s = sCpus then (0, true) else if s = sMem then (1, true) else if s = sDisk then (2, true) else if s = sGpus then (3, true) else (0, false)
theorem kind_map (s : ByteArray) : lookV2 (Value.int .i64) (.int .i64 0) (mget s (mset sGpus (3 : Int) (mset sDisk 2 (mset sMem 1 (mset sCpus 0 []))))) = .tuple #[.int .i64 (kindOf s).1, .bool (kindOf s).2] := by
  have e : mset sGpus (3 : Int) (mset sDisk 2 (mset sMem 1 (mset sCpus 0 []))) = [(sCpus, 0), (sMem, 1), (sDisk, 2), (sGpus, 3)] := by decide
  rw [e]
  unfold kindOf
  simp only [mget, lookV2]
  by_cases h0 : s = sCpus
  · simp [h0]
  · by_cases h1 : s = sMem
    · subst h1; simp [h0]
    · by_cases h2 : s = sDisk
      · subst h2; simp [h0, h1]
      · by_cases h3 : s = sGpus
        · subst h3; simp [h0, h1, h2]
        · simp [h0, h1, h2, h3]

end Go.Vc.ZQ

/- Own text of this claim: ZQG1b. -/
set_option maxRecDepth 20000
namespace Go.Vc.ZQ
open Go Go.Vc Go.Vc.V Go.RowKit Go.Proofs Vcqz

end Go.Vc.ZQ

/- Parts of strings. -/
namespace Go.Vc
open Go Go.RowKit
section
variable {P : Program}

theorem bytesOf_extract (s : ByteArray) (a b : Nat) : bytesOf (s.extract a b) = ((bytesOf s).drop a).take (b - a) := by
  obtain ⟨d⟩ := s
  have h : (ByteArray.mk d).extract a b = ByteArray.mk ((d.toList.drop a).take (b - a)).toArray := by
    have := ByteArray.extract_mk d.toList a b
    simpa using this
  rw [h]
  simp only [bytesOf, List.map_take, List.map_drop]

theorem gives_str_to {t : TypeId} {s : ByteArray} {i : Nat} {k : IntKind} (ht : P.underlying t = some .string) (hi : i ≤ s.size) : Gives P (Instr.sliceAt t (.string s) none (some (.int k (i : Int))) none) (.string (s.extract 0 i)) := by
  intro W
  rw [run_sliceAt_string W t _ _ _ _ ht]
  have := run_slice_string_h (P := P) W t s ht k (i : Int) (by omega) (by omega)
  rw [this]
  simp
theorem gives_str_from {t : TypeId} {s : ByteArray} {i : Nat} {k : IntKind} (ht : P.underlying t = some .string) (hi : i ≤ s.size) : Gives P (Instr.sliceAt t (.string s) (some (.int k (i : Int))) none none) (.string (s.extract i s.size)) := by
  intro W
  rw [run_sliceAt_string W t _ _ _ _ ht]
  have := run_slice_string_l (P := P) W t s ht k (i : Int) (by omega) (by omega)
  rw [this]
  simp
end
end Go.Vc

/- Own text of this claim: ZQG3. -/
set_option maxRecDepth 20000
namespace Go.Vc.ZQ
open Go Go.Vc Go.Vc.V Go.RowKit Go.Proofs Vcqz

/-- Digits by the reference: put in front, one by one. -/
theorem decL3 {r : Int} (h : 0 ≤ r ∧ r < 1000) : decL r 3 = [48 + r / 100, 48 + r / 10 % 10, 48 + r % 10] := by
  rw [decL, if_pos (.inr (by omega)), decL, if_pos (.inr (by omega)), decL, if_neg (by omega)]
  have e1 : r / 10 / 10 % 10 = r / 100 := by omega
  rw [e1]
  rfl

/-- What is behind the point. -/
def frac3 (r : Int) : List Int := if r % 10 = 0 then (if r / 10 % 10 = 0 then [48 + r / 100] else [48 + r / 100, 48 + r / 10 % 10]) else [48 + r / 100, 48 + r / 10 % 10, 48 + r % 10]
theorem strip3 (l : List Int) {r : Int} (h : 0 < r ∧ r < 1000) : strip (l ++ decL r 3) = l ++ frac3 r := by
  rw [decL3 (by omega), frac3]
  have e3 : l ++ [48 + r / 100, 48 + r / 10 % 10, 48 + r % 10] = (l ++ [48 + r / 100, 48 + r / 10 % 10]) ++ [48 + r % 10] := by simp
  have e2 : l ++ [48 + r / 100, 48 + r / 10 % 10] = (l ++ [48 + r / 100]) ++ [48 + r / 10 % 10] := by simp
  rw [e3]
  by_cases h1 : r % 10 = 0
  · rw [if_pos h1, h1, show (48 : Int) + 0 = 48 from rfl, strip_snoc, e2]
    by_cases h2 : r / 10 % 10 = 0
    · rw [if_pos h2, h2, show (48 : Int) + 0 = 48 from rfl, strip_snoc, strip_keep _ (by omega)]
    · rw [if_neg h2, strip_keep _ (by omega)]
      simp
  · rw [if_neg h1, strip_keep _ (by omega)]
    simp

end Go.Vc.ZQ

/- Texts, plainly. -/
set_option maxRecDepth 20000
set_option linter.unusedVariables false
namespace Go.Vc.ZQ
open Go Go.Vc Go.Vc.V Go.RowKit Go.Proofs Vcqz

theorem join_snoc (c : UInt8) : ∀ (x : List UInt8) (r : List (List UInt8)) (y : List UInt8), Lib.join (x :: r ++ [y]) [c] = Lib.join (x :: r) [c] ++ [c] ++ y
  | x, r, y => by
    rw [List.cons_append, Lib.join_cons, Lib.join_cons]
    simp [Lib.joinTail]
theorem text_wrong {v : List PartT} (h : ¬ vecB v = true) : vtext v = ByteArray.mk #[] := by
  unfold vtext
  rw [if_neg h]
theorem toList_beq (t s : ByteArray) : (t.toList == s.toList) = decide (t = s) := by
  by_cases h : t = s
  · subst h; simp
  · have : t.toList ≠ s.toList := fun e => h (by
      rw [ByteArray.toList_eq, ByteArray.toList_eq] at e
      have := Array.ext' e
      cases t; cases s
      simpa using this)
    simp [h, this]
theorem text_small (v : List PartT) : (vtext v).size ≤ 200000 := by
  unfold vtext
  split
  · rename_i hv
    split
    · decide
    · have := join_small v
      have hl := vec_len' hv
      have e : ∀ l : List UInt8, (⟨l.toArray⟩ : ByteArray).size = l.length := fun l => by simp [ByteArray.size]
      rw [e]
      omega
  · decide
end Go.Vc.ZQ

/- The reference's Text; VecTexts. -/
set_option maxRecDepth 20000
set_option maxHeartbeats 1000000
namespace Go.Vc.ZQ
open Go Go.Vc Go.Vc.V Go.RowKit Go.Proofs Vcqz

variable {w W W' : World} {M : Nat → Prop} {gs : List Nat}

noncomputable def jn (l : List PartT) : ByteArray := ⟨(Lib.join (l.map fun p => (wordB p).data.toList) [44]).toArray⟩
theorem ba_ext {a b : ByteArray} (h : a.data.toList = b.data.toList) : a = b := by
  obtain ⟨a⟩ := a
  obtain ⟨b⟩ := b
  congr 1
  exact Array.ext' h
theorem jn_one (p : PartT) : jn [p] = wordB p := ba_ext (by
  show (Lib.join [(wordB p).data.toList] [44]).toArray.toList = _
  rw [Lib.join_one])
theorem jn_snoc {l : List PartT} (h : l ≠ []) (p : PartT) : jn (l ++ [p]) = jn l ++ ByteArray.mk #[44] ++ wordB p := by
  cases l with
  | nil => exact absurd rfl h
  | cons x r =>
    refine ba_ext ?_
    rw [ByteArray.data_append, Array.toList_append, ByteArray.data_append, Array.toList_append]
    show (Lib.join ((x :: r ++ [p]).map fun p => (wordB p).data.toList) [44]).toArray.toList = (Lib.join ((x :: r).map fun p => (wordB p).data.toList) [44]).toArray.toList ++ [44] ++ (wordB p).data.toList
    rw [List.map_append, List.map_cons, List.map_cons, List.map_nil, join_snoc]
theorem jn_size (l : List PartT) : (jn l).size ≤ 1201 * l.length := by
  have := join_small l
  have e : (jn l).size = (Lib.join (l.map fun p => (wordB p).data.toList) [44]).length := by simp [jn, ByteArray.size]
  omega
theorem jn_ne {l : List PartT} (h : l ≠ []) : jn l ≠ ByteArray.mk #[] := by
  cases l with
  | nil => exact absurd rfl h
  | cons x r =>
    intro e
    have h1 := congrArg (fun b : ByteArray => b.data.toList.length) e
    have h2 : (jn (x :: r)).data.toList = (wordB x).data.toList ++ Lib.joinTail [44] (r.map fun p => (wordB p).data.toList) := by
      show (Lib.join ((x :: r).map fun p => (wordB p).data.toList) [44]).toArray.toList = _
      rw [List.map_cons, Lib.join_cons]
    have h3 : (wordB x).data.toList = (stext x.1 x.2.1).data.toList ++ 58 :: (strOfNums (txtL x.2.2)).data.toList := by
      unfold wordB
      rw [ByteArray.data_append, Array.toList_append, ByteArray.data_append, Array.toList_append]
      simp
    simp only [h2, h3] at h1
    simp at h1
theorem text_jn {l : List PartT} (hv : vecB l = true) : vtext l = if l = [] then ByteArray.mk #[45] else jn l := by
  unfold vtext
  rw [if_pos hv]
  rfl

end Go.Vc.ZQ

