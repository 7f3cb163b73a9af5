/- Own texts of this claim, laid together: Po3, Po4, PoArg. -/
import Derived.Test.YtjlgcdgdboiejaaMg50751518

/- Events: of reference and of pool; few; what works at all. -/
set_option maxRecDepth 20000
set_option maxHeartbeats 1000000
namespace Go.Vc.V
open Go Go.Vc Go.RowKit Go.Proofs Vce

variable {w W W' : World} {M : Nat → Prop} {gs : List Nat}

theorem SlR.of_mix {α β : Type} {n : Nat} {f : α → List Value} {R : β → List Value → Prop} {l : List α} {l2 : List β} {a : Option Addr} {len c : Nat} (hs : SlE W n f l a len c) (hl : l.length = l2.length) (hm : ∀ (i : Nat) x y, l[i]? = some x → l2[i]? = some y → R y (f x)) : SlR W n R l2 a len c := by
  refine ⟨by rw [← hl]; exact hs.1, hs.2.1, hs.2.2.1, hs.2.2.2.1, fun i y hy => ?_⟩
  obtain ⟨x, hx⟩ : ∃ x, l[i]? = some x := ⟨_, List.getElem?_eq_getElem (by have := (List.getElem?_eq_some_iff.1 hy).1; omega)⟩
  obtain ⟨ad, cs, ha, hlc, hcs, rfl⟩ := hs.at_ hx
  exact ⟨ad, _, ha, hlc, hcs, hm i x y hx hy⟩

/-- Two lists, side by side. -/
def Mixed {α β : Type} (R : α → β → Prop) (l : List α) (l2 : List β) : Prop := l.length = l2.length ∧ ∀ (i : Nat) x y, l[i]? = some x → l2[i]? = some y → R x y
theorem Mixed.nil {α β : Type} {R : α → β → Prop} : Mixed R [] [] := ⟨rfl, fun i x y h => by simp at h⟩
theorem Mixed.snoc {α β : Type} {R : α → β → Prop} {l : List α} {l2 : List β} {x : α} {y : β} (h : Mixed R l l2) (hr : R x y) : Mixed R (l ++ [x]) (l2 ++ [y]) := by
  refine ⟨by simp [h.1], fun i u v hu hv => ?_⟩
  by_cases hi : i < l.length
  · rw [List.getElem?_append_left hi] at hu
    rw [List.getElem?_append_left (by rw [← h.1]; exact hi)] at hv
    exact h.2 i u v hu hv
  · rw [List.getElem?_append_right (by omega)] at hu
    rw [List.getElem?_append_right (by rw [← h.1]; omega), ← h.1] at hv
    have : i - l.length = 0 := by
      have := (List.getElem?_eq_some_iff.1 hu).1
      simp at this
      omega
    rw [this] at hu hv
    simp at hu hv
    rw [← hu, ← hv]
    exact hr
theorem Mixed.imp {α β : Type} {R R' : α → β → Prop} {l : List α} {l2 : List β} (h : Mixed R l l2) (hi : ∀ x y, R x y → R' x y) : Mixed R' l l2 := ⟨h.1, fun i x y hx hy => hi x y (h.2 i x y hx hy)⟩

/-- An event: what, frame, task, agent, parts. -/
abbrev EvT := Int × Int × Int × Int × List PartT
abbrev RawE := Int × Int × Int × Int × Option Addr × Nat × Nat
abbrev rawE (x : RawE) : List Value := [.int .i64 x.1, .int .i64 x.2.1, .int .i64 x.2.2.1, .int .i64 x.2.2.2.1, .slice x.2.2.2.2.1 x.2.2.2.2.2.1 x.2.2.2.2.2.2]
theorem raw_one (x : RawE) : ∀ u ∈ rawE x, u.oneCell' = true := fun u hu => by
  simp at hu
  rcases hu with rfl | rfl | rfl | rfl | rfl <;> rfl
def evR (W : World) (x : EvT) (cs : List Value) : Prop := ∃ a n c, cs = [.int .i64 x.1, .int .i64 x.2.1, .int .i64 x.2.2.1, .int .i64 x.2.2.2.1, .slice a n c] ∧ SlE W 3 partE x.2.2.2.2 a n c
abbrev EvsR (W : World) (evs : List EvT) (a : Option Addr) (n c : Nat) : Prop := SlR W 5 (evR W) evs a n c
theorem EvsR_call {evs : List EvT} {a : Option Addr} {n c : Nat} (h : EvsR W evs a n c) (hb : Bel W W') : EvsR W' evs a n c :=
  h.mono (cell_below hb.below) fun _ _ ⟨a', n', c', e, hs⟩ => ⟨a', n', c', e, hs.call hb⟩
theorem ev_at {evs : List EvT} {a : Option Addr} {n c : Nat} {i : Nat} {x : EvT} (h : EvsR W evs a n c) (hx : evs[i]? = some x) :
    ∃ ad a' n' c', Gives Try.prog (Instr.indexAt 24 (.slice a n c) (.int .i64 (i : Int))) (.pointer (some ad)) ∧ Elt W ad [.int .i64 x.1, .int .i64 x.2.1, .int .i64 x.2.2.1, .int .i64 x.2.2.2.1, .slice a' n' c'] ∧ SlE W 3 partE x.2.2.2.2 a' n' c' := by
  obtain ⟨b, cs, rfl, hl, hcs, a', n', c', rfl, hs⟩ := h.at_ hx
  have hi := (List.getElem?_eq_some_iff.1 hx).1
  have hn := h.1
  exact ⟨b.add (i * 5), a', n', c', gives_index (e := 28) (n := 5) (by kernel_rfl) (by kernel_rfl) (by omega), hcs, hs⟩
def mixR (Q : Option Addr × Nat × Nat → List PartT → Prop) (r : RawE) (x : EvT) : Prop := r.1 = x.1 ∧ r.2.1 = x.2.1 ∧ r.2.2.1 = x.2.2.1 ∧ r.2.2.2.1 = x.2.2.2.1 ∧ Q r.2.2.2.2 x.2.2.2.2
theorem EvsR_of {raws : List RawE} {evs : List EvT} {a : Option Addr} {n c : Nat} (hs : SlE W 5 rawE raws a n c) (hm : Mixed (mixR fun s l => SlE W 3 partE l s.1 s.2.1 s.2.2) raws evs) : EvsR W evs a n c :=
  SlR.of_mix hs hm.1 fun i x y hx hy => by
    obtain ⟨e1, e2, e3, e4, h⟩ := hm.2 i x y hx hy
    exact ⟨_, _, _, by rw [← e1, ← e2, ← e3, ← e4], h⟩

/-- The event of an operation. -/
def evO (frame agent : Int) (o : OpT) : Option EvT :=
  if o.1 = 1 then some (13, frame, o.2.1, agent, o.2.2) else if o.1 = 2 then some (18, frame, 0, agent, o.2.2) else if o.1 = 3 then some (19, frame, 0, agent, o.2.2) else none
def evsL (frame agent : Int) (ops : List OpT) : List EvT := ops.filterMap (evO frame agent)
theorem evs_take {frame agent : Int} {ops : List OpT} {i : Nat} {o : OpT} (ho : ops[i]? = some o) : evsL frame agent (ops.take (i + 1)) = evsL frame agent (ops.take i) ++ (evO frame agent o).toList := by
  unfold evsL
  rw [List.take_add_one, ho, List.filterMap_append]
  congr 1
theorem evs_len {frame agent : Int} {ops : List OpT} : (evsL frame agent ops).length ≤ ops.length := List.length_filterMap_le ..

theorem c7 {ops : List OpT} {a : Option Addr} {n c : Nat} (frame agent : Int) (W : World) (hs : OpsR W ops a n c) (hl : ops.length ≤ 1000000) : RetQ Try.prog 7 #[.int .i64 frame, .int .i64 agent, .slice a n c] W fun v W' => ∃ a n c, v = .slice a n c ∧ EvsR W' (evsL frame agent ops) a n c := by
  intro R h
  refine f7_calls frame agent a n c W R ?_
  unfold f7_vc
  have hn := hs.1
  refine ⟨fun v W' => At W [] W' ∧ ∃ (i : Nat) (raws : List RawE), v.2.1 = i ∧ i ≤ ops.length ∧ OwnL W [] W' 28 5 rawE (.slice v.1.1 v.1.2.1 v.1.2.2) raws ∧ Mixed (mixR fun s l => SlE W 3 partE l s.1 s.2.1 s.2.2) raws (evsL frame agent (ops.take i)), fun v _ => (n - v.2.1).toNat, ⟨At.refl W, 0, [], rfl, Nat.zero_le _, OwnL.nil, Mixed.nil⟩, ?_⟩
  rintro a3 n4 n5 x6 w7 ⟨hA, i, raws, hi, hil, ho, hm⟩
  simp only at hi ho
  subst hi
  refine brD (fun hlt => ?_) (fun hge => ?_)
  · obtain ⟨o, hoi⟩ : ∃ x, ops[i]? = some x := ⟨_, List.getElem?_eq_getElem (by omega)⟩
    obtain ⟨ad, a', n', c', g1, el, hvv⟩ := op_at hs hoi
    have hlen := evs_len (frame := frame) (agent := agent) (ops := ops.take i)
    have htl : (ops.take i).length ≤ i := by simp; omega
    have hml := hm.1
    have htk := evs_take (frame := frame) (agent := agent) hoi
    refine ⟨ad, g1, _, _, _, _, _, (el.below hA.below).agg 3 (by kernel_rfl) (by kernel_rfl) (by simp) (by simp), ?_⟩
    intro n14 hn14
    rw [succ_i i (by omega)]
    have push : ∀ {x : EvT} {r : RawE}, evO frame agent o = some x → mixR (fun s l => SlE W 3 partE l s.1 s.2.1 s.2.2) r x → Mixed (mixR fun s l => SlE W 3 partE l s.1 s.2.1 s.2.2) (raws ++ [r]) (evsL frame agent (ops.take (i + 1))) := fun {x r} he hr => by
      rw [htk, he]
      exact hm.snoc hr
    unfold evO at push
    refine brE (fun h1 => ?_) (fun h1 => brE (fun h2 => ?_) (fun h2 => brE (fun h3 => ?_) (fun h3 => ?_)))
    · intro w15 hev hun
      have hbel := hev.bel (by simpa using hn14)
      rw [if_pos h1] at push
      refine opw_push (f := rawE) (e' := 28) (bytes := 56) (gs := [n14]) ⟨(hA.call hbel).chg, hun⟩ ((ho.more (gs' := [n14]) (by intro g h1 _; simp at h1; omega)).call hbel) (13, frame, o.2.1, agent, a', n', c') (by kernel_rfl) (by kernel_rfl) rfl (fun _ _ => rfl) (raw_one _) (by omega) (by omega) fun a2 c2 w2 hA ho _ _ => ?_
      exact ⟨⟨hA.off, i + 1, _, rfl, by omega, ho.more (by simp), push rfl ⟨rfl, rfl, rfl, rfl, hvv⟩⟩, by simp only; omega⟩
    · intro w15 hev hun
      have hbel := hev.bel (by simpa using hn14)
      rw [if_neg h1, if_pos h2] at push
      refine opw_push (f := rawE) (e' := 28) (bytes := 56) (gs := [n14]) ⟨(hA.call hbel).chg, hun⟩ ((ho.more (gs' := [n14]) (by intro g h1 _; simp at h1; omega)).call hbel) (18, frame, 0, agent, a', n', c') (by kernel_rfl) (by kernel_rfl) rfl (fun _ _ => rfl) (raw_one _) (by omega) (by omega) fun a2 c2 w2 hA ho _ _ => ?_
      exact ⟨⟨hA.off, i + 1, _, rfl, by omega, ho.more (by simp), push rfl ⟨rfl, rfl, rfl, rfl, hvv⟩⟩, by simp only; omega⟩
    · intro w15 hev hun
      have hbel := hev.bel (by simpa using hn14)
      rw [if_neg h1, if_neg h2, if_pos h3] at push
      refine opw_push (f := rawE) (e' := 28) (bytes := 56) (gs := [n14]) ⟨(hA.call hbel).chg, hun⟩ ((ho.more (gs' := [n14]) (by intro g h1 _; simp at h1; omega)).call hbel) (19, frame, 0, agent, a', n', c') (by kernel_rfl) (by kernel_rfl) rfl (fun _ _ => rfl) (raw_one _) (by omega) (by omega) fun a2 c2 w2 hA ho _ _ => ?_
      exact ⟨⟨hA.off, i + 1, _, rfl, by omega, ho.more (by simp), push rfl ⟨rfl, rfl, rfl, rfl, hvv⟩⟩, by simp only; omega⟩
    · intro w15 hev hun
      have hbel := hev.bel (by simpa using hn14)
      have hno : evO frame agent o = none := by unfold evO; rw [if_neg h1, if_neg h2, if_neg h3]
      rw [hno] at htk
      exact ⟨⟨hA.call hbel, i + 1, raws, rfl, by omega, ho.call hbel, by rw [htk]; simpa using hm⟩, by simp only; omega⟩
  · rw [show i = ops.length by omega, List.take_length] at hm
    exact leafq h hA ⟨_, _, _, rfl, EvsR_of (ho.sl fun _ _ => rfl) (hm.imp fun x y ⟨e1, e2, e3, e4, hs⟩ => ⟨e1, e2, e3, e4, hs.call hA.below⟩)⟩

theorem c8 {evs : List EvT} {aa ba : Option Addr} {an ac bn bc : Nat} (W : World) (h1 : EvsR W evs aa an ac) (h2 : EvsR W evs ba bn bc) : Ret Try.prog 8 #[.slice aa an ac, .slice ba bn bc] W (.bool true) := by
  intro R h
  refine f8_calls aa an ac ba bn bc W R ?_
  unfold f8_vc
  have hn := h1.1
  have hn2 := h2.1
  have hmx := h1.2.1
  have hmx2 := h1.2.2.1
  simp only [maxLen] at hmx2
  refine brN (fun hne => absurd (by rw [hn, hn2]) hne) (fun _ => ?_)
  refine ⟨fun v W' => At W [] W' ∧ ∃ i : Nat, v.1 = i ∧ i ≤ evs.length, fun v _ => (an - v.1).toNat, ⟨At.refl W, 0, rfl, Nat.zero_le _⟩, ?_⟩
  rintro x3 w4 ⟨hA, i, hi, hil⟩
  simp only at hi
  subst hi
  refine brD (fun hlt => ?_) (fun hge => leaf h hA rfl)
  obtain ⟨x, hx⟩ : ∃ x, evs[i]? = some x := ⟨_, List.getElem?_eq_getElem (by omega)⟩
  obtain ⟨ad, a', n', c', g1, el, hv1⟩ := ev_at (EvsR_call h1 hA.below) hx
  obtain ⟨bd, b', m', d', g2, el2, hv2⟩ := ev_at (EvsR_call h2 hA.below) hx
  refine ⟨ad, g1, _, el.one (by kernel_rfl) (by simp), bd, g2, _, el2.one (by kernel_rfl) (by simp), brN (fun e => absurd rfl e) (fun _ => ?_)⟩
  refine ⟨ad, g1, _, (el.sub (o := 1) (by decide)).one (by kernel_rfl) (by simp), bd, g2, _, (el2.sub (o := 1) (by decide)).one (by kernel_rfl) (by simp), brN (fun e => absurd rfl e) (fun _ => ?_)⟩
  refine ⟨ad, g1, _, (el.sub (o := 2) (by decide)).one (by kernel_rfl) (by simp), bd, g2, _, (el2.sub (o := 2) (by decide)).one (by kernel_rfl) (by simp), brN (fun e => absurd rfl e) (fun _ => ?_)⟩
  refine ⟨ad, g1, _, (el.sub (o := 3) (by decide)).one (by kernel_rfl) (by simp), bd, g2, _, (el2.sub (o := 3) (by decide)).one (by kernel_rfl) (by simp), brN (fun e => absurd rfl e) (fun _ => ?_)⟩
  refine ⟨ad, g1, _, _, _, (el.sub (o := 4) (by decide)).one (by kernel_rfl) (by simp), bd, g2, _, _, _, (el2.sub (o := 4) (by decide)).one (by kernel_rfl) (by simp), ?_⟩
  intro w33 hb33
  refine at_callb (hA.call hb33) (c21 w33 (hv1.call hb33) (hv2.call hb33)) fun w35 hA _ hb35 => ⟨_, rfl, ?_⟩
  have el := el.below (hb33.trans hb35)
  have el2 := el2.below (hb33.trans hb35)
  refine ⟨(el2.sub (o := 3) (by decide)).one (by kernel_rfl) (by simp), (el.sub (o := 3) (by decide)).one (by kernel_rfl) (by simp), (el2.sub (o := 2) (by decide)).one (by kernel_rfl) (by simp), (el.sub (o := 2) (by decide)).one (by kernel_rfl) (by simp), (el2.sub (o := 1) (by decide)).one (by kernel_rfl) (by simp), (el.sub (o := 1) (by decide)).one (by kernel_rfl) (by simp), el2.one (by kernel_rfl) (by simp), el.one (by kernel_rfl) (by simp), brNB (fun e => by simp at e) (fun _ => ?_)⟩
  rw [succ_i i (by omega)]
  exact ⟨⟨hA, i + 1, rfl, by omega⟩, by simp only; omega⟩

theorem bel_chg {w w1 w2 : World} {p : Nat} (hb : Bel w w1) (hch : Chg (fun b => b = p) w1 w2) (hp : w.heap.size ≤ p) : Bel w w2 :=
  ⟨⟨hch.os.trans hb.below.os, hch.tape.trans hb.below.tape, hch.output.trans hb.below.output, Nat.le_trans hb.size hch.size, fun b hbl => by rw [hch.block b (Nat.lt_of_lt_of_le hbl hb.size) (by omega), hb.block hbl]⟩, Nat.le_trans hb.drawn hch.drawn⟩

theorem c9 {ops : List OpT} {a : Option Addr} {n c : Nat} (frame agent : Int) (W : World) (hs : OpsR W ops a n c) (hl : ops.length ≤ 1000000) (hlv : ∀ o ∈ ops, o.2.2.length ≤ 1000000) : RetQ Try.prog 9 #[.int .i64 frame, .int .i64 agent, .slice a n c] W fun v W' => ∃ a n c, v = .slice a n c ∧ EvsR W' (evsL frame agent ops) a n c := by
  intro R h
  refine f9_calls frame agent a n c W R ?_
  unfold f9_vc
  have hn := hs.1
  refine ⟨fun v W' => At W [] W' ∧ ∃ (i : Nat) (raws : List RawE), v.2.1 = i ∧ i ≤ ops.length ∧ OwnL W [] W' 28 5 rawE (.slice v.1.1 v.1.2.1 v.1.2.2) raws ∧ Mixed (mixR fun s l => OwnL W [] W' 55 3 partE (.slice s.1 s.2.1 s.2.2) l) raws (evsL frame agent (ops.take i)), fun v _ => (n - v.2.1).toNat, ⟨At.refl W, 0, [], rfl, Nat.zero_le _, OwnL.nil, Mixed.nil⟩, ?_⟩
  rintro a3 n4 n5 x6 w7 ⟨hA, i, raws, hi, hil, ho, hm⟩
  simp only at hi ho
  subst hi
  refine brD (fun hlt => ?_) (fun hge => ?_)
  · obtain ⟨o, hoi⟩ : ∃ x, ops[i]? = some x := ⟨_, List.getElem?_eq_getElem (by omega)⟩
    have hov := hlv o (List.mem_of_getElem? hoi)
    obtain ⟨ad, a', n', c', g1, el, hvv⟩ := op_at hs hoi
    have hlen := evs_len (frame := frame) (agent := agent) (ops := ops.take i)
    have htl : (ops.take i).length ≤ i := by simp; omega
    have hml := hm.1
    have htk := evs_take (frame := frame) (agent := agent) hoi
    refine ⟨ad, g1, _, _, _, _, _, (el.below hA.below).agg 3 (by kernel_rfl) (by kernel_rfl) (by simp) (by simp), ?_⟩
    intro n14 hn14 w15 hev hun
    have hbel := hev.bel (by simpa using hn14)
    rw [succ_i i (by omega)]
    have hA : At W [n14] w15 := ⟨(hA.call hbel).chg, hun⟩
    refine at_calll hA (c22 w15 ((hvv.call hA.below).call (At.refl w15).below) hov) (fun _ _ => rfl) fun a18 c18 w17 hA hk17 hb17 ho18 _ => ⟨_, _, _, rfl, hk17, ?_⟩
    have ho : OwnL W [n14] w17 28 5 rawE (.slice a3 n4 n5) raws := ((ho.more (gs' := [n14]) (by intro g h1 _; simp at h1; omega)).call hbel).call hb17
    have hm : Mixed (mixR fun s l => OwnL W [] w17 55 3 partE (.slice s.1 s.2.1 s.2.2) l) raws (evsL frame agent (ops.take i)) := hm.imp fun x y ⟨e1, e2, e3, e4, hs⟩ => ⟨e1, e2, e3, e4, (hs.call hbel).call hb17⟩
    refine opw_allocS [.int .i64 0, .int .i64 0, .int .i64 0, .int .i64 0, .slice none 0 0] (zv := .agg #[.int .i64 0, .int .i64 0, .int .i64 0, .int .i64 0, .slice none 0 0]) (by kernel_rfl) rfl hA fun p w22 hp hA hk22 hb22 hpb => ⟨_, rfl, hk22, ?_⟩
    have hsz := ‹AtF W noB [n14] w17›.size
    have hpW : W.heap.size ≤ p ∨ noB p := .inl (by omega)
    have hpg : p ∉ [n14] := fun hx => by have := ‹AtF W noB [n14] w17›.under _ hx; omega
    have out : ∀ {what arg : Int} {w25 : World}, evO frame agent o = some (what, frame, arg, agent, o.2.2) → At W [n14] w25 → Bel w17 w25 → ∀ {parts : Array (Nat × Value)}, sliceCells Try.prog 24 1 parts = some (28, rawE (what, frame, arg, agent, a18, o.2.2.length, c18)) → ∀ {K : Option Addr → Nat → Nat → World → Prop}, (∀ a2 n2 c2 w2, (At W [] w2 ∧ ∃ (j : Nat) (raws : List RawE), ((i + 1 : Nat) : Int) = j ∧ j ≤ ops.length ∧ OwnL W [] w2 28 5 rawE (.slice a2 n2 c2) raws ∧ Mixed (mixR fun s l => OwnL W [] w2 55 3 partE (.slice s.1 s.2.1 s.2.2) l) raws (evsL frame agent (ops.take j))) → K a2 n2 c2 w2) →
      OpW Try.prog (valueS (Instr.buildSlice 24 1 parts)) w25 fun v w1 => ∃ a1 n1 c1, v = .slice a1 n1 c1 ∧ Keeps [n14] w25 w1 ∧ OpW Try.prog (builtin .append #[24, 24] 24 #[false, false] #[.slice a3 n4 n5, .slice a1 n1 c1]) w1 fun v w2 => ∃ a2 n2 c2, v = .slice a2 n2 c2 ∧ Keeps [n14] w1 w2 ∧ K a2 n2 c2 w2 := fun {what arg w25} he hA hb {parts} hp {K} hK => by
      have ho := ho.call hb
      refine opw_push (f := rawE) (bytes := 56) hA ho (what, frame, arg, agent, a18, o.2.2.length, c18) (by kernel_rfl) hp rfl (fun _ _ => rfl) (raw_one _) (by omega) (by omega) fun a2 c2 w2 hA ho2 hg _ => hK _ _ _ _ ⟨hA.off, i + 1, _, rfl, by omega, ho2.more (by simp), ?_⟩
      rw [htk, he]
      have hne : ∀ {s : Value} {l : List PartT}, OwnL W [] w17 55 3 partE s l → OwnL W [] w2 55 3 partE s l := fun {s l} hs => (hs.call hb).grown hg (by
        have hs := hs.call hb
        cases hk : s.ownBlock with
        | none => exact .inl rfl
        | some k =>
          refine .inr fun e => ?_
          obtain ⟨c1, h1⟩ := hs.blk hk
          obtain ⟨c2, h2⟩ := ho.blk e.symm
          exact cells_ne h1 h2 (by decide) rfl)
      exact (hm.imp fun x y ⟨e1, e2, e3, e4, hs⟩ => ⟨e1, e2, e3, e4, hne hs⟩).snoc ⟨rfl, rfl, rfl, rfl, hne (ho18.more (by simp))⟩
    refine opw_storeF hA hpb hpW hpg (cells' := [.int .i64 0, .int .i64 frame, .int .i64 0, .int .i64 agent, .slice a18 o.2.2.length c18]) (by kernel_rfl) fun w25 hA hk25 hch hpb => ⟨hk25, ?_⟩
    have hb25 := bel_chg (p := p) hb22 hch (by omega)
    unfold evO at out
    refine brE (fun h1 => ?_) (fun h1 => brE (fun h2 => ?_) (fun h2 => brE (fun h3 => ?_) (fun h3 => ?_)))
    · rw [if_pos h1] at out
      intro w26 hb26 hun26
      have hA : At W [n14] w26 := ⟨(hA.call hb26).chg, hun26⟩
      have hpb : w26.heap[p]? = _ := (hb26.block (Array.getElem?_eq_some_iff.1 hpb).1).trans hpb
      refine opw_storeF hA hpb hpW hpg (cells' := [.int .i64 13, .int .i64 frame, .int .i64 0, .int .i64 agent, .slice a18 o.2.2.length c18]) (by kernel_rfl) fun w28 hA hk28 hch hpb => ⟨hk28, ?_⟩
      have hb28 := bel_chg (p := p) (hb25.trans hb26) hch (by omega)
      refine opw_storeF hA hpb hpW hpg (cells' := [.int .i64 13, .int .i64 frame, .int .i64 o.2.1, .int .i64 agent, .slice a18 o.2.2.length c18]) (by kernel_rfl) fun w30 hA hk30 hch hpb => ⟨hk30, ?_⟩
      have hb30 := bel_chg (p := p) hb28 hch (by omega)
      refine ⟨_, _, _, _, _, _, _, (elt_cells hpb).agg 5 (by kernel_rfl) (by kernel_rfl) (by simp) (by simp), ?_⟩
      exact out rfl hA hb30 (by kernel_rfl) fun a2 n2 c2 w2 hJ => ⟨hJ, by simp only; omega⟩
    · rw [if_neg h1, if_pos h2] at out
      refine opw_storeF hA hpb hpW hpg (cells' := [.int .i64 18, .int .i64 frame, .int .i64 0, .int .i64 agent, .slice a18 o.2.2.length c18]) (by kernel_rfl) fun w28 hA hk28 hch hpb => ⟨hk28, ?_⟩
      have hb28 := bel_chg (p := p) hb25 hch (by omega)
      refine ⟨_, _, _, _, _, _, _, (elt_cells hpb).agg 5 (by kernel_rfl) (by kernel_rfl) (by simp) (by simp), ?_⟩
      exact out rfl hA hb28 (by kernel_rfl) fun a2 n2 c2 w2 hJ => ⟨hJ, by simp only; omega⟩
    · rw [if_neg h1, if_neg h2, if_pos h3] at out
      refine opw_storeF hA hpb hpW hpg (cells' := [.int .i64 19, .int .i64 frame, .int .i64 0, .int .i64 agent, .slice a18 o.2.2.length c18]) (by kernel_rfl) fun w28 hA hk28 hch hpb => ⟨hk28, ?_⟩
      have hb28 := bel_chg (p := p) hb25 hch (by omega)
      refine ⟨_, _, _, _, _, _, _, (elt_cells hpb).agg 5 (by kernel_rfl) (by kernel_rfl) (by simp) (by simp), ?_⟩
      exact out rfl hA hb28 (by kernel_rfl) fun a2 n2 c2 w2 hJ => ⟨hJ, by simp only; omega⟩
    · have hno : evO frame agent o = none := by unfold evO; rw [if_neg h1, if_neg h2, if_neg h3]
      rw [hno] at htk
      refine ⟨⟨hA.off, i + 1, raws, rfl, by omega, (ho.call hb25).more (by simp), ?_⟩, by simp only; omega⟩
      rw [htk]
      simpa using hm.imp fun x y ⟨e1, e2, e3, e4, hs⟩ => ⟨e1, e2, e3, e4, hs.call hb25⟩
  · rw [show i = ops.length by omega, List.take_length] at hm
    exact leafq h hA ⟨_, _, _, rfl, EvsR_of (ho.sl fun _ _ => rfl) (hm.imp fun x y ⟨e1, e2, e3, e4, hs⟩ => ⟨e1, e2, e3, e4, hs.sl fun _ _ => rfl⟩)⟩
end Go.Vc.V

/- Few; what works; PoolTells. -/
set_option maxRecDepth 20000
set_option maxHeartbeats 1000000
namespace Go.Vc.V
open Go Go.Vc Go.RowKit Go.Proofs Vce

variable {w W W' : World} {M : Nat → Prop} {gs : List Nat}

def fewO (ops : List OpT) : Bool := decide (ops.length ≤ 60) && ops.all fun o => decide (o.2.2.length ≤ 150)
theorem all_take {α : Type} {p : α → Bool} {l : List α} {i : Nat} {x : α} (hx : l[i]? = some x) : (l.take (i + 1)).all p = ((l.take i).all p && p x) := by
  rw [List.take_add_one, hx, List.all_append]; simp
theorem c20 {ops : List OpT} {a : Option Addr} {n c : Nat} (W : World) (hs : OpsR W ops a n c) : Ret Try.prog 20 #[.agg #[.int .i64 0, .int .i64 0, .int .i64 0, .int .i64 0, .int .i64 0, .int .i64 0, .int .i64 0, .slice none 0 0, .slice none 0 0, .slice a n c]] W (.bool (fewO ops)) := by
  intro R h
  refine f20_calls _ _ _ _ _ _ _ _ _ _ _ _ _ a n c W R ?_
  unfold f20_vc
  have hn := hs.1
  intro n1 hn1
  refine brD (fun h => absurd h (by decide)) (fun _ => brD (fun h => absurd h (by decide)) (fun _ => brD (fun h60 => ?_) (fun h60 => ?_)))
  · intro w4 hb _
    refine leaf h ((At.refl W).call hb) ?_
    unfold fewO
    rw [decide_eq_false (by omega)]
    rfl
  refine ⟨fun v W' => At W [] W' ∧ ∃ i : Nat, v.1 = i ∧ i ≤ ops.length ∧ (ops.take i).all (fun o => decide (o.2.2.length ≤ 150)) = true, fun v _ => (n - v.1).toNat, ⟨fun w7 hb _ => ⟨(At.refl W).call hb, 0, rfl, Nat.zero_le _, rfl⟩, ?_⟩⟩
  rintro x8 w9 ⟨hA, i, hi, hil, hall⟩
  simp only at hi
  subst hi
  refine brD (fun hlt => ?_) (fun hge => leaf h hA ?_)
  · obtain ⟨o, ho⟩ : ∃ x, ops[i]? = some x := ⟨_, List.getElem?_eq_getElem (by omega)⟩
    obtain ⟨ad, a', n', c', g1, el, hv⟩ := op_at (OpsR_call hs hA.below) ho
    have hnv := hv.1
    refine ⟨ad, g1, _, _, _, (el.sub (o := 2) (by decide)).one (by kernel_rfl) (by simp), brD (fun hb => leaf h hA ?_) (fun hb => ?_)⟩
    · have : ops.all (fun o => decide (o.2.2.length ≤ 150)) = false := by
        cases e : ops.all (fun o => decide (o.2.2.length ≤ 150)) with
        | false => rfl
        | true =>
          have := List.all_eq_true.1 e o (List.mem_of_getElem? ho)
          simp only [decide_eq_true_eq] at this
          omega
      unfold fewO
      rw [this, Bool.and_false]
    · rw [succ_i i (by omega)]
      refine ⟨⟨hA, i + 1, rfl, by omega, ?_⟩, by simp only; omega⟩
      rw [all_take ho, hall, Bool.true_and]
      exact decide_eq_true (by omega)
  · rw [show i = ops.length by omega, List.take_length] at hall
    unfold fewO
    rw [hall, decide_eq_true (by omega)]
    rfl
def fewB (v : List PartT) (ops : List OpT) : Bool := decide (v.length ≤ 150) && fewO ops
theorem c6 {v : List PartT} {ops : List OpT} {a b : Option Addr} {n c m d : Nat} (W : World) (hv : SlE W 3 partE v b m d) (hs : OpsR W ops a n c) : Ret Try.prog 6 #[.slice b m d, .slice a n c] W (.bool (fewB v ops)) := by
  intro R h
  refine f6_calls _ _ _ _ _ _ W R ?_
  unfold f6_vc
  have hn := hv.1
  unfold fewB at h
  refine brD (fun hle => ?_) (fun hgt => leaf h (At.refl W) ?_)
  · refine at_callb (At.refl W) (c20 W hs) fun w2 hA _ _ => ⟨_, rfl, leaf h hA ?_⟩
    rw [decide_eq_true (by omega)]
    rfl
  · rw [decide_eq_false (by omega)]
    rfl
theorem few_ok {v : List PartT} {ops : List OpT} (h : fewB v ops = true) : v.length ≤ 150 ∧ ops.length ≤ 60 ∧ ∀ o ∈ ops, o.2.2.length ≤ 150 := by
  unfold fewB fewO at h
  simp only [Bool.and_eq_true, decide_eq_true_eq, List.all_eq_true] at h
  exact ⟨h.1, h.2.1, h.2.2⟩

/-- A raw operation. -/
abbrev RawO := Int × Int × Option Addr × Nat × Nat
abbrev rawO (x : RawO) : List Value := [.int .i64 x.1, .int .i64 x.2.1, .slice x.2.2.1 x.2.2.2.1 x.2.2.2.2]
def mixO (W : World) (r : RawO) (x : OpT) : Prop := r.1 = x.1 ∧ r.2.1 = x.2.1 ∧ SlE W 3 partE x.2.2 r.2.2.1 r.2.2.2.1 r.2.2.2.2
theorem OpsR_of {raws : List RawO} {ops : List OpT} {a : Option Addr} {n c : Nat} (hs : SlE W 3 rawO raws a n c) (hm : Mixed (mixO W) raws ops) : OpsR W ops a n c :=
  SlR.of_mix hs hm.1 fun i x y hx hy => by
    obtain ⟨e1, e2, h⟩ := hm.2 i x y hx hy
    exact ⟨_, _, _, by rw [← e1, ← e2], h⟩

def ops1 : List OpT := [(2, 0, [(0, 0, 1000)]), (1, 7, [(0, 0, 2000), (0, 2, 1000)])]
theorem do1 : doL 2 2 [(0, 0, 4000)] [(0, 0, 1000)] = ([(0, 0, 3000), (0, 2, 1000)], 0) := by
  have hs : vsub [(0, 0, 4000)] [(0, 0, 1000)] = some [(0, 0, 3000)] := by decide +kernel
  have hm : vmove [(0, 0, 1000)] 0 2 = some [(0, 2, 1000)] := by decide +kernel
  have ha : vadd [(0, 0, 3000)] [(0, 2, 1000)] = some [(0, 0, 3000), (0, 2, 1000)] := by
    rw [vadd_lt (by decide), vadd_nil]
    rfl
  unfold doL
  rw [show fromR 2 2 = 0 from rfl, show toR 2 2 = 2 from rfl, hm, hs]
  simp only [vout, Option.getD_some, ha]
  decide +kernel
theorem do2 : doL 1 2 [(0, 0, 3000), (0, 2, 1000)] [(0, 0, 2000), (0, 2, 1000)] = ([(0, 0, 1000)], 0) := by
  have hs : vsub [(0, 0, 3000), (0, 2, 1000)] [(0, 0, 2000), (0, 2, 1000)] = some [(0, 0, 1000)] := by decide +kernel
  unfold doL
  rw [hs, show toR 1 2 = -1 from rfl]
  simp only [vout, Option.getD_some]
  rw [if_pos (by decide +kernel), if_pos (by decide)]
theorem chk1 : checkL [(0, 0, 4000)] 2 ops1 = 0 := by decide +kernel
theorem run1 : runL [(0, 0, 4000)] 2 ops1 0 = ([(0, 0, 1000)], 0) := by
  unfold runL
  rw [if_neg (by rw [chk1]; decide)]
  unfold ops1
  simp [stepsL, do1, do2]
theorem run2 : runL [(0, 0, 4000)] 2 ops1 1 = ([(0, 0, 3000), (0, 2, 1000)], 0) := by
  unfold runL
  rw [if_neg (by rw [chk1]; decide)]
  unfold ops1
  simp [stepsL, do1]
theorem for1 : foreign 2 ops1 = false := by decide
theorem for2 : foreign 3 ops1 = true := by decide
theorem tsk1 : tasksL ops1 = 1 := by decide

theorem c11 (W : World) : Ret Try.prog 11 #[] W (.bool true) := by
  intro R h
  refine f11_calls W R ?_
  unfold f11_vc
  refine opw_litL (e' := 55) (f := partE) (size := 3) (l := [(0, 0, 4000)]) (At.refl W) rfl (fun _ _ => rfl) (by decide) (by kernel_rfl) fun g1 w2 _ hA _ hb2 ho1 => ⟨_, _, _, rfl, ?_⟩
  have s1 := ho1.sl fun _ _ => rfl
  refine opw_litL (e' := 55) (f := partE) (size := 3) (l := [(0, 0, 1000)]) hA rfl (fun _ _ => rfl) (by decide) (by kernel_rfl) fun g2 w7 _ hA _ hb7 ho2 => ⟨_, _, _, rfl, ?_⟩
  have s2 := ho2.sl fun _ _ => rfl
  refine opw_litL (e' := 55) (f := partE) (size := 3) (l := [(0, 0, 2000), (0, 2, 1000)]) hA rfl (fun _ _ => rfl) (by decide) (by kernel_rfl) fun g3 w12 _ hA _ hb12 ho3 => ⟨_, _, _, rfl, ?_⟩
  have s3 := ho3.sl fun _ _ => rfl
  refine opw_litL (e' := 40) (f := rawO) (size := 3) (l := [((2, 0, some ⟨g2, 0, none⟩, 1, 1) : RawO), (1, 7, some ⟨g3, 0, none⟩, 2, 2)]) hA rfl (fun _ _ => rfl) (by decide) (by kernel_rfl) fun g4 w17 _ hA _ hb17 ho4 => ⟨_, _, _, rfl, ?_⟩
  have s4 := ho4.sl fun _ _ => rfl
  have sO : OpsR w17 ops1 _ _ _ := OpsR_of s4 ⟨rfl, fun i x y hx hy => by
    match i, hx, hy with
    | 0, hx, hy =>
      cases hx
      cases hy
      exact ⟨rfl, rfl, (s2.call hb12).call hb17⟩
    | 1, hx, hy =>
      cases hx
      cases hy
      exact ⟨rfl, rfl, s3.call hb17⟩
    | i + 2, hx, _ => simp at hx⟩
  have s1 := ((s1.call hb7).call hb12).call hb17
  refine at_callq hA (c12 2 w17 s1 sO (by decide)) fun u w22 hA _ hb22 ⟨s, e, hrow⟩ => ?_
  subst e
  rw [run1] at hrow ⊢
  have ho5 : OwnL W [] w22 55 3 partE s [(0, 0, 1000)] := OwnF.ret (‹AtF W noB [] w17›) hrow rfl rfl
  obtain ⟨a5, d5, rfl, s5⟩ := ho5.slice fun _ _ => rfl
  refine ⟨_, _, _, _, rfl, ?_⟩
  refine at_callq hA (c13 2 w22 (s1.call hb22) (OpsR_call sO hb22) (by decide)) fun u w28 hA _ hb28 ⟨s, e, hrow⟩ => ?_
  subst e
  rw [run2] at hrow ⊢
  have ho6 : OwnL W [] w28 55 3 partE s [(0, 0, 3000), (0, 2, 1000)] := OwnF.ret (‹AtF W noB [] w22›) hrow rfl rfl
  obtain ⟨a6, d6, rfl, s6⟩ := ho6.slice fun _ _ => rfl
  refine ⟨_, _, _, _, rfl, brE (fun _ => ?_) (fun e => absurd rfl e)⟩
  refine opw_litL (e' := 55) (f := partE) (size := 3) (l := [(0, 0, 1000)]) hA rfl (fun _ _ => rfl) (by decide) (by kernel_rfl) fun g7 w34 _ hA _ hb34 ho7 => ⟨_, _, _, rfl, ?_⟩
  have s7 := ho7.sl fun _ _ => rfl
  refine at_callb hA (c21 w34 ((s5.call hb28).call hb34) s7) fun w39 hA _ hb39 => ⟨_, rfl, brB (fun _ => brE (fun _ => ?_) (fun e => absurd rfl e)) (fun e => by simp at e)⟩
  refine opw_litL (e' := 55) (f := partE) (size := 3) (l := [(0, 0, 3000), (0, 2, 1000)]) hA rfl (fun _ _ => rfl) (by decide) (by kernel_rfl) fun g8 w42 _ hA _ hb42 ho8 => ⟨_, _, _, rfl, ?_⟩
  have s8 := ho8.sl fun _ _ => rfl
  refine at_callb hA (c21 w42 (((s6.call hb34).call hb39).call hb42) s8) fun w47 hA _ hb47 => ⟨_, rfl, brB (fun _ => ?_) (fun e => by simp at e)⟩
  have sO := OpsR_call (OpsR_call (OpsR_call (OpsR_call (OpsR_call (OpsR_call sO hb22) hb28) hb34) hb39) hb42) hb47
  refine at_callb hA (c10 w47 sO) fun w50 hA _ hb50 => ⟨_, rfl, ?_⟩
  rw [tsk1]
  refine brE (fun _ => ?_) (fun e => absurd rfl e)
  refine at_callb hA (c23 2 w50 (OpsR_call sO hb50)) fun w53 hA _ hb53 => ⟨_, rfl, ?_⟩
  rw [for1]
  refine brNB (fun _ => ?_) (fun e => by cases e)
  refine at_callb hA (c23 3 w53 (OpsR_call (OpsR_call sO hb50) hb53)) fun w56 hA _ _ => ⟨_, rfl, leaf h hA ?_⟩
  rw [for2]

/-! ### PoolTells -/
theorem evs_tasks (frame agent : Int) : ∀ ops : List OpT, (((evsL frame agent ops).filter fun x => decide (x.1 = 13)).length : Int) = tasksL ops
  | [] => rfl
  | o :: ops => by
    have ih := evs_tasks frame agent ops
    have e1 : evsL frame agent (o :: ops) = (evO frame agent o).toList ++ evsL frame agent ops := by
      unfold evsL
      cases h : evO frame agent o <;> simp [h]
    have e2 : tasksL (o :: ops) = (if o.1 = 1 then 1 else 0) + tasksL ops := by
      unfold tasksL
      by_cases h : o.1 = 1 <;> simp [h]
      omega
    rw [e1, List.filter_append, List.length_append, e2, Int.natCast_add, ih, Int.natCast_add]
    congr 1
    unfold evO
    by_cases h1 : o.1 = 1
    · rw [if_pos h1, if_pos h1]
      rfl
    · rw [if_neg h1, if_neg h1]
      by_cases h2 : o.1 = 2
      · rw [if_pos h2]
        rfl
      · rw [if_neg h2]
        by_cases h3 : o.1 = 3
        · rw [if_pos h3]
          rfl
        · rw [if_neg h3]
          rfl
theorem law3 {ops : List OpT} {a : Option Addr} {n c : Nat} (frame agent : Int) (W : World) (hs : OpsR W ops a n c) : Ret Try.prog 3 #[.int .i64 frame, .int .i64 agent, .slice a n c] W (.bool true) := by
  intro R h
  refine f3_calls frame agent a n c W R ?_
  unfold f3_vc
  have hnil : SlE W 3 partE [] none 0 0 := ⟨rfl, Nat.le_refl _, Nat.zero_le _, fun _ => rfl, fun i x hx => by simp at hx⟩
  refine at_callb (At.refl W) (c6 W hnil hs) fun w2 hA _ hb2 => ⟨_, rfl, brNB (fun _ => leaf h hA rfl) (fun hf => ?_)⟩
  obtain ⟨_, hl, hlv⟩ := few_ok hf
  refine at_callq hA (c7 frame agent w2 (OpsR_call hs hb2) (by omega)) fun u w5 hA _ hb5 ⟨a6, n7, c8', e, hev⟩ => ?_
  subst e
  have hn := hev.1
  have hel := evs_len (frame := frame) (agent := agent) (ops := ops)
  refine ⟨_, _, _, rfl, fun v W' => AtF W noB [] W' ∧ Bel w5 W' ∧ ∃ i : Nat, v.2.1 = i ∧ i ≤ (evsL frame agent ops).length ∧ v.1 = (((evsL frame agent ops).take i).filter fun x => decide (x.1 = 13)).length, fun v _ => (n7 - v.2.1).toNat, ⟨hA, (At.refl w5).below, 0, rfl, Nat.zero_le _, rfl⟩, ?_⟩
  rintro x11 x12 w13 ⟨hA, hb13, i, hi, hil, hc⟩
  simp only at hi hc
  subst hi hc
  refine brD (fun hlt => ?_) (fun hge => ?_)
  · obtain ⟨x, hx⟩ : ∃ x, (evsL frame agent ops)[i]? = some x := ⟨_, List.getElem?_eq_getElem (by omega)⟩
    obtain ⟨ad, a', n', c', g1, el, _⟩ := ev_at (EvsR_call hev hb13) hx
    have hfl : (((evsL frame agent ops).take i).filter fun x => decide (x.1 = 13)).length ≤ i := Nat.le_trans (List.length_filter_le ..) (by simp; omega)
    have htk : (((evsL frame agent ops).take (i + 1)).filter fun x => decide (x.1 = 13)).length = (((evsL frame agent ops).take i).filter fun x => decide (x.1 = 13)).length + if x.1 = 13 then 1 else 0 := by
      rw [List.take_add_one, hx, List.filter_append, List.length_append]
      by_cases h1 : x.1 = 13 <;> simp [h1]
    refine ⟨ad, g1, _, el.one (by kernel_rfl) (by simp), ?_⟩
    rw [succ_i i (by omega)]
    refine brE (fun h1 => ?_) (fun h1 => ?_)
    · rw [if_pos h1] at htk
      rw [succ_i _ (by omega)]
      exact ⟨⟨hA, hb13, i + 1, rfl, by omega, by simp only; rw [htk]⟩, by simp only; omega⟩
    · rw [if_neg h1] at htk
      exact ⟨⟨hA, hb13, i + 1, rfl, by omega, by simp only; rw [htk]; rfl⟩, by simp only; omega⟩
  · rw [show i = (evsL frame agent ops).length by omega, List.take_length, evs_tasks]
    have hs13 := OpsR_call (OpsR_call (OpsR_call hs hb2) hb5) hb13
    refine at_callq hA (c9 frame agent w13 hs13 (by omega) fun o ho => by have := hlv o ho; omega) fun u w17 hA _ hb17 ⟨a18, n19, c20, e, hev2⟩ => ?_
    subst e
    refine ⟨_, _, _, rfl, ?_⟩
    refine at_callb hA (c8 w17 hev2 (EvsR_call (EvsR_call hev hb13) hb17)) fun w22 hA _ hb22 => ⟨_, rfl, brB (fun _ => ?_) (fun e => by cases e)⟩
    refine at_callb hA (c10 w22 (OpsR_call (OpsR_call hs13 hb17) hb22)) fun w25 hA _ _ => ⟨_, rfl, brE (fun _ => ?_) (fun e => absurd rfl e)⟩
    exact at_callb hA (c11 w25) fun w28 hA _ _ => ⟨_, rfl, leaf h hA rfl⟩
end Go.Vc.V

/- The arguments of pool's laws, read. -/
set_option maxRecDepth 20000
namespace Go.Vc.V
open Go Go.Vc Go.RowKit
abbrev ptG : GT := .st (.pair (.int .i64) (.pair (.int .i64) (.pair (.int .i64) .unit)))
abbrev PtA := Int × Int × Int × Unit
abbrev opG : GT := .st (.pair (.int .i64) (.pair (.int .i64) (.pair (.sl ptG) .unit)))
abbrev OpA := Int × Int × List PtA × Unit
def ptOf (x : PtA) : PartT := (x.1, x.2.1, x.2.2.1)
def opOf (x : OpA) : OpT := (x.1, x.2.1, x.2.2.1.map ptOf)
theorem row_M {α β : Type} {w : World} {n : Nat} {R : α → List Value → Prop} {R' : β → List Value → Prop} {k : α → β} {l : List α} {a : Option Addr} {len c : Nat} (hs : SlR w n R l a len c) (hR : ∀ x cs, R x cs → R' (k x) cs) : SlR w n R' (l.map k) a len c := by
  refine ⟨by rw [List.length_map]; exact hs.1, hs.2.1, hs.2.2.1, hs.2.2.2.1, fun i y hy => ?_⟩
  rw [List.getElem?_map] at hy
  cases hx : l[i]? with
  | none => rw [hx] at hy; cases hy
  | some x =>
    rw [hx] at hy
    simp only [Option.map_some, Option.some.injEq] at hy
    subst hy
    obtain ⟨ad, cs, ha, hl, hcs, hr⟩ := hs.at_ hx
    exact ⟨ad, cs, ha, hl, hcs, hR _ _ hr⟩
theorem pt_R {w : World} {x : PtA} {cs : List Value} (h : ptG.R w x cs) : cs = partE (ptOf x) := by
  obtain ⟨c1, c2, rfl, ⟨rfl, _, _⟩, c3, c4, rfl, ⟨rfl, _, _⟩, c5, c6, rfl, ⟨rfl, _, _⟩, rfl⟩ := h
  rfl
theorem op_R {w : World} {x : OpA} {cs : List Value} (h : opG.R w x cs) : opR w (opOf x) cs := by
  obtain ⟨c1, c2, rfl, ⟨rfl, _, _⟩, c3, c4, rfl, ⟨rfl, _, _⟩, c5, c6, rfl, ⟨a, n, c, rfl, hs⟩, rfl⟩ := h
  exact ⟨a, n, c, rfl, row_M hs fun _ _ => pt_R⟩
theorem pts_V {w : World} {l : List PtA} {v : Value} (h : GT.V w (.sl ptG) l v) : ∃ a n c, v = .slice a n c ∧ SlE w 3 partE (l.map ptOf) a n c := by
  obtain ⟨a, n, c, hv, hs⟩ := h
  simp at hv
  exact ⟨a, n, c, hv, row_M hs fun _ _ => pt_R⟩
theorem ops_V {w : World} {l : List OpA} {v : Value} (h : GT.V w (.sl opG) l v) : ∃ a n c, v = .slice a n c ∧ OpsR w (l.map opOf) a n c := by
  obtain ⟨a, n, c, hv, hs⟩ := h
  simp at hv
  exact ⟨a, n, c, hv, row_M hs fun _ _ => op_R⟩
end Go.Vc.V

