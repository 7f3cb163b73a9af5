/- Own texts of this claim, laid together: Po3, Po4, PoArg, Fe3, Po5, Po6, Po7. -/
import Derived.Test.YtjlgcdgdboiejaaMg50751518
import Derived.Test.YtjlgcdgdboiejaaProg

/- Events: of reference and of pool; few; what works at all. -/
set_option maxRecDepth 20000
set_option maxHeartbeats 1000000
namespace Go.Vc.V
open Go Go.Vc Go.RowKit Go.Proofs Vce

variable {w W W' : World} {M : Nat → Prop} {gs : List Nat}

theorem SlR.of_mix {α β : Type} {n : Nat} {f : α → List Value} {R : β → List Value → Prop} {l : List α} {l2 : List β} {a : Option Addr} {len c : Nat} (hs : SlE W n f l a len c) (hl : l.length = l2.length) (hm : ∀ (i : Nat) x y, l[i]? = some x → l2[i]? = some y → R y (f x)) : SlR W n R l2 a len c := by
  refine ⟨by rw [← hl]; exact hs.1, hs.2.1, hs.2.2.1, hs.2.2.2.1, fun i y hy => ?_⟩
  obtain ⟨x, hx⟩ : ∃ x, l[i]? = some x := ⟨_, List.getElem?_eq_getElem (by have := (List.getElem?_eq_some_iff.1 hy).1; omega)⟩
  obtain ⟨ad, cs, ha, hlc, hcs, rfl⟩ := hs.at_ hx
  exact ⟨ad, _, ha, hlc, hcs, hm i x y hx hy⟩

/-- Two lists, side by side. -/
def Mixed {α β : Type} (R : α → β → Prop) (l : List α) (l2 : List β) : Prop := l.length = l2.length ∧ ∀ (i : Nat) x y, l[i]? = some x → l2[i]? = some y → R x y
theorem Mixed.nil {α β : Type} {R : α → β → Prop} : Mixed R [] [] := ⟨rfl, fun i x y h => by simp at h⟩
theorem Mixed.snoc {α β : Type} {R : α → β → Prop} {l : List α} {l2 : List β} {x : α} {y : β} (h : Mixed R l l2) (hr : R x y) : Mixed R (l ++ [x]) (l2 ++ [y]) := by
  refine ⟨by simp [h.1], fun i u v hu hv => ?_⟩
  by_cases hi : i < l.length
  · rw [List.getElem?_append_left hi] at hu
    rw [List.getElem?_append_left (by rw [← h.1]; exact hi)] at hv
    exact h.2 i u v hu hv
  · rw [List.getElem?_append_right (by omega)] at hu
    rw [List.getElem?_append_right (by rw [← h.1]; omega), ← h.1] at hv
    have : i - l.length = 0 := by
      have := (List.getElem?_eq_some_iff.1 hu).1
      simp at this
      omega
    rw [this] at hu hv
    simp at hu hv
    rw [← hu, ← hv]
    exact hr
theorem Mixed.imp {α β : Type} {R R' : α → β → Prop} {l : List α} {l2 : List β} (h : Mixed R l l2) (hi : ∀ x y, R x y → R' x y) : Mixed R' l l2 := ⟨h.1, fun i x y hx hy => hi x y (h.2 i x y hx hy)⟩

/-- An event: what, frame, task, agent, parts. -/
abbrev EvT := Int × Int × Int × Int × List PartT
abbrev RawE := Int × Int × Int × Int × Option Addr × Nat × Nat
abbrev rawE (x : RawE) : List Value := [.int .i64 x.1, .int .i64 x.2.1, .int .i64 x.2.2.1, .int .i64 x.2.2.2.1, .slice x.2.2.2.2.1 x.2.2.2.2.2.1 x.2.2.2.2.2.2]
theorem raw_one (x : RawE) : ∀ u ∈ rawE x, u.oneCell' = true := fun u hu => by
  simp at hu
  rcases hu with rfl | rfl | rfl | rfl | rfl <;> rfl
def evR (W : World) (x : EvT) (cs : List Value) : Prop := ∃ a n c, cs = [.int .i64 x.1, .int .i64 x.2.1, .int .i64 x.2.2.1, .int .i64 x.2.2.2.1, .slice a n c] ∧ SlE W 3 partE x.2.2.2.2 a n c
abbrev EvsR (W : World) (evs : List EvT) (a : Option Addr) (n c : Nat) : Prop := SlR W 5 (evR W) evs a n c
theorem EvsR_call {evs : List EvT} {a : Option Addr} {n c : Nat} (h : EvsR W evs a n c) (hb : Bel W W') : EvsR W' evs a n c :=
  h.mono (cell_below hb.below) fun _ _ ⟨a', n', c', e, hs⟩ => ⟨a', n', c', e, hs.call hb⟩
theorem ev_at {evs : List EvT} {a : Option Addr} {n c : Nat} {i : Nat} {x : EvT} (h : EvsR W evs a n c) (hx : evs[i]? = some x) :
    ∃ ad a' n' c', Gives Try.prog (Instr.indexAt 24 (.slice a n c) (.int .i64 (i : Int))) (.pointer (some ad)) ∧ Elt W ad [.int .i64 x.1, .int .i64 x.2.1, .int .i64 x.2.2.1, .int .i64 x.2.2.2.1, .slice a' n' c'] ∧ SlE W 3 partE x.2.2.2.2 a' n' c' := by
  obtain ⟨b, cs, rfl, hl, hcs, a', n', c', rfl, hs⟩ := h.at_ hx
  have hi := (List.getElem?_eq_some_iff.1 hx).1
  have hn := h.1
  exact ⟨b.add (i * 5), a', n', c', gives_index (e := 28) (n := 5) (by kernel_rfl) (by kernel_rfl) (by omega), hcs, hs⟩
def mixR (Q : Option Addr × Nat × Nat → List PartT → Prop) (r : RawE) (x : EvT) : Prop := r.1 = x.1 ∧ r.2.1 = x.2.1 ∧ r.2.2.1 = x.2.2.1 ∧ r.2.2.2.1 = x.2.2.2.1 ∧ Q r.2.2.2.2 x.2.2.2.2
theorem EvsR_of {raws : List RawE} {evs : List EvT} {a : Option Addr} {n c : Nat} (hs : SlE W 5 rawE raws a n c) (hm : Mixed (mixR fun s l => SlE W 3 partE l s.1 s.2.1 s.2.2) raws evs) : EvsR W evs a n c :=
  SlR.of_mix hs hm.1 fun i x y hx hy => by
    obtain ⟨e1, e2, e3, e4, h⟩ := hm.2 i x y hx hy
    exact ⟨_, _, _, by rw [← e1, ← e2, ← e3, ← e4], h⟩

/-- The event of an operation. -/
def evO (frame agent : Int) (o : OpT) : Option EvT :=
  if o.1 = 1 then some (13, frame, o.2.1, agent, o.2.2) else if o.1 = 2 then some (18, frame, 0, agent, o.2.2) else if o.1 = 3 then some (19, frame, 0, agent, o.2.2) else none
def evsL (frame agent : Int) (ops : List OpT) : List EvT := ops.filterMap (evO frame agent)
theorem evs_take {frame agent : Int} {ops : List OpT} {i : Nat} {o : OpT} (ho : ops[i]? = some o) : evsL frame agent (ops.take (i + 1)) = evsL frame agent (ops.take i) ++ (evO frame agent o).toList := by
  unfold evsL
  rw [List.take_add_one, ho, List.filterMap_append]
  congr 1
theorem evs_len {frame agent : Int} {ops : List OpT} : (evsL frame agent ops).length ≤ ops.length := List.length_filterMap_le ..

theorem c7 {ops : List OpT} {a : Option Addr} {n c : Nat} (frame agent : Int) (W : World) (hs : OpsR W ops a n c) (hl : ops.length ≤ 1000000) : RetQ Try.prog 7 #[.int .i64 frame, .int .i64 agent, .slice a n c] W fun v W' => ∃ a n c, v = .slice a n c ∧ EvsR W' (evsL frame agent ops) a n c := by
  intro R h
  refine f7_calls frame agent a n c W R ?_
  unfold f7_vc
  have hn := hs.1
  refine ⟨fun v W' => At W [] W' ∧ ∃ (i : Nat) (raws : List RawE), v.2.1 = i ∧ i ≤ ops.length ∧ OwnL W [] W' 28 5 rawE (.slice v.1.1 v.1.2.1 v.1.2.2) raws ∧ Mixed (mixR fun s l => SlE W 3 partE l s.1 s.2.1 s.2.2) raws (evsL frame agent (ops.take i)), fun v _ => (n - v.2.1).toNat, ⟨At.refl W, 0, [], rfl, Nat.zero_le _, OwnL.nil, Mixed.nil⟩, ?_⟩
  rintro a3 n4 n5 x6 w7 ⟨hA, i, raws, hi, hil, ho, hm⟩
  simp only at hi ho
  subst hi
  refine brD (fun hlt => ?_) (fun hge => ?_)
  · obtain ⟨o, hoi⟩ : ∃ x, ops[i]? = some x := ⟨_, List.getElem?_eq_getElem (by omega)⟩
    obtain ⟨ad, a', n', c', g1, el, hvv⟩ := op_at hs hoi
    have hlen := evs_len (frame := frame) (agent := agent) (ops := ops.take i)
    have htl : (ops.take i).length ≤ i := by simp; omega
    have hml := hm.1
    have htk := evs_take (frame := frame) (agent := agent) hoi
    refine ⟨ad, g1, _, _, _, _, _, (el.below hA.below).agg 3 (by kernel_rfl) (by kernel_rfl) (by simp) (by simp), ?_⟩
    intro n14 hn14
    rw [succ_i i (by omega)]
    have push : ∀ {x : EvT} {r : RawE}, evO frame agent o = some x → mixR (fun s l => SlE W 3 partE l s.1 s.2.1 s.2.2) r x → Mixed (mixR fun s l => SlE W 3 partE l s.1 s.2.1 s.2.2) (raws ++ [r]) (evsL frame agent (ops.take (i + 1))) := fun {x r} he hr => by
      rw [htk, he]
      exact hm.snoc hr
    unfold evO at push
    refine brE (fun h1 => ?_) (fun h1 => brE (fun h2 => ?_) (fun h2 => brE (fun h3 => ?_) (fun h3 => ?_)))
    · intro w15 hev hun
      have hbel := hev.bel (by simpa using hn14)
      rw [if_pos h1] at push
      refine opw_push (f := rawE) (e' := 28) (bytes := 56) (gs := [n14]) ⟨(hA.call hbel).chg, hun⟩ ((ho.more (gs' := [n14]) (by intro g h1 _; simp at h1; omega)).call hbel) (13, frame, o.2.1, agent, a', n', c') (by kernel_rfl) (by kernel_rfl) rfl (fun _ _ => rfl) (raw_one _) (by omega) (by omega) fun a2 c2 w2 hA ho _ _ => ?_
      exact ⟨⟨hA.off, i + 1, _, rfl, by omega, ho.more (by simp), push rfl ⟨rfl, rfl, rfl, rfl, hvv⟩⟩, by simp only; omega⟩
    · intro w15 hev hun
      have hbel := hev.bel (by simpa using hn14)
      rw [if_neg h1, if_pos h2] at push
      refine opw_push (f := rawE) (e' := 28) (bytes := 56) (gs := [n14]) ⟨(hA.call hbel).chg, hun⟩ ((ho.more (gs' := [n14]) (by intro g h1 _; simp at h1; omega)).call hbel) (18, frame, 0, agent, a', n', c') (by kernel_rfl) (by kernel_rfl) rfl (fun _ _ => rfl) (raw_one _) (by omega) (by omega) fun a2 c2 w2 hA ho _ _ => ?_
      exact ⟨⟨hA.off, i + 1, _, rfl, by omega, ho.more (by simp), push rfl ⟨rfl, rfl, rfl, rfl, hvv⟩⟩, by simp only; omega⟩
    · intro w15 hev hun
      have hbel := hev.bel (by simpa using hn14)
      rw [if_neg h1, if_neg h2, if_pos h3] at push
      refine opw_push (f := rawE) (e' := 28) (bytes := 56) (gs := [n14]) ⟨(hA.call hbel).chg, hun⟩ ((ho.more (gs' := [n14]) (by intro g h1 _; simp at h1; omega)).call hbel) (19, frame, 0, agent, a', n', c') (by kernel_rfl) (by kernel_rfl) rfl (fun _ _ => rfl) (raw_one _) (by omega) (by omega) fun a2 c2 w2 hA ho _ _ => ?_
      exact ⟨⟨hA.off, i + 1, _, rfl, by omega, ho.more (by simp), push rfl ⟨rfl, rfl, rfl, rfl, hvv⟩⟩, by simp only; omega⟩
    · intro w15 hev hun
      have hbel := hev.bel (by simpa using hn14)
      have hno : evO frame agent o = none := by unfold evO; rw [if_neg h1, if_neg h2, if_neg h3]
      rw [hno] at htk
      exact ⟨⟨hA.call hbel, i + 1, raws, rfl, by omega, ho.call hbel, by rw [htk]; simpa using hm⟩, by simp only; omega⟩
  · rw [show i = ops.length by omega, List.take_length] at hm
    exact leafq h hA ⟨_, _, _, rfl, EvsR_of (ho.sl fun _ _ => rfl) (hm.imp fun x y ⟨e1, e2, e3, e4, hs⟩ => ⟨e1, e2, e3, e4, hs.call hA.below⟩)⟩

theorem c8 {evs : List EvT} {aa ba : Option Addr} {an ac bn bc : Nat} (W : World) (h1 : EvsR W evs aa an ac) (h2 : EvsR W evs ba bn bc) : Ret Try.prog 8 #[.slice aa an ac, .slice ba bn bc] W (.bool true) := by
  intro R h
  refine f8_calls aa an ac ba bn bc W R ?_
  unfold f8_vc
  have hn := h1.1
  have hn2 := h2.1
  have hmx := h1.2.1
  have hmx2 := h1.2.2.1
  simp only [maxLen] at hmx2
  refine brN (fun hne => absurd (by rw [hn, hn2]) hne) (fun _ => ?_)
  refine ⟨fun v W' => At W [] W' ∧ ∃ i : Nat, v.1 = i ∧ i ≤ evs.length, fun v _ => (an - v.1).toNat, ⟨At.refl W, 0, rfl, Nat.zero_le _⟩, ?_⟩
  rintro x3 w4 ⟨hA, i, hi, hil⟩
  simp only at hi
  subst hi
  refine brD (fun hlt => ?_) (fun hge => leaf h hA rfl)
  obtain ⟨x, hx⟩ : ∃ x, evs[i]? = some x := ⟨_, List.getElem?_eq_getElem (by omega)⟩
  obtain ⟨ad, a', n', c', g1, el, hv1⟩ := ev_at (EvsR_call h1 hA.below) hx
  obtain ⟨bd, b', m', d', g2, el2, hv2⟩ := ev_at (EvsR_call h2 hA.below) hx
  refine ⟨ad, g1, _, el.one (by kernel_rfl) (by simp), bd, g2, _, el2.one (by kernel_rfl) (by simp), brN (fun e => absurd rfl e) (fun _ => ?_)⟩
  refine ⟨ad, g1, _, (el.sub (o := 1) (by decide)).one (by kernel_rfl) (by simp), bd, g2, _, (el2.sub (o := 1) (by decide)).one (by kernel_rfl) (by simp), brN (fun e => absurd rfl e) (fun _ => ?_)⟩
  refine ⟨ad, g1, _, (el.sub (o := 2) (by decide)).one (by kernel_rfl) (by simp), bd, g2, _, (el2.sub (o := 2) (by decide)).one (by kernel_rfl) (by simp), brN (fun e => absurd rfl e) (fun _ => ?_)⟩
  refine ⟨ad, g1, _, (el.sub (o := 3) (by decide)).one (by kernel_rfl) (by simp), bd, g2, _, (el2.sub (o := 3) (by decide)).one (by kernel_rfl) (by simp), brN (fun e => absurd rfl e) (fun _ => ?_)⟩
  refine ⟨ad, g1, _, _, _, (el.sub (o := 4) (by decide)).one (by kernel_rfl) (by simp), bd, g2, _, _, _, (el2.sub (o := 4) (by decide)).one (by kernel_rfl) (by simp), ?_⟩
  intro w33 hb33
  refine at_callb (hA.call hb33) (c21 w33 (hv1.call hb33) (hv2.call hb33)) fun w35 hA _ hb35 => ⟨_, rfl, ?_⟩
  have el := el.below (hb33.trans hb35)
  have el2 := el2.below (hb33.trans hb35)
  refine ⟨(el2.sub (o := 3) (by decide)).one (by kernel_rfl) (by simp), (el.sub (o := 3) (by decide)).one (by kernel_rfl) (by simp), (el2.sub (o := 2) (by decide)).one (by kernel_rfl) (by simp), (el.sub (o := 2) (by decide)).one (by kernel_rfl) (by simp), (el2.sub (o := 1) (by decide)).one (by kernel_rfl) (by simp), (el.sub (o := 1) (by decide)).one (by kernel_rfl) (by simp), el2.one (by kernel_rfl) (by simp), el.one (by kernel_rfl) (by simp), brNB (fun e => by simp at e) (fun _ => ?_)⟩
  rw [succ_i i (by omega)]
  exact ⟨⟨hA, i + 1, rfl, by omega⟩, by simp only; omega⟩

theorem bel_chg {w w1 w2 : World} {p : Nat} (hb : Bel w w1) (hch : Chg (fun b => b = p) w1 w2) (hp : w.heap.size ≤ p) : Bel w w2 :=
  ⟨⟨hch.os.trans hb.below.os, hch.tape.trans hb.below.tape, hch.output.trans hb.below.output, Nat.le_trans hb.size hch.size, fun b hbl => by rw [hch.block b (Nat.lt_of_lt_of_le hbl hb.size) (by omega), hb.block hbl]⟩, Nat.le_trans hb.drawn hch.drawn⟩

theorem c9 {ops : List OpT} {a : Option Addr} {n c : Nat} (frame agent : Int) (W : World) (hs : OpsR W ops a n c) (hl : ops.length ≤ 1000000) (hlv : ∀ o ∈ ops, o.2.2.length ≤ 1000000) : RetQ Try.prog 9 #[.int .i64 frame, .int .i64 agent, .slice a n c] W fun v W' => ∃ a n c, v = .slice a n c ∧ EvsR W' (evsL frame agent ops) a n c := by
  intro R h
  refine f9_calls frame agent a n c W R ?_
  unfold f9_vc
  have hn := hs.1
  refine ⟨fun v W' => At W [] W' ∧ ∃ (i : Nat) (raws : List RawE), v.2.1 = i ∧ i ≤ ops.length ∧ OwnL W [] W' 28 5 rawE (.slice v.1.1 v.1.2.1 v.1.2.2) raws ∧ Mixed (mixR fun s l => OwnL W [] W' 55 3 partE (.slice s.1 s.2.1 s.2.2) l) raws (evsL frame agent (ops.take i)), fun v _ => (n - v.2.1).toNat, ⟨At.refl W, 0, [], rfl, Nat.zero_le _, OwnL.nil, Mixed.nil⟩, ?_⟩
  rintro a3 n4 n5 x6 w7 ⟨hA, i, raws, hi, hil, ho, hm⟩
  simp only at hi ho
  subst hi
  refine brD (fun hlt => ?_) (fun hge => ?_)
  · obtain ⟨o, hoi⟩ : ∃ x, ops[i]? = some x := ⟨_, List.getElem?_eq_getElem (by omega)⟩
    have hov := hlv o (List.mem_of_getElem? hoi)
    obtain ⟨ad, a', n', c', g1, el, hvv⟩ := op_at hs hoi
    have hlen := evs_len (frame := frame) (agent := agent) (ops := ops.take i)
    have htl : (ops.take i).length ≤ i := by simp; omega
    have hml := hm.1
    have htk := evs_take (frame := frame) (agent := agent) hoi
    refine ⟨ad, g1, _, _, _, _, _, (el.below hA.below).agg 3 (by kernel_rfl) (by kernel_rfl) (by simp) (by simp), ?_⟩
    intro n14 hn14 w15 hev hun
    have hbel := hev.bel (by simpa using hn14)
    rw [succ_i i (by omega)]
    have hA : At W [n14] w15 := ⟨(hA.call hbel).chg, hun⟩
    refine at_calll hA (c22 w15 ((hvv.call hA.below).call (At.refl w15).below) hov) (fun _ _ => rfl) fun a18 c18 w17 hA hk17 hb17 ho18 _ => ⟨_, _, _, rfl, hk17, ?_⟩
    have ho : OwnL W [n14] w17 28 5 rawE (.slice a3 n4 n5) raws := ((ho.more (gs' := [n14]) (by intro g h1 _; simp at h1; omega)).call hbel).call hb17
    have hm : Mixed (mixR fun s l => OwnL W [] w17 55 3 partE (.slice s.1 s.2.1 s.2.2) l) raws (evsL frame agent (ops.take i)) := hm.imp fun x y ⟨e1, e2, e3, e4, hs⟩ => ⟨e1, e2, e3, e4, (hs.call hbel).call hb17⟩
    refine opw_allocS [.int .i64 0, .int .i64 0, .int .i64 0, .int .i64 0, .slice none 0 0] (zv := .agg #[.int .i64 0, .int .i64 0, .int .i64 0, .int .i64 0, .slice none 0 0]) (by kernel_rfl) rfl hA fun p w22 hp hA hk22 hb22 hpb => ⟨_, rfl, hk22, ?_⟩
    have hsz := ‹AtF W noB [n14] w17›.size
    have hpW : W.heap.size ≤ p ∨ noB p := .inl (by omega)
    have hpg : p ∉ [n14] := fun hx => by have := ‹AtF W noB [n14] w17›.under _ hx; omega
    have out : ∀ {what arg : Int} {w25 : World}, evO frame agent o = some (what, frame, arg, agent, o.2.2) → At W [n14] w25 → Bel w17 w25 → ∀ {parts : Array (Nat × Value)}, sliceCells Try.prog 24 1 parts = some (28, rawE (what, frame, arg, agent, a18, o.2.2.length, c18)) → ∀ {K : Option Addr → Nat → Nat → World → Prop}, (∀ a2 n2 c2 w2, (At W [] w2 ∧ ∃ (j : Nat) (raws : List RawE), ((i + 1 : Nat) : Int) = j ∧ j ≤ ops.length ∧ OwnL W [] w2 28 5 rawE (.slice a2 n2 c2) raws ∧ Mixed (mixR fun s l => OwnL W [] w2 55 3 partE (.slice s.1 s.2.1 s.2.2) l) raws (evsL frame agent (ops.take j))) → K a2 n2 c2 w2) →
      OpW Try.prog (valueS (Instr.buildSlice 24 1 parts)) w25 fun v w1 => ∃ a1 n1 c1, v = .slice a1 n1 c1 ∧ Keeps [n14] w25 w1 ∧ OpW Try.prog (builtin .append #[24, 24] 24 #[false, false] #[.slice a3 n4 n5, .slice a1 n1 c1]) w1 fun v w2 => ∃ a2 n2 c2, v = .slice a2 n2 c2 ∧ Keeps [n14] w1 w2 ∧ K a2 n2 c2 w2 := fun {what arg w25} he hA hb {parts} hp {K} hK => by
      have ho := ho.call hb
      refine opw_push (f := rawE) (bytes := 56) hA ho (what, frame, arg, agent, a18, o.2.2.length, c18) (by kernel_rfl) hp rfl (fun _ _ => rfl) (raw_one _) (by omega) (by omega) fun a2 c2 w2 hA ho2 hg _ => hK _ _ _ _ ⟨hA.off, i + 1, _, rfl, by omega, ho2.more (by simp), ?_⟩
      rw [htk, he]
      have hne : ∀ {s : Value} {l : List PartT}, OwnL W [] w17 55 3 partE s l → OwnL W [] w2 55 3 partE s l := fun {s l} hs => (hs.call hb).grown hg (by
        have hs := hs.call hb
        cases hk : s.ownBlock with
        | none => exact .inl rfl
        | some k =>
          refine .inr fun e => ?_
          obtain ⟨c1, h1⟩ := hs.blk hk
          obtain ⟨c2, h2⟩ := ho.blk e.symm
          exact cells_ne h1 h2 (by decide) rfl)
      exact (hm.imp fun x y ⟨e1, e2, e3, e4, hs⟩ => ⟨e1, e2, e3, e4, hne hs⟩).snoc ⟨rfl, rfl, rfl, rfl, hne (ho18.more (by simp))⟩
    refine opw_storeF hA hpb hpW hpg (cells' := [.int .i64 0, .int .i64 frame, .int .i64 0, .int .i64 agent, .slice a18 o.2.2.length c18]) (by kernel_rfl) fun w25 hA hk25 hch hpb => ⟨hk25, ?_⟩
    have hb25 := bel_chg (p := p) hb22 hch (by omega)
    unfold evO at out
    refine brE (fun h1 => ?_) (fun h1 => brE (fun h2 => ?_) (fun h2 => brE (fun h3 => ?_) (fun h3 => ?_)))
    · rw [if_pos h1] at out
      intro w26 hb26 hun26
      have hA : At W [n14] w26 := ⟨(hA.call hb26).chg, hun26⟩
      have hpb : w26.heap[p]? = _ := (hb26.block (Array.getElem?_eq_some_iff.1 hpb).1).trans hpb
      refine opw_storeF hA hpb hpW hpg (cells' := [.int .i64 13, .int .i64 frame, .int .i64 0, .int .i64 agent, .slice a18 o.2.2.length c18]) (by kernel_rfl) fun w28 hA hk28 hch hpb => ⟨hk28, ?_⟩
      have hb28 := bel_chg (p := p) (hb25.trans hb26) hch (by omega)
      refine opw_storeF hA hpb hpW hpg (cells' := [.int .i64 13, .int .i64 frame, .int .i64 o.2.1, .int .i64 agent, .slice a18 o.2.2.length c18]) (by kernel_rfl) fun w30 hA hk30 hch hpb => ⟨hk30, ?_⟩
      have hb30 := bel_chg (p := p) hb28 hch (by omega)
      refine ⟨_, _, _, _, _, _, _, (elt_cells hpb).agg 5 (by kernel_rfl) (by kernel_rfl) (by simp) (by simp), ?_⟩
      exact out rfl hA hb30 (by kernel_rfl) fun a2 n2 c2 w2 hJ => ⟨hJ, by simp only; omega⟩
    · rw [if_neg h1, if_pos h2] at out
      refine opw_storeF hA hpb hpW hpg (cells' := [.int .i64 18, .int .i64 frame, .int .i64 0, .int .i64 agent, .slice a18 o.2.2.length c18]) (by kernel_rfl) fun w28 hA hk28 hch hpb => ⟨hk28, ?_⟩
      have hb28 := bel_chg (p := p) hb25 hch (by omega)
      refine ⟨_, _, _, _, _, _, _, (elt_cells hpb).agg 5 (by kernel_rfl) (by kernel_rfl) (by simp) (by simp), ?_⟩
      exact out rfl hA hb28 (by kernel_rfl) fun a2 n2 c2 w2 hJ => ⟨hJ, by simp only; omega⟩
    · rw [if_neg h1, if_neg h2, if_pos h3] at out
      refine opw_storeF hA hpb hpW hpg (cells' := [.int .i64 19, .int .i64 frame, .int .i64 0, .int .i64 agent, .slice a18 o.2.2.length c18]) (by kernel_rfl) fun w28 hA hk28 hch hpb => ⟨hk28, ?_⟩
      have hb28 := bel_chg (p := p) hb25 hch (by omega)
      refine ⟨_, _, _, _, _, _, _, (elt_cells hpb).agg 5 (by kernel_rfl) (by kernel_rfl) (by simp) (by simp), ?_⟩
      exact out rfl hA hb28 (by kernel_rfl) fun a2 n2 c2 w2 hJ => ⟨hJ, by simp only; omega⟩
    · have hno : evO frame agent o = none := by unfold evO; rw [if_neg h1, if_neg h2, if_neg h3]
      rw [hno] at htk
      refine ⟨⟨hA.off, i + 1, raws, rfl, by omega, (ho.call hb25).more (by simp), ?_⟩, by simp only; omega⟩
      rw [htk]
      simpa using hm.imp fun x y ⟨e1, e2, e3, e4, hs⟩ => ⟨e1, e2, e3, e4, hs.call hb25⟩
  · rw [show i = ops.length by omega, List.take_length] at hm
    exact leafq h hA ⟨_, _, _, rfl, EvsR_of (ho.sl fun _ _ => rfl) (hm.imp fun x y ⟨e1, e2, e3, e4, hs⟩ => ⟨e1, e2, e3, e4, hs.sl fun _ _ => rfl⟩)⟩
end Go.Vc.V

/- Few; what works; PoolTells. -/
set_option maxRecDepth 20000
set_option maxHeartbeats 1000000
namespace Go.Vc.V
open Go Go.Vc Go.RowKit Go.Proofs Vce

variable {w W W' : World} {M : Nat → Prop} {gs : List Nat}

def fewO (ops : List OpT) : Bool := decide (ops.length ≤ 60) && ops.all fun o => decide (o.2.2.length ≤ 150)
theorem all_take {α : Type} {p : α → Bool} {l : List α} {i : Nat} {x : α} (hx : l[i]? = some x) : (l.take (i + 1)).all p = ((l.take i).all p && p x) := by
  rw [List.take_add_one, hx, List.all_append]; simp
theorem c20 {ops : List OpT} {a : Option Addr} {n c : Nat} (W : World) (hs : OpsR W ops a n c) : Ret Try.prog 20 #[.agg #[.int .i64 0, .int .i64 0, .int .i64 0, .int .i64 0, .int .i64 0, .int .i64 0, .int .i64 0, .slice none 0 0, .slice none 0 0, .slice a n c]] W (.bool (fewO ops)) := by
  intro R h
  refine f20_calls _ _ _ _ _ _ _ _ _ _ _ _ _ a n c W R ?_
  unfold f20_vc
  have hn := hs.1
  intro n1 hn1
  refine brD (fun h => absurd h (by decide)) (fun _ => brD (fun h => absurd h (by decide)) (fun _ => brD (fun h60 => ?_) (fun h60 => ?_)))
  · intro w4 hb _
    refine leaf h ((At.refl W).call hb) ?_
    unfold fewO
    rw [decide_eq_false (by omega)]
    rfl
  refine ⟨fun v W' => At W [] W' ∧ ∃ i : Nat, v.1 = i ∧ i ≤ ops.length ∧ (ops.take i).all (fun o => decide (o.2.2.length ≤ 150)) = true, fun v _ => (n - v.1).toNat, ⟨fun w7 hb _ => ⟨(At.refl W).call hb, 0, rfl, Nat.zero_le _, rfl⟩, ?_⟩⟩
  rintro x8 w9 ⟨hA, i, hi, hil, hall⟩
  simp only at hi
  subst hi
  refine brD (fun hlt => ?_) (fun hge => leaf h hA ?_)
  · obtain ⟨o, ho⟩ : ∃ x, ops[i]? = some x := ⟨_, List.getElem?_eq_getElem (by omega)⟩
    obtain ⟨ad, a', n', c', g1, el, hv⟩ := op_at (OpsR_call hs hA.below) ho
    have hnv := hv.1
    refine ⟨ad, g1, _, _, _, (el.sub (o := 2) (by decide)).one (by kernel_rfl) (by simp), brD (fun hb => leaf h hA ?_) (fun hb => ?_)⟩
    · have : ops.all (fun o => decide (o.2.2.length ≤ 150)) = false := by
        cases e : ops.all (fun o => decide (o.2.2.length ≤ 150)) with
        | false => rfl
        | true =>
          have := List.all_eq_true.1 e o (List.mem_of_getElem? ho)
          simp only [decide_eq_true_eq] at this
          omega
      unfold fewO
      rw [this, Bool.and_false]
    · rw [succ_i i (by omega)]
      refine ⟨⟨hA, i + 1, rfl, by omega, ?_⟩, by simp only; omega⟩
      rw [all_take ho, hall, Bool.true_and]
      exact decide_eq_true (by omega)
  · rw [show i = ops.length by omega, List.take_length] at hall
    unfold fewO
    rw [hall, decide_eq_true (by omega)]
    rfl
def fewB (v : List PartT) (ops : List OpT) : Bool := decide (v.length ≤ 150) && fewO ops
theorem c6 {v : List PartT} {ops : List OpT} {a b : Option Addr} {n c m d : Nat} (W : World) (hv : SlE W 3 partE v b m d) (hs : OpsR W ops a n c) : Ret Try.prog 6 #[.slice b m d, .slice a n c] W (.bool (fewB v ops)) := by
  intro R h
  refine f6_calls _ _ _ _ _ _ W R ?_
  unfold f6_vc
  have hn := hv.1
  unfold fewB at h
  refine brD (fun hle => ?_) (fun hgt => leaf h (At.refl W) ?_)
  · refine at_callb (At.refl W) (c20 W hs) fun w2 hA _ _ => ⟨_, rfl, leaf h hA ?_⟩
    rw [decide_eq_true (by omega)]
    rfl
  · rw [decide_eq_false (by omega)]
    rfl
theorem few_ok {v : List PartT} {ops : List OpT} (h : fewB v ops = true) : v.length ≤ 150 ∧ ops.length ≤ 60 ∧ ∀ o ∈ ops, o.2.2.length ≤ 150 := by
  unfold fewB fewO at h
  simp only [Bool.and_eq_true, decide_eq_true_eq, List.all_eq_true] at h
  exact ⟨h.1, h.2.1, h.2.2⟩

/-- A raw operation. -/
abbrev RawO := Int × Int × Option Addr × Nat × Nat
abbrev rawO (x : RawO) : List Value := [.int .i64 x.1, .int .i64 x.2.1, .slice x.2.2.1 x.2.2.2.1 x.2.2.2.2]
def mixO (W : World) (r : RawO) (x : OpT) : Prop := r.1 = x.1 ∧ r.2.1 = x.2.1 ∧ SlE W 3 partE x.2.2 r.2.2.1 r.2.2.2.1 r.2.2.2.2
theorem OpsR_of {raws : List RawO} {ops : List OpT} {a : Option Addr} {n c : Nat} (hs : SlE W 3 rawO raws a n c) (hm : Mixed (mixO W) raws ops) : OpsR W ops a n c :=
  SlR.of_mix hs hm.1 fun i x y hx hy => by
    obtain ⟨e1, e2, h⟩ := hm.2 i x y hx hy
    exact ⟨_, _, _, by rw [← e1, ← e2], h⟩

def ops1 : List OpT := [(2, 0, [(0, 0, 1000)]), (1, 7, [(0, 0, 2000), (0, 2, 1000)])]
theorem do1 : doL 2 2 [(0, 0, 4000)] [(0, 0, 1000)] = ([(0, 0, 3000), (0, 2, 1000)], 0) := by
  have hs : vsub [(0, 0, 4000)] [(0, 0, 1000)] = some [(0, 0, 3000)] := by decide +kernel
  have hm : vmove [(0, 0, 1000)] 0 2 = some [(0, 2, 1000)] := by decide +kernel
  have ha : vadd [(0, 0, 3000)] [(0, 2, 1000)] = some [(0, 0, 3000), (0, 2, 1000)] := by
    rw [vadd_lt (by decide), vadd_nil]
    rfl
  unfold doL
  rw [show fromR 2 2 = 0 from rfl, show toR 2 2 = 2 from rfl, hm, hs]
  simp only [vout, Option.getD_some, ha]
  decide +kernel
theorem do2 : doL 1 2 [(0, 0, 3000), (0, 2, 1000)] [(0, 0, 2000), (0, 2, 1000)] = ([(0, 0, 1000)], 0) := by
  have hs : vsub [(0, 0, 3000), (0, 2, 1000)] [(0, 0, 2000), (0, 2, 1000)] = some [(0, 0, 1000)] := by decide +kernel
  unfold doL
  rw [hs, show toR 1 2 = -1 from rfl]
  simp only [vout, Option.getD_some]
  rw [if_pos (by decide +kernel), if_pos (by decide)]
theorem chk1 : checkL [(0, 0, 4000)] 2 ops1 = 0 := by decide +kernel
theorem run1 : runL [(0, 0, 4000)] 2 ops1 0 = ([(0, 0, 1000)], 0) := by
  unfold runL
  rw [if_neg (by rw [chk1]; decide)]
  unfold ops1
  simp [stepsL, do1, do2]
theorem run2 : runL [(0, 0, 4000)] 2 ops1 1 = ([(0, 0, 3000), (0, 2, 1000)], 0) := by
  unfold runL
  rw [if_neg (by rw [chk1]; decide)]
  unfold ops1
  simp [stepsL, do1]
theorem for1 : foreign 2 ops1 = false := by decide
theorem for2 : foreign 3 ops1 = true := by decide
theorem tsk1 : tasksL ops1 = 1 := by decide

theorem c11 (W : World) : Ret Try.prog 11 #[] W (.bool true) := by
  intro R h
  refine f11_calls W R ?_
  unfold f11_vc
  refine opw_litL (e' := 55) (f := partE) (size := 3) (l := [(0, 0, 4000)]) (At.refl W) rfl (fun _ _ => rfl) (by decide) (by kernel_rfl) fun g1 w2 _ hA _ hb2 ho1 => ⟨_, _, _, rfl, ?_⟩
  have s1 := ho1.sl fun _ _ => rfl
  refine opw_litL (e' := 55) (f := partE) (size := 3) (l := [(0, 0, 1000)]) hA rfl (fun _ _ => rfl) (by decide) (by kernel_rfl) fun g2 w7 _ hA _ hb7 ho2 => ⟨_, _, _, rfl, ?_⟩
  have s2 := ho2.sl fun _ _ => rfl
  refine opw_litL (e' := 55) (f := partE) (size := 3) (l := [(0, 0, 2000), (0, 2, 1000)]) hA rfl (fun _ _ => rfl) (by decide) (by kernel_rfl) fun g3 w12 _ hA _ hb12 ho3 => ⟨_, _, _, rfl, ?_⟩
  have s3 := ho3.sl fun _ _ => rfl
  refine opw_litL (e' := 40) (f := rawO) (size := 3) (l := [((2, 0, some ⟨g2, 0, none⟩, 1, 1) : RawO), (1, 7, some ⟨g3, 0, none⟩, 2, 2)]) hA rfl (fun _ _ => rfl) (by decide) (by kernel_rfl) fun g4 w17 _ hA _ hb17 ho4 => ⟨_, _, _, rfl, ?_⟩
  have s4 := ho4.sl fun _ _ => rfl
  have sO : OpsR w17 ops1 _ _ _ := OpsR_of s4 ⟨rfl, fun i x y hx hy => by
    match i, hx, hy with
    | 0, hx, hy =>
      cases hx
      cases hy
      exact ⟨rfl, rfl, (s2.call hb12).call hb17⟩
    | 1, hx, hy =>
      cases hx
      cases hy
      exact ⟨rfl, rfl, s3.call hb17⟩
    | i + 2, hx, _ => simp at hx⟩
  have s1 := ((s1.call hb7).call hb12).call hb17
  refine at_callq hA (c12 2 w17 s1 sO (by decide)) fun u w22 hA _ hb22 ⟨s, e, hrow⟩ => ?_
  subst e
  rw [run1] at hrow ⊢
  have ho5 : OwnL W [] w22 55 3 partE s [(0, 0, 1000)] := OwnF.ret (‹AtF W noB [] w17›) hrow rfl rfl
  obtain ⟨a5, d5, rfl, s5⟩ := ho5.slice fun _ _ => rfl
  refine ⟨_, _, _, _, rfl, ?_⟩
  refine at_callq hA (c13 2 w22 (s1.call hb22) (OpsR_call sO hb22) (by decide)) fun u w28 hA _ hb28 ⟨s, e, hrow⟩ => ?_
  subst e
  rw [run2] at hrow ⊢
  have ho6 : OwnL W [] w28 55 3 partE s [(0, 0, 3000), (0, 2, 1000)] := OwnF.ret (‹AtF W noB [] w22›) hrow rfl rfl
  obtain ⟨a6, d6, rfl, s6⟩ := ho6.slice fun _ _ => rfl
  refine ⟨_, _, _, _, rfl, brE (fun _ => ?_) (fun e => absurd rfl e)⟩
  refine opw_litL (e' := 55) (f := partE) (size := 3) (l := [(0, 0, 1000)]) hA rfl (fun _ _ => rfl) (by decide) (by kernel_rfl) fun g7 w34 _ hA _ hb34 ho7 => ⟨_, _, _, rfl, ?_⟩
  have s7 := ho7.sl fun _ _ => rfl
  refine at_callb hA (c21 w34 ((s5.call hb28).call hb34) s7) fun w39 hA _ hb39 => ⟨_, rfl, brB (fun _ => brE (fun _ => ?_) (fun e => absurd rfl e)) (fun e => by simp at e)⟩
  refine opw_litL (e' := 55) (f := partE) (size := 3) (l := [(0, 0, 3000), (0, 2, 1000)]) hA rfl (fun _ _ => rfl) (by decide) (by kernel_rfl) fun g8 w42 _ hA _ hb42 ho8 => ⟨_, _, _, rfl, ?_⟩
  have s8 := ho8.sl fun _ _ => rfl
  refine at_callb hA (c21 w42 (((s6.call hb34).call hb39).call hb42) s8) fun w47 hA _ hb47 => ⟨_, rfl, brB (fun _ => ?_) (fun e => by simp at e)⟩
  have sO := OpsR_call (OpsR_call (OpsR_call (OpsR_call (OpsR_call (OpsR_call sO hb22) hb28) hb34) hb39) hb42) hb47
  refine at_callb hA (c10 w47 sO) fun w50 hA _ hb50 => ⟨_, rfl, ?_⟩
  rw [tsk1]
  refine brE (fun _ => ?_) (fun e => absurd rfl e)
  refine at_callb hA (c23 2 w50 (OpsR_call sO hb50)) fun w53 hA _ hb53 => ⟨_, rfl, ?_⟩
  rw [for1]
  refine brNB (fun _ => ?_) (fun e => by cases e)
  refine at_callb hA (c23 3 w53 (OpsR_call (OpsR_call sO hb50) hb53)) fun w56 hA _ _ => ⟨_, rfl, leaf h hA ?_⟩
  rw [for2]

/-! ### PoolTells -/
theorem evs_tasks (frame agent : Int) : ∀ ops : List OpT, (((evsL frame agent ops).filter fun x => decide (x.1 = 13)).length : Int) = tasksL ops
  | [] => rfl
  | o :: ops => by
    have ih := evs_tasks frame agent ops
    have e1 : evsL frame agent (o :: ops) = (evO frame agent o).toList ++ evsL frame agent ops := by
      unfold evsL
      cases h : evO frame agent o <;> simp [h]
    have e2 : tasksL (o :: ops) = (if o.1 = 1 then 1 else 0) + tasksL ops := by
      unfold tasksL
      by_cases h : o.1 = 1 <;> simp [h]
      omega
    rw [e1, List.filter_append, List.length_append, e2, Int.natCast_add, ih, Int.natCast_add]
    congr 1
    unfold evO
    by_cases h1 : o.1 = 1
    · rw [if_pos h1, if_pos h1]
      rfl
    · rw [if_neg h1, if_neg h1]
      by_cases h2 : o.1 = 2
      · rw [if_pos h2]
        rfl
      · rw [if_neg h2]
        by_cases h3 : o.1 = 3
        · rw [if_pos h3]
          rfl
        · rw [if_neg h3]
          rfl
theorem law3 {ops : List OpT} {a : Option Addr} {n c : Nat} (frame agent : Int) (W : World) (hs : OpsR W ops a n c) : Ret Try.prog 3 #[.int .i64 frame, .int .i64 agent, .slice a n c] W (.bool true) := by
  intro R h
  refine f3_calls frame agent a n c W R ?_
  unfold f3_vc
  have hnil : SlE W 3 partE [] none 0 0 := ⟨rfl, Nat.le_refl _, Nat.zero_le _, fun _ => rfl, fun i x hx => by simp at hx⟩
  refine at_callb (At.refl W) (c6 W hnil hs) fun w2 hA _ hb2 => ⟨_, rfl, brNB (fun _ => leaf h hA rfl) (fun hf => ?_)⟩
  obtain ⟨_, hl, hlv⟩ := few_ok hf
  refine at_callq hA (c7 frame agent w2 (OpsR_call hs hb2) (by omega)) fun u w5 hA _ hb5 ⟨a6, n7, c8', e, hev⟩ => ?_
  subst e
  have hn := hev.1
  have hel := evs_len (frame := frame) (agent := agent) (ops := ops)
  refine ⟨_, _, _, rfl, fun v W' => AtF W noB [] W' ∧ Bel w5 W' ∧ ∃ i : Nat, v.2.1 = i ∧ i ≤ (evsL frame agent ops).length ∧ v.1 = (((evsL frame agent ops).take i).filter fun x => decide (x.1 = 13)).length, fun v _ => (n7 - v.2.1).toNat, ⟨hA, (At.refl w5).below, 0, rfl, Nat.zero_le _, rfl⟩, ?_⟩
  rintro x11 x12 w13 ⟨hA, hb13, i, hi, hil, hc⟩
  simp only at hi hc
  subst hi hc
  refine brD (fun hlt => ?_) (fun hge => ?_)
  · obtain ⟨x, hx⟩ : ∃ x, (evsL frame agent ops)[i]? = some x := ⟨_, List.getElem?_eq_getElem (by omega)⟩
    obtain ⟨ad, a', n', c', g1, el, _⟩ := ev_at (EvsR_call hev hb13) hx
    have hfl : (((evsL frame agent ops).take i).filter fun x => decide (x.1 = 13)).length ≤ i := Nat.le_trans (List.length_filter_le ..) (by simp; omega)
    have htk : (((evsL frame agent ops).take (i + 1)).filter fun x => decide (x.1 = 13)).length = (((evsL frame agent ops).take i).filter fun x => decide (x.1 = 13)).length + if x.1 = 13 then 1 else 0 := by
      rw [List.take_add_one, hx, List.filter_append, List.length_append]
      by_cases h1 : x.1 = 13 <;> simp [h1]
    refine ⟨ad, g1, _, el.one (by kernel_rfl) (by simp), ?_⟩
    rw [succ_i i (by omega)]
    refine brE (fun h1 => ?_) (fun h1 => ?_)
    · rw [if_pos h1] at htk
      rw [succ_i _ (by omega)]
      exact ⟨⟨hA, hb13, i + 1, rfl, by omega, by simp only; rw [htk]⟩, by simp only; omega⟩
    · rw [if_neg h1] at htk
      exact ⟨⟨hA, hb13, i + 1, rfl, by omega, by simp only; rw [htk]; rfl⟩, by simp only; omega⟩
  · rw [show i = (evsL frame agent ops).length by omega, List.take_length, evs_tasks]
    have hs13 := OpsR_call (OpsR_call (OpsR_call hs hb2) hb5) hb13
    refine at_callq hA (c9 frame agent w13 hs13 (by omega) fun o ho => by have := hlv o ho; omega) fun u w17 hA _ hb17 ⟨a18, n19, c20, e, hev2⟩ => ?_
    subst e
    refine ⟨_, _, _, rfl, ?_⟩
    refine at_callb hA (c8 w17 hev2 (EvsR_call (EvsR_call hev hb13) hb17)) fun w22 hA _ hb22 => ⟨_, rfl, brB (fun _ => ?_) (fun e => by cases e)⟩
    refine at_callb hA (c10 w22 (OpsR_call (OpsR_call hs13 hb17) hb22)) fun w25 hA _ _ => ⟨_, rfl, brE (fun _ => ?_) (fun e => absurd rfl e)⟩
    exact at_callb hA (c11 w25) fun w28 hA _ _ => ⟨_, rfl, leaf h hA rfl⟩
end Go.Vc.V

/- The arguments of pool's laws, read. -/
set_option maxRecDepth 20000
namespace Go.Vc.V
open Go Go.Vc Go.RowKit
abbrev ptG : GT := .st (.pair (.int .i64) (.pair (.int .i64) (.pair (.int .i64) .unit)))
abbrev PtA := Int × Int × Int × Unit
abbrev opG : GT := .st (.pair (.int .i64) (.pair (.int .i64) (.pair (.sl ptG) .unit)))
abbrev OpA := Int × Int × List PtA × Unit
def ptOf (x : PtA) : PartT := (x.1, x.2.1, x.2.2.1)
def opOf (x : OpA) : OpT := (x.1, x.2.1, x.2.2.1.map ptOf)
theorem row_M {α β : Type} {w : World} {n : Nat} {R : α → List Value → Prop} {R' : β → List Value → Prop} {k : α → β} {l : List α} {a : Option Addr} {len c : Nat} (hs : SlR w n R l a len c) (hR : ∀ x cs, R x cs → R' (k x) cs) : SlR w n R' (l.map k) a len c := by
  refine ⟨by rw [List.length_map]; exact hs.1, hs.2.1, hs.2.2.1, hs.2.2.2.1, fun i y hy => ?_⟩
  rw [List.getElem?_map] at hy
  cases hx : l[i]? with
  | none => rw [hx] at hy; cases hy
  | some x =>
    rw [hx] at hy
    simp only [Option.map_some, Option.some.injEq] at hy
    subst hy
    obtain ⟨ad, cs, ha, hl, hcs, hr⟩ := hs.at_ hx
    exact ⟨ad, cs, ha, hl, hcs, hR _ _ hr⟩
theorem pt_R {w : World} {x : PtA} {cs : List Value} (h : ptG.R w x cs) : cs = partE (ptOf x) := by
  obtain ⟨c1, c2, rfl, ⟨rfl, _, _⟩, c3, c4, rfl, ⟨rfl, _, _⟩, c5, c6, rfl, ⟨rfl, _, _⟩, rfl⟩ := h
  rfl
theorem op_R {w : World} {x : OpA} {cs : List Value} (h : opG.R w x cs) : opR w (opOf x) cs := by
  obtain ⟨c1, c2, rfl, ⟨rfl, _, _⟩, c3, c4, rfl, ⟨rfl, _, _⟩, c5, c6, rfl, ⟨a, n, c, rfl, hs⟩, rfl⟩ := h
  exact ⟨a, n, c, rfl, row_M hs fun _ _ => pt_R⟩
theorem pts_V {w : World} {l : List PtA} {v : Value} (h : GT.V w (.sl ptG) l v) : ∃ a n c, v = .slice a n c ∧ SlE w 3 partE (l.map ptOf) a n c := by
  obtain ⟨a, n, c, hv, hs⟩ := h
  simp at hv
  exact ⟨a, n, c, hv, row_M hs fun _ _ => pt_R⟩
theorem ops_V {w : World} {l : List OpA} {v : Value} (h : GT.V w (.sl opG) l v) : ∃ a n c, v = .slice a n c ∧ OpsR w (l.map opOf) a n c := by
  obtain ⟨a, n, c, hv, hs⟩ := h
  simp at hv
  exact ⟨a, n, c, hv, row_M hs fun _ _ => op_R⟩
end Go.Vc.V

/- The formulas of functions, printed by a program (VcTool.lean): each is what the generator's formula comes to, by the kernel's reckoning; whoever proves one has the function's contract. -/
set_option maxRecDepth 100000
set_option maxHeartbeats 1000000
set_option linter.unusedVariables false
namespace Vce
open Go Go.Vc Go.RowKit
/-! manciple/manciplelaw15.PoolSums -/
def h4 : Hints := ⟨[11, 13], [60, 68], [18, 41, 43, 55, 63, 76, 35, 47, 82], [(18, [0, 1, 2, 3, 4, 5, 6, 7])], [], [(11, ⟨[(12, .int .i64)], [(11, .cons (.int .i64) (.cons (.int .i64) (.cons (.int .i64) (.cons (.int .i64) (.nil)))))]⟩)], [(7, ⟨[], []⟩)], [], [(14, (.op 0 (.op 1 (.op 2 (.op 3 (.op 4 (.op 5 (.alt (.op 6 (.alt (.op 7 (.op 8 (.op 9 (.op 10 (.op 11 (.op 12 (.op 13 .nil))))))) (.op 11 (.op 7 (.op 8 (.op 9 (.op 10 (.op 12 (.op 13 .nil))))))))) (.op 11 (.op 6 (.op 7 (.op 8 (.op 9 (.op 10 (.op 12 (.op 13 .nil))))))))))))))))]⟩
def f4_vc (va : Option Addr) (vn : Nat) (vc : Nat) (role : Int) (opsa : Option Addr) (opsn : Nat) (opsc : Nat) (w : World) (R : Ending → World → Prop) : Prop :=
 Calls Proofs.Try.prog 6 #[Value.slice va vn vc, Value.slice opsa opsn opsc] w fun (e1 : Ending) (w2 : World) =>
 ∃ (b3 : Bool),
 e1 = Ending.returned (Value.bool b3) ∧
 ((!b3) = true → R (Ending.returned (Value.bool true)) w2) ∧
 ((!b3) = false →
 Calls Proofs.Try.prog 12 #[Value.slice va vn vc, Value.int IntKind.i64 role, Value.slice opsa opsn opsc] w2 fun (e4 : Ending) (w5 : World) =>
 ∃ (a6 : Option Addr),
 ∃ (n7 : Nat),
 ∃ (n8 : Nat),
 ∃ (x9 : Int),
 e4 = Ending.returned (Value.tuple #[Value.slice a6 n7 n8, Value.int IntKind.i64 x9]) ∧
 Calls Proofs.Try.prog 13 #[Value.slice va vn vc, Value.int IntKind.i64 role, Value.slice opsa opsn opsc] w5 fun (e10 : Ending) (w11 : World) =>
 ∃ (a12 : Option Addr),
 ∃ (n13 : Nat),
 ∃ (n14 : Nat),
 ∃ (x15 : Int),
 e10 = Ending.returned (Value.tuple #[Value.slice a12 n13 n14, Value.int IntKind.i64 x15]) ∧
 ∃ (J16 : Unit → World → Prop),
 (((x15 == 0) = true →
 Calls Proofs.Try.prog 14 #[Value.slice a12 n13 n14] w11 fun (e17 : Ending) (w18 : World) =>
 ∃ (x19 : Int),
 ∃ (x20 : Int),
 ∃ (x21 : Int),
 ∃ (x22 : Int),
 e17 = Ending.returned (Value.agg #[Value.int IntKind.i64 x19, Value.int IntKind.i64 x20, Value.int IntKind.i64 x21, Value.int IntKind.i64 x22]) ∧
 Calls Proofs.Try.prog 14 #[Value.slice va vn vc] w18 fun (e23 : Ending) (w24 : World) =>
 ∃ (x25 : Int),
 ∃ (x26 : Int),
 ∃ (x27 : Int),
 ∃ (x28 : Int),
 e23 = Ending.returned (Value.agg #[Value.int IntKind.i64 x25, Value.int IntKind.i64 x26, Value.int IntKind.i64 x27, Value.int IntKind.i64 x28]) ∧
 ((!(x19 == x25 && (x20 == x26 && (x21 == x27 && (x22 == x28 && true))))) = true → R (Ending.returned (Value.bool false)) w24) ∧
 ((!(x19 == x25 && (x20 == x26 && (x21 == x27 && (x22 == x28 && true))))) = false → J16 () w24)) ∧
 ((x15 == 0) = false → J16 () w11)) ∧
 ∀ (w29 : World),
 J16 () w29 →
 ((x9 != 0) = true →
 (((↑n7 : Int) == 0) = true →
 Calls Proofs.Try.prog 11 #[] w29 fun (e30 : Ending) (w31 : World) => ∃ (b32 : Bool), e30 = Ending.returned (Value.bool b32) ∧ R (Ending.returned (Value.bool b32)) w31) ∧
 (((↑n7 : Int) == 0) = false → R (Ending.returned (Value.bool false)) w29)) ∧
 ((x9 != 0) = false →
 Calls Proofs.Try.prog 14 #[Value.slice a6 n7 n8] w29 fun (e33 : Ending) (w34 : World) =>
 ∃ (x35 : Int),
 ∃ (x36 : Int),
 ∃ (x37 : Int),
 ∃ (x38 : Int),
 e33 = Ending.returned (Value.agg #[Value.int IntKind.i64 x35, Value.int IntKind.i64 x36, Value.int IntKind.i64 x37, Value.int IntKind.i64 x38]) ∧
 ∀ (n39 : Nat),
 w34.heap.size ≤ n39 →
 ∃ (J40 : Int × Int × Int × Int × Int × Unit → World → Prop),
 ∃ (J41 : Int × Int × Int × Int × Int × Unit → World → Nat),
 (∀ (w42 : World), Evo [n39] w34 w42 → Under [n39] w42 → J40 (0, x35, x36, x37, x38, ()) w42) ∧
 ∀ (x43 x44 x45 x46 x47 : Int) (w48 : World),
 J40 (x43, x44, x45, x46, x47, ()) w48 →
 (decide (x43 < (↑opsn : Int)) = true →
 ∃ (ad49 : Addr),
 Gives Proofs.Try.prog (Instr.indexAt 22 (Value.slice opsa opsn opsc) (Value.int IntKind.i64 x43)) (Value.pointer (some ad49)) ∧
 ∃ (x50 : Int),
 Reads Proofs.Try.prog [] (Instr.loadAt 3 (Value.pointer (some ad49))) w48 (Value.int IntKind.i64 x50) ∧
 ((x50 == 1) = true →
 ∃ (ad51 : Addr),
 Gives Proofs.Try.prog (Instr.indexAt 22 (Value.slice opsa opsn opsc) (Value.int IntKind.i64 x43)) (Value.pointer (some ad51)) ∧
 ∃ (a52 : Option Addr),
 ∃ (n53 : Nat),
 ∃ (n54 : Nat),
 Reads Proofs.Try.prog [] (Instr.loadAt 26 (Value.pointer (some (Addr.mk ad51.block (ad51.off + 2) none)))) w48 (Value.slice a52 n53 n54) ∧
 (∀ (w55 : World),
 Bel w48 w55 →
 Under [n39] w55 →
 Calls Proofs.Try.prog 14 #[Value.slice a52 n53 n54] w55 fun (e56 : Ending) (w57 : World) =>
 ∃ (x58 : Int),
 ∃ (x59 : Int),
 ∃ (x60 : Int),
 ∃ (x61 : Int),
 e56 =
 Ending.returned
 (Value.agg
 #[Value.int IntKind.i64 x58, Value.int IntKind.i64 x59, Value.int IntKind.i64 x60, Value.int IntKind.i64 x61]) ∧
 Keeps [n39] w55 w57 ∧
 (Calls Proofs.Try.prog 15
 #[Value.agg
 #[Value.int IntKind.i64 x44, Value.int IntKind.i64 x45, Value.int IntKind.i64 x46, Value.int IntKind.i64 x47],
 Value.agg
 #[Value.int IntKind.i64 x58, Value.int IntKind.i64 x59, Value.int IntKind.i64 x60, Value.int IntKind.i64 x61]]
 w57 fun (e62 : Ending) (w63 : World) =>
 ∃ (x64 : Int),
 ∃ (x65 : Int),
 ∃ (x66 : Int),
 ∃ (x67 : Int),
 ∃ (b68 : Bool),
 e62 =
 Ending.returned
 (Value.tuple
 #[Value.agg
 #[Value.int IntKind.i64 x64, Value.int IntKind.i64 x65, Value.int IntKind.i64 x66,
 Value.int IntKind.i64 x67],
 Value.bool b68]) ∧
 Keeps [n39] w57 w63 ∧
 ∀ (n69 : Nat),
 w63.heap.size ≤ n69 →
 ((!b68) = true →
 ∀ (w70 : World),
 Evo [n69] w63 w70 → Under [n39, n69] w70 → R (Ending.returned (Value.bool false)) w70) ∧
 ((!b68) = false →
 ∀ (w71 : World),
 Evo [n39, n69] w63 w71 →
 Under [n39, n69] w71 →
 J40 (IntKind.i64.wrap (x43 + 1), x64, x65, x66, x67, ()) w71 ∧
 J41 (IntKind.i64.wrap (x43 + 1), x64, x65, x66, x67, ()) w71 <
 J41 (x43, x44, x45, x46, x47, ()) w48)) ∧
 ∀ (n72 : Nat),
 w57.heap.size ≤ n72 →
 ∀ (w73 : World),
 Bel w57 w73 →
 Under [n39, n72] w73 →
 Calls Proofs.Try.prog 15
 #[Value.agg
 #[Value.int IntKind.i64 x44, Value.int IntKind.i64 x45, Value.int IntKind.i64 x46,
 Value.int IntKind.i64 x47],
 Value.agg
 #[Value.int IntKind.i64 x58, Value.int IntKind.i64 x59, Value.int IntKind.i64 x60,
 Value.int IntKind.i64 x61]]
 w73 fun (e74 : Ending) (w75 : World) =>
 ∃ (x76 : Int),
 ∃ (x77 : Int),
 ∃ (x78 : Int),
 ∃ (x79 : Int),
 ∃ (b80 : Bool),
 e74 =
 Ending.returned
 (Value.tuple
 #[Value.agg
 #[Value.int IntKind.i64 x76, Value.int IntKind.i64 x77, Value.int IntKind.i64 x78,
 Value.int IntKind.i64 x79],
 Value.bool b80]) ∧
 Keeps [n39, n72] w73 w75 ∧
 ((!b80) = true →
 ∀ (w81 : World),
 Evo [n72] w75 w81 →
 Under [n39, n72] w81 → R (Ending.returned (Value.bool false)) w81) ∧
 ((!b80) = false →
 ∀ (w82 : World),
 Evo [n39, n72] w75 w82 →
 Under [n39, n72] w82 →
 J40 (IntKind.i64.wrap (x43 + 1), x76, x77, x78, x79, ()) w82 ∧
 J41 (IntKind.i64.wrap (x43 + 1), x76, x77, x78, x79, ()) w82 <
 J41 (x43, x44, x45, x46, x47, ()) w48)) ∧
 ∀ (n83 : Nat),
 w48.heap.size ≤ n83 →
 Reads Proofs.Try.prog [] (Instr.loadAt 26 (Value.pointer (some (Addr.mk ad51.block (ad51.off + 2) none)))) w48
 (Value.slice a52 n53 n54) ∧
 ∀ (w84 : World),
 Bel w48 w84 →
 Under [n39, n83] w84 →
 Calls Proofs.Try.prog 14 #[Value.slice a52 n53 n54] w84 fun (e85 : Ending) (w86 : World) =>
 ∃ (x87 : Int),
 ∃ (x88 : Int),
 ∃ (x89 : Int),
 ∃ (x90 : Int),
 e85 =
 Ending.returned
 (Value.agg
 #[Value.int IntKind.i64 x87, Value.int IntKind.i64 x88, Value.int IntKind.i64 x89,
 Value.int IntKind.i64 x90]) ∧
 Keeps [n39, n83] w84 w86 ∧
 Calls Proofs.Try.prog 15
 #[Value.agg
 #[Value.int IntKind.i64 x44, Value.int IntKind.i64 x45, Value.int IntKind.i64 x46,
 Value.int IntKind.i64 x47],
 Value.agg
 #[Value.int IntKind.i64 x87, Value.int IntKind.i64 x88, Value.int IntKind.i64 x89,
 Value.int IntKind.i64 x90]]
 w86 fun (e91 : Ending) (w92 : World) =>
 ∃ (x93 : Int),
 ∃ (x94 : Int),
 ∃ (x95 : Int),
 ∃ (x96 : Int),
 ∃ (b97 : Bool),
 e91 =
 Ending.returned
 (Value.tuple
 #[Value.agg
 #[Value.int IntKind.i64 x93, Value.int IntKind.i64 x94, Value.int IntKind.i64 x95,
 Value.int IntKind.i64 x96],
 Value.bool b97]) ∧
 Keeps [n39, n83] w86 w92 ∧
 ((!b97) = true →
 ∀ (w98 : World),
 Evo [n83] w92 w98 → Under [n39, n83] w98 → R (Ending.returned (Value.bool false)) w98) ∧
 ((!b97) = false →
 ∀ (w99 : World),
 Evo [n39, n83] w92 w99 →
 Under [n39, n83] w99 →
 J40 (IntKind.i64.wrap (x43 + 1), x93, x94, x95, x96, ()) w99 ∧
 J41 (IntKind.i64.wrap (x43 + 1), x93, x94, x95, x96, ()) w99 <
 J41 (x43, x44, x45, x46, x47, ()) w48)) ∧
 ((x50 == 1) = false →
 J40 (IntKind.i64.wrap (x43 + 1), x44, x45, x46, x47, ()) w48 ∧
 J41 (IntKind.i64.wrap (x43 + 1), x44, x45, x46, x47, ()) w48 < J41 (x43, x44, x45, x46, x47, ()) w48)) ∧
 (decide (x43 < (↑opsn : Int)) = false →
 ∀ (w100 : World),
 Bel w48 w100 →
 Under [n39] w100 →
 Calls Proofs.Try.prog 14 #[Value.slice va vn vc] w100 fun (e101 : Ending) (w102 : World) =>
 ∃ (x103 : Int),
 ∃ (x104 : Int),
 ∃ (x105 : Int),
 ∃ (x106 : Int),
 e101 =
 Ending.returned (Value.agg #[Value.int IntKind.i64 x103, Value.int IntKind.i64 x104, Value.int IntKind.i64 x105, Value.int IntKind.i64 x106]) ∧
 Keeps [n39] w100 w102 ∧
 ((x44 == x103 && (x45 == x104 && (x46 == x105 && (x47 == x106 && true)))) = true →
 Calls Proofs.Try.prog 11 #[] w102 fun (e107 : Ending) (w108 : World) =>
 ∃ (b109 : Bool), e107 = Ending.returned (Value.bool b109) ∧ Keeps [n39] w102 w108 ∧ R (Ending.returned (Value.bool b109)) w108) ∧
 ((x44 == x103 && (x45 == x104 && (x46 == x105 && (x47 == x106 && true)))) = false → R (Ending.returned (Value.bool false)) w102))))
theorem f4_eq (va : Option Addr) (vn : Nat) (vc : Nat) (role : Int) (opsa : Option Addr) (opsn : Nat) (opsc : Nat) (w : World) (R : Ending → World → Prop) : (fnF Go.Proofs.Try.prog h4 Go.Proofs.Try.f4 [Value.slice va vn vc, Value.int IntKind.i64 role, Value.slice opsa opsn opsc] w R).den = f4_vc va vn vc role opsa opsn opsc w R := by kernel_rfl
theorem f4_calls (va : Option Addr) (vn : Nat) (vc : Nat) (role : Int) (opsa : Option Addr) (opsn : Nat) (opsc : Nat) (w : World) (R : Ending → World → Prop) (h : f4_vc va vn vc role opsa opsn opsc w R) : Calls Go.Proofs.Try.prog 4 (List.toArray [Value.slice va vn vc, Value.int IntKind.i64 role, Value.slice opsa opsn opsc]) w R :=
 fn_sound (H := h4) (fn := Go.Proofs.Try.f4) (by kernel_rfl) (by kernel_rfl) (by kernel_rfl) ((f4_eq va vn vc role opsa opsn opsc w R).mpr h)


/-! manciple/manciplelaw15.PoolBack -/
def h5 : Hints := ⟨[], [], [23, 40, 83, 19, 32, 36, 56, 62, 65, 71, 74, 106, 114], [], [], [], [(6, ⟨[], []⟩), (5, ⟨[(40, .bool)], []⟩), (10, ⟨[], []⟩)], [], []⟩
def f5_vc (va : Option Addr) (vn : Nat) (vc : Nat) (role : Int) (some'a : Option Addr) (some'n : Nat) (some'c : Nat) (w : World) (R : Ending → World → Prop) : Prop :=
 Calls Proofs.Try.prog 6 #[Value.slice va vn vc, Value.slice none 0 0] w fun (e1 : Ending) (w2 : World) =>
 ∃ (b3 : Bool),
 e1 = Ending.returned (Value.bool b3) ∧
 ((!b3) = true → R (Ending.returned (Value.bool true)) w2) ∧
 ((!b3) = false →
 (decide ((↑some'n : Int) > 150) = true → R (Ending.returned (Value.bool true)) w2) ∧
 (decide ((↑some'n : Int) > 150) = false →
 Calls Proofs.Try.prog 16 #[Value.slice some'a some'n some'c, Value.int IntKind.i64 0, Value.int IntKind.i64 role] w2 fun (e4 : Ending) (w5 : World) =>
 ∃ (a6 : Option Addr),
 ∃ (n7 : Nat),
 ∃ (n8 : Nat),
 ∃ (b9 : Bool),
 e4 = Ending.returned (Value.tuple #[Value.slice a6 n7 n8, Value.bool b9]) ∧
 ∃ (J10 : Unit → World → Prop),
 (∃ (J11 : Bool × Unit → World → Prop),
 (((!b9) = true → J11 (true, ()) w5) ∧ ((!b9) = false → (decide (role < 1) = true → J11 (true, ()) w5) ∧ (decide (role < 1) = false → J11 ((↑some'n : Int) == 0, ()) w5))) ∧
 ∀ (b12 : Bool) (w13 : World),
 J11 (b12, ()) w13 →
 (b12 = true → Calls Proofs.Try.prog 11 #[] w13 fun (e14 : Ending) (w15 : World) => ∃ (b16 : Bool), e14 = Ending.returned (Value.bool b16) ∧ R (Ending.returned (Value.bool b16)) w15) ∧
 (b12 = false → J10 () w13)) ∧
 ∀ (w17 : World),
 J10 () w17 →
 OpW Proofs.Try.prog
 (valueS
 (Instr.buildSlice 22 2
 #[(0, Value.agg #[Value.int IntKind.i64 2, Value.int IntKind.i64 0, Value.slice some'a some'n some'c]), (1, Value.agg #[Value.int IntKind.i64 3, Value.int IntKind.i64 0, Value.slice a6 n7 n8])]))
 w17 fun (v18 : Value) (w19 : World) =>
 ∃ (a20 : Option Addr),
 ∃ (n21 : Nat),
 ∃ (n22 : Nat),
 v18 = Value.slice a20 n21 n22 ∧
 Calls Proofs.Try.prog 12 #[Value.slice va vn vc, Value.int IntKind.i64 role, Value.slice a20 n21 n22] w19 fun (e23 : Ending) (w24 : World) =>
 ∃ (a25 : Option Addr),
 ∃ (n26 : Nat),
 ∃ (n27 : Nat),
 ∃ (x28 : Int),
 e23 = Ending.returned (Value.tuple #[Value.slice a25 n26 n27, Value.int IntKind.i64 x28]) ∧
 ∃ (J29 : Unit → World → Prop),
 (((x28 == 0) = true →
 Calls Proofs.Try.prog 17 #[Value.slice a25 n26 n27, Value.slice va vn vc] w24 fun (e30 : Ending) (w31 : World) =>
 ∃ (b32 : Bool),
 e30 = Ending.returned (Value.bool b32) ∧
 ((!b32) = true → R (Ending.returned (Value.bool false)) w31) ∧
 ((!b32) = false →
 ((x28 == 30) = true →
 Calls Proofs.Try.prog 18 #[Value.slice va vn vc, Value.slice some'a some'n some'c] w31 fun (e33 : Ending) (w34 : World) =>
 ∃ (b35 : Bool),
 e33 = Ending.returned (Value.bool b35) ∧
 (b35 = true → R (Ending.returned (Value.bool false)) w34) ∧
 (b35 = false →
 ((x28 == 27) = true →
 OpW Proofs.Try.prog (valueS (Instr.buildSlice 64 1 #[(0, Value.int IntKind.i64 0)])) w34 fun (v36 : Value) (w37 : World) =>
 ∃ (a38 : Option Addr),
 ∃ (n39 : Nat),
 ∃ (n40 : Nat),
 v36 = Value.slice a38 n39 n40 ∧
 Calls Proofs.Try.prog 19 #[Value.slice some'a some'n some'c, Value.slice a38 n39 n40] w37 fun (e41 : Ending) (w42 : World) =>
 ∃ (a43 : Option Addr),
 ∃ (n44 : Nat),
 ∃ (n45 : Nat),
 e41 = Ending.returned (Value.slice a43 n44 n45) ∧
 (((↑n44 : Int) == (↑some'n : Int)) = true → R (Ending.returned (Value.bool false)) w42) ∧
 (((↑n44 : Int) == (↑some'n : Int)) = false → J29 () w42)) ∧
 ((x28 == 27) = false → J29 () w34))) ∧
 ((x28 == 30) = false →
 ((x28 == 27) = true →
 OpW Proofs.Try.prog (valueS (Instr.buildSlice 64 1 #[(0, Value.int IntKind.i64 0)])) w31 fun (v46 : Value) (w47 : World) =>
 ∃ (a48 : Option Addr),
 ∃ (n49 : Nat),
 ∃ (n50 : Nat),
 v46 = Value.slice a48 n49 n50 ∧
 Calls Proofs.Try.prog 19 #[Value.slice some'a some'n some'c, Value.slice a48 n49 n50] w47 fun (e51 : Ending) (w52 : World) =>
 ∃ (a53 : Option Addr),
 ∃ (n54 : Nat),
 ∃ (n55 : Nat),
 e51 = Ending.returned (Value.slice a53 n54 n55) ∧
 (((↑n54 : Int) == (↑some'n : Int)) = true → R (Ending.returned (Value.bool false)) w52) ∧
 (((↑n54 : Int) == (↑some'n : Int)) = false → J29 () w52)) ∧
 ((x28 == 27) = false → J29 () w31)))) ∧
 ((x28 == 0) = false →
 ((x28 == 30) = true →
 Calls Proofs.Try.prog 18 #[Value.slice va vn vc, Value.slice some'a some'n some'c] w24 fun (e56 : Ending) (w57 : World) =>
 ∃ (b58 : Bool),
 e56 = Ending.returned (Value.bool b58) ∧
 (b58 = true → R (Ending.returned (Value.bool false)) w57) ∧
 (b58 = false →
 ((x28 == 27) = true →
 OpW Proofs.Try.prog (valueS (Instr.buildSlice 64 1 #[(0, Value.int IntKind.i64 0)])) w57 fun (v59 : Value) (w60 : World) =>
 ∃ (a61 : Option Addr),
 ∃ (n62 : Nat),
 ∃ (n63 : Nat),
 v59 = Value.slice a61 n62 n63 ∧
 Calls Proofs.Try.prog 19 #[Value.slice some'a some'n some'c, Value.slice a61 n62 n63] w60 fun (e64 : Ending) (w65 : World) =>
 ∃ (a66 : Option Addr),
 ∃ (n67 : Nat),
 ∃ (n68 : Nat),
 e64 = Ending.returned (Value.slice a66 n67 n68) ∧
 (((↑n67 : Int) == (↑some'n : Int)) = true → R (Ending.returned (Value.bool false)) w65) ∧
 (((↑n67 : Int) == (↑some'n : Int)) = false → J29 () w65)) ∧
 ((x28 == 27) = false → J29 () w57))) ∧
 ((x28 == 30) = false →
 ((x28 == 27) = true →
 OpW Proofs.Try.prog (valueS (Instr.buildSlice 64 1 #[(0, Value.int IntKind.i64 0)])) w24 fun (v69 : Value) (w70 : World) =>
 ∃ (a71 : Option Addr),
 ∃ (n72 : Nat),
 ∃ (n73 : Nat),
 v69 = Value.slice a71 n72 n73 ∧
 Calls Proofs.Try.prog 19 #[Value.slice some'a some'n some'c, Value.slice a71 n72 n73] w70 fun (e74 : Ending) (w75 : World) =>
 ∃ (a76 : Option Addr),
 ∃ (n77 : Nat),
 ∃ (n78 : Nat),
 e74 = Ending.returned (Value.slice a76 n77 n78) ∧
 (((↑n77 : Int) == (↑some'n : Int)) = true → R (Ending.returned (Value.bool false)) w75) ∧
 (((↑n77 : Int) == (↑some'n : Int)) = false → J29 () w75)) ∧
 ((x28 == 27) = false → J29 () w24)))) ∧
 ∀ (w79 : World),
 J29 () w79 →
 OpW Proofs.Try.prog (valueS (Instr.buildSlice 22 1 #[(0, Value.agg #[Value.int IntKind.i64 1, Value.int IntKind.i64 1, Value.slice some'a some'n some'c])])) w79
 fun (v80 : Value) (w81 : World) =>
 ∃ (a82 : Option Addr),
 ∃ (n83 : Nat),
 ∃ (n84 : Nat),
 v80 = Value.slice a82 n83 n84 ∧
 Calls Proofs.Try.prog 12 #[Value.slice va vn vc, Value.int IntKind.i64 role, Value.slice a82 n83 n84] w81 fun (e85 : Ending) (w86 : World) =>
 ∃ (a87 : Option Addr),
 ∃ (n88 : Nat),
 ∃ (n89 : Nat),
 ∃ (x90 : Int),
 e85 = Ending.returned (Value.tuple #[Value.slice a87 n88 n89, Value.int IntKind.i64 x90]) ∧
 OpW Proofs.Try.prog
 (valueS
 (Instr.buildSlice 22 2
 #[(0, Value.agg #[Value.int IntKind.i64 1, Value.int IntKind.i64 1, Value.slice some'a some'n some'c]),
 (1, Value.agg #[Value.int IntKind.i64 1, Value.int IntKind.i64 2, Value.slice some'a some'n some'c])]))
 w86 fun (v91 : Value) (w92 : World) =>
 ∃ (a93 : Option Addr),
 ∃ (n94 : Nat),
 ∃ (n95 : Nat),
 v91 = Value.slice a93 n94 n95 ∧
 Calls Proofs.Try.prog 12 #[Value.slice va vn vc, Value.int IntKind.i64 role, Value.slice a93 n94 n95] w92 fun (e96 : Ending) (w97 : World) =>
 ∃ (a98 : Option Addr),
 ∃ (n99 : Nat),
 ∃ (n100 : Nat),
 ∃ (x101 : Int),
 e96 = Ending.returned (Value.tuple #[Value.slice a98 n99 n100, Value.int IntKind.i64 x101]) ∧
 ((x90 != 0) = true →
 Calls Proofs.Try.prog 11 #[] w97 fun (e102 : Ending) (w103 : World) =>
 ∃ (b104 : Bool), e102 = Ending.returned (Value.bool b104) ∧ R (Ending.returned (Value.bool b104)) w103) ∧
 ((x90 != 0) = false →
 Calls Proofs.Try.prog 18 #[Value.slice a87 n88 n89, Value.slice some'a some'n some'c] w97 fun (e105 : Ending) (w106 : World) =>
 ∃ (b107 : Bool),
 e105 = Ending.returned (Value.bool b107) ∧
 (((x101 == 0) == b107) = true →
 Calls Proofs.Try.prog 11 #[] w106 fun (e108 : Ending) (w109 : World) =>
 ∃ (b110 : Bool), e108 = Ending.returned (Value.bool b110) ∧ R (Ending.returned (Value.bool b110)) w109) ∧
 (((x101 == 0) == b107) = false → R (Ending.returned (Value.bool false)) w106))))
theorem f5_eq (va : Option Addr) (vn : Nat) (vc : Nat) (role : Int) (some'a : Option Addr) (some'n : Nat) (some'c : Nat) (w : World) (R : Ending → World → Prop) : (fnF Go.Proofs.Try.prog h5 Go.Proofs.Try.f5 [Value.slice va vn vc, Value.int IntKind.i64 role, Value.slice some'a some'n some'c] w R).den = f5_vc va vn vc role some'a some'n some'c w R := by kernel_rfl
theorem f5_calls (va : Option Addr) (vn : Nat) (vc : Nat) (role : Int) (some'a : Option Addr) (some'n : Nat) (some'c : Nat) (w : World) (R : Ending → World → Prop) (h : f5_vc va vn vc role some'a some'n some'c w R) : Calls Go.Proofs.Try.prog 5 (List.toArray [Value.slice va vn vc, Value.int IntKind.i64 role, Value.slice some'a some'n some'c]) w R :=
 fn_sound (H := h5) (fn := Go.Proofs.Try.f5) (by kernel_rfl) (by kernel_rfl) (by kernel_rfl) ((f5_eq va vn vc role some'a some'n some'c w R).mpr h)

end Vce

/- PoolSums: what is left of each kind. -/
set_option maxRecDepth 20000
set_option maxHeartbeats 1000000
namespace Go.Vc.V
open Go Go.Vc Go.RowKit Go.Proofs Vce

variable {w W W' : World} {M : Nat → Prop} {gs : List Nat}

/-- Nothing foreign in an operation: all its parts are of the role it takes of, but for a launch. -/
theorem may_from {kind role r : Int} (hk : okK kind = true) (h1 : kind ≠ 1) (h : may kind role r = true) : r = fromR kind role := by
  unfold okK at hk
  have hk := of_decide_eq_true hk
  unfold may fromR at *
  rw [if_neg h1] at h
  by_cases h2 : kind = 2
  · rw [if_pos h2] at h
    rw [if_neg (by omega)]
    exact of_decide_eq_true h
  · rw [if_neg h2] at h
    rw [if_pos (by omega)]
    exact of_decide_eq_true h
theorem not_foreign {role : Int} {ops : List OpT} (h : foreign role ops = false) {o : OpT} (ho : o ∈ ops) (hk : okK o.1 = true) {p : PartT} (hp : p ∈ o.2.2) : may o.1 role p.2.1 = true := by
  cases hm : may o.1 role p.2.1 with
  | true => rfl
  | false =>
    have : foreign role ops = true := by
      unfold foreign
      rw [List.any_eq_true]
      refine ⟨o, ho, ?_⟩
      unfold foreignO
      rw [hk, Bool.true_and, List.any_eq_true]
      exact ⟨p, hp, by rw [hm]; rfl⟩
    rw [h] at this
    cases this
/-- What is moved is as much. -/
theorem do_sum {kind role : Int} {rest v : List PartT} (hk : okK kind = true) (hr : 1 ≤ role ∧ role ≤ 32) (hm : ∀ p ∈ v, may kind role p.2.1 = true) (h : (doL kind role rest v).2 = 0) (k : Int) : sumK k (doL kind role rest v).1 + (if kind = 1 then sumK k v else 0) = sumK k rest := by
  have hk' := of_decide_eq_true (show decide (1 ≤ kind ∧ kind ≤ 3) = true from hk)
  unfold doL at h ⊢
  split
  · rename_i c
    rw [if_pos c] at h
    obtain ⟨d, hd⟩ := Option.isSome_iff_exists.1 c.2.2
    have hs := vsub_amt c.1 c.2.1 hd
    have hsk := hs.2.2 k
    rw [hd] at h ⊢
    split
    · rename_i c2
      have h1 : kind = 1 := by
        unfold toR at c2
        split at c2
        · assumption
        · split at c2 <;> omega
      rw [if_pos h1]
      show sumK k d + _ = _
      omega
    · rename_i c2
      rw [if_neg c2] at h
      have h1 : kind ≠ 1 := fun e => c2 (by rw [show toR kind role = -1 from if_pos e]; decide)
      have hfr : ∀ p ∈ v, p.2.1 = fromR kind role := fun p hp => may_from hk h1 (hm p hp)
      have hf : 0 ≤ fromR kind role ∧ fromR kind role ≤ 32 := by unfold fromR; split <;> omega
      have ht : 0 ≤ toR kind role ∧ toR kind role ≤ 32 := by
        rw [show toR kind role = if kind = 2 then role else 0 from if_neg h1]
        split <;> omega
      rw [vmove_all c.2.1 hfr hf ht] at h ⊢
      split
      · rename_i c3
        obtain ⟨e, he⟩ := Option.isSome_iff_exists.1 c3.2
        have ha := (vadd_amt hs.1 c3.1 he).2.2 k
        rw [he]
        show sumK k e + 0 = _
        have := sumK_role k (toR kind role) v
        simp only [vout, Option.getD_some] at ha
        omega
      · rename_i c3
        rw [if_neg c3] at h
        cases h
  · rename_i c
    rw [if_neg c] at h
    cases h
/-- Of a kind, what is launched. -/
def goneK (k : Int) : List OpT → Int
  | [] => 0
  | o :: r => (if o.1 = 1 then sumK k o.2.2 else 0) + goneK k r
theorem gone_append (k : Int) : ∀ a b : List OpT, goneK k (a ++ b) = goneK k a + goneK k b
  | [], b => by simp [goneK]
  | o :: a, b => by simp only [List.cons_append, goneK, gone_append k a b]; omega
theorem gone_take {k : Int} {ops : List OpT} {i : Nat} {o : OpT} (ho : ops[i]? = some o) : goneK k (ops.take (i + 1)) = goneK k (ops.take i) + if o.1 = 1 then sumK k o.2.2 else 0 := by
  rw [List.take_add_one, ho, gone_append]
  simp [goneK]
theorem gone_nonneg {k : Int} : ∀ {ops : List OpT}, (∀ o ∈ ops, vecB o.2.2 = true) → 0 ≤ goneK k ops
  | [], _ => Int.le_refl _
  | o :: r, h => by
    have ih := gone_nonneg (k := k) fun x hx => h x (List.mem_cons_of_mem _ hx)
    have := (vec_bound (k := k) (h o (by simp))).1
    rw [goneK]
    split <;> omega
theorem gone_le {k : Int} {ops : List OpT} (h : ∀ o ∈ ops, vecB o.2.2 = true) (i : Nat) : 0 ≤ goneK k (ops.take i) ∧ goneK k (ops.take i) ≤ goneK k ops := by
  have h1 := gone_append k (ops.take i) (ops.drop i)
  rw [List.take_append_drop] at h1
  have h2 := gone_nonneg (k := k) (ops := ops.drop i) fun o ho => h o (List.mem_of_mem_drop ho)
  have h3 := gone_nonneg (k := k) (ops := ops.take i) fun o ho => h o (List.mem_of_mem_take ho)
  omega
theorem steps_vec {role but : Int} : ∀ {ops : List OpT} {rest : List PartT}, vecB rest = true → vecB (stepsL role but rest ops).1 = true
  | [], rest, h => h
  | o :: r, rest, h => by
    rw [stepsL]
    split
    · exact steps_vec h
    · split
      · exact steps_vec doL_vec
      · exact doL_vec
theorem steps_err {role but : Int} : ∀ {ops : List OpT} {rest : List PartT}, (stepsL role but rest ops).2 ≠ 0 → (stepsL role but rest ops).1 = []
  | [], rest, h => absurd rfl h
  | o :: r, rest, h => by
    rw [stepsL] at h ⊢
    split
    · rename_i c
      rw [if_pos c] at h
      exact steps_err h
    · rename_i c
      rw [if_neg c] at h
      split
      · rename_i c2
        rw [if_pos c2] at h
        exact steps_err h
      · rename_i c2
        exact doL_err c2
theorem steps_sum {role but k : Int} (hr : 1 ≤ role ∧ role ≤ 32) : ∀ {ops : List OpT} {rest : List PartT}, (∀ o ∈ ops, okK o.1 = true ∧ ∀ p ∈ o.2.2, may o.1 role p.2.1 = true) → (stepsL role but rest ops).2 = 0 → sumK k (stepsL role but rest ops).1 + (if but = 1 then 0 else goneK k ops) = sumK k rest
  | [], rest, _, _ => by simp [stepsL, goneK]
  | o :: r, rest, hm, h => by
    have ho := hm o (by simp)
    have hm := fun x hx => hm x (List.mem_cons_of_mem _ hx)
    rw [stepsL] at h ⊢
    split
    · rename_i c
      rw [if_pos c] at h
      have := steps_sum hr hm h (k := k)
      by_cases hb : but = 1
      · rw [if_pos hb] at this ⊢
        exact this
      · rw [if_neg hb] at this ⊢
        rw [goneK, if_neg (by omega)]
        omega
    · rename_i c
      rw [if_neg c] at h
      split
      · rename_i c2
        rw [if_pos c2] at h
        have := steps_sum hr hm h (k := k)
        have hd := do_sum ho.1 hr ho.2 c2 k
        by_cases hb : but = 1
        · rw [if_pos hb] at this ⊢
          rw [if_neg (by omega)] at hd
          omega
        · rw [if_neg hb] at this ⊢
          rw [goneK]
          omega
      · rename_i c2
        rw [if_neg c2] at h
        exact absurd h c2
theorem run_err {all : List PartT} {role but : Int} {ops : List OpT} (h : (runL all role ops but).2 ≠ 0) : (runL all role ops but).1 = [] := by
  unfold runL at h ⊢
  split
  · rfl
  · rename_i c
    rw [if_neg c] at h
    exact steps_err h
theorem run_ok {all : List PartT} {role but : Int} {ops : List OpT} (h : (runL all role ops but).2 = 0) : checkL all role ops = 0 ∧ runL all role ops but = stepsL role but all ops := by
  unfold runL at h ⊢
  split
  · rename_i c
    rw [if_pos c] at h
    exact absurd h c
  · rename_i c
    exact ⟨by omega, rfl⟩
theorem run_sum {all : List PartT} {role but : Int} {ops : List OpT} (h : (runL all role ops but).2 = 0) : vecB all = true ∧ vecB (runL all role ops but).1 = true ∧ (∀ o ∈ ops, vecB o.2.2 = true) ∧ ∀ k, sumK k (runL all role ops but).1 + (if but = 1 then 0 else goneK k ops) = sumK k all := by
  obtain ⟨hc, hs⟩ := run_ok h
  obtain ⟨hv, h1, h2, hf, ho⟩ := check_ok hc
  rw [hs] at h ⊢
  exact ⟨hv, steps_vec hv, fun o hx => (ho o hx).2.2, fun k => steps_sum ⟨h1, h2⟩ (fun o hx => ⟨(ho o hx).1, fun p hp => not_foreign hf hx (ho o hx).1 hp⟩) h⟩

theorem c14v {l : List PartT} {a : Option Addr} {n c : Nat} (w : World) (hv : vecB l = true) (hs : SlE w 3 partE l a n c) : Ret Try.prog 14 #[.slice a n c] w (arrV (sumK 0 l) (sumK 1 l) (sumK 2 l) (sumK 3 l)) := by
  have := c14 w hs
  rwa [ofV, if_pos hv] at this
theorem law4 {v : List PartT} {ops : List OpT} {a b : Option Addr} {n c m d : Nat} (role : Int) (W : World) (hv : SlE W 3 partE v b m d) (hs : OpsR W ops a n c) : Ret Try.prog 4 #[.slice b m d, .int .i64 role, .slice a n c] W (.bool true) := by
  intro R h
  refine f4_calls _ _ _ role a n c W R ?_
  unfold f4_vc
  refine at_callb (At.refl W) (c6 W hv hs) fun w2 hA _ hb2 => ⟨_, rfl, brNB (fun _ => leaf h hA rfl) (fun hf => ?_)⟩
  obtain ⟨hlv, hlo, hlp⟩ := few_ok hf
  have hv := hv.call hb2
  have hs := OpsR_call hs hb2
  refine at_callq hA (c12 role w2 hv hs (by omega)) fun u w5 hA _ hb5 ⟨s, e, hrow⟩ => ?_
  subst e
  have ho5 : OwnL W [] w5 55 3 partE s (runL v role ops 0).1 := OwnF.ret (‹AtF W noB [] w2›) hrow rfl rfl
  obtain ⟨a6, d6, rfl, s6⟩ := ho5.slice fun _ _ => rfl
  refine ⟨_, _, _, _, rfl, ?_⟩
  have hv := hv.call hb5
  have hs := OpsR_call hs hb5
  refine at_callq hA (c13 role w5 hv hs (by omega)) fun u w11 hA _ hb11 ⟨s, e, hrow⟩ => ?_
  subst e
  have ho11 : OwnL W [] w11 55 3 partE s (runL v role ops 1).1 := OwnF.ret (‹AtF W noB [] w5›) hrow rfl rfl
  obtain ⟨a12, d12, rfl, s12⟩ := ho11.slice fun _ _ => rfl
  have hv := hv.call hb11
  have hs := OpsR_call hs hb11
  have s6 := s6.call hb11
  refine ⟨_, _, _, _, rfl, fun _ W' => AtF W noB [] W' ∧ Bel w11 W', ⟨brE (fun he2 => ?_) (fun _ => ⟨hA, (At.refl w11).below⟩), ?_⟩⟩
  · obtain ⟨hvv, hvr, _, hsum⟩ := run_sum he2
    simp only [if_true, Int.add_zero] at hsum
    refine at_callb hA (c14v w11 hvr s12) fun w18 hA _ hb18 => ⟨_, _, _, _, rfl, ?_⟩
    refine at_callb hA (c14v w18 hvv (hv.call hb18)) fun w24 hA _ hb24 => ⟨_, _, _, _, rfl, ?_⟩
    rw [hsum 0, hsum 1, hsum 2, hsum 3]
    exact ⟨fun e => by simp at e, fun _ => ⟨hA, hb18.trans hb24⟩⟩
  rintro w29 ⟨hA, hb29⟩
  have hv := hv.call hb29
  have hs := OpsR_call hs hb29
  have s6 := s6.call hb29
  refine brN (fun he1 => brE (fun _ => ?_) (fun hne => ?_)) (fun he1 => ?_)
  · exact at_callb hA (c11 w29) fun w31 hA _ _ => ⟨_, rfl, leaf h hA rfl⟩
  · rw [run_err he1] at hne
    exact absurd rfl hne
  obtain ⟨hvv, hvr, hvo, hsum⟩ := run_sum he1
  generalize (runL v role ops 0).1 = rest at hvr hsum s6
  have hn := hs.1
  have hbd : ∀ k, 0 ≤ sumK k rest ∧ sumK k v ≤ 297237575406452736 := fun k => ⟨(vec_bound hvr).1, (vec_bound hvv).2⟩
  refine at_callb hA (c14v w29 hvr s6) fun w34 hA _ hb34 => ⟨_, _, _, _, rfl, ?_⟩
  have hv := hv.call hb34
  have hs := OpsR_call hs hb34
  have hAW := hA.below
  intro n39 hn39
  refine ⟨fun v W' => At w34 [n39] W' ∧ ∃ i : Nat, v.1 = i ∧ i ≤ ops.length ∧ v.2.1 = sumK 0 rest + goneK 0 (ops.take i) ∧ v.2.2.1 = sumK 1 rest + goneK 1 (ops.take i) ∧ v.2.2.2.1 = sumK 2 rest + goneK 2 (ops.take i) ∧ v.2.2.2.2.1 = sumK 3 rest + goneK 3 (ops.take i), fun v _ => (n - v.1).toNat, ⟨fun w42 hev hun => ⟨(At.refl w34).evo (by simpa using hn39) hev hun, 0, rfl, Nat.zero_le _, by simp [goneK], by simp [goneK], by simp [goneK], by simp [goneK]⟩, ?_⟩⟩
  rintro x43 x44 x45 x46 x47 w48 ⟨hA, i, hi, hil, e0, e1, e2, e3⟩
  simp only at hi e0 e1 e2 e3
  subst hi e0 e1 e2 e3
  refine brD (fun hlt => ?_) (fun hge => ?_)
  · obtain ⟨o, ho⟩ : ∃ x, ops[i]? = some x := ⟨_, List.getElem?_eq_getElem (by omega)⟩
    obtain ⟨ad, a', n', c', g1, el, hvo1⟩ := op_at (OpsR_call hs hA.below) ho
    have hvo' := hvo o (List.mem_of_getElem? ho)
    refine ⟨ad, g1, _, el.one (by kernel_rfl) (by simp), ?_⟩
    have htk : ∀ k, goneK k (ops.take (i + 1)) = goneK k (ops.take i) + if o.1 = 1 then sumK k o.2.2 else 0 := fun k => gone_take ho
    rw [succ_i i (by omega)]
    refine brE (fun h1 => ?_) (fun h1 => ?_)
    · have htk : ∀ k, goneK k (ops.take (i + 1)) = goneK k (ops.take i) + sumK k o.2.2 := fun k => by rw [htk, if_pos h1]
      have hle1 : ∀ k, 0 ≤ goneK k (ops.take i) ∧ goneK k (ops.take i) ≤ goneK k ops := fun k => gone_le hvo i
      have hle2 : ∀ k, goneK k (ops.take (i + 1)) ≤ goneK k ops := fun k => (gone_le hvo (i + 1)).2
      have hpos : ∀ k, 0 ≤ sumK k o.2.2 := fun k => (vec_bound hvo').1
      have hsum : ∀ k, sumK k rest + goneK k ops = sumK k v := fun k => by have := hsum k; rwa [if_neg (by decide)] at this
      have hall : ∀ k, (0 ≤ sumK k rest + goneK k (ops.take i) ∧ sumK k rest + goneK k (ops.take i) ≤ 1152921504606846976) ∧ (0 ≤ sumK k o.2.2 ∧ sumK k o.2.2 ≤ 1152921504606846976) ∧ (0 ≤ sumK k rest + goneK k (ops.take i) + sumK k o.2.2 ∧ sumK k rest + goneK k (ops.take i) + sumK k o.2.2 ≤ 1152921504606846976) := fun k => by
        have h1 := hle1 k
        have h2 := hle2 k
        have h3 := hpos k
        have h4 := hsum k
        have h5 := hbd k
        have h6 := htk k
        omega
      have add : ∀ w, Ret Try.prog 15 #[arrV (sumK 0 rest + goneK 0 (ops.take i)) (sumK 1 rest + goneK 1 (ops.take i)) (sumK 2 rest + goneK 2 (ops.take i)) (sumK 3 rest + goneK 3 (ops.take i)), arrV (sumK 0 o.2.2) (sumK 1 o.2.2) (sumK 2 o.2.2) (sumK 3 o.2.2)] w (pairA (sumK 0 rest + goneK 0 (ops.take (i + 1))) (sumK 1 rest + goneK 1 (ops.take (i + 1))) (sumK 2 rest + goneK 2 (ops.take (i + 1))) (sumK 3 rest + goneK 3 (ops.take (i + 1))) true) := fun w => by
        have := c15 (sumK 0 rest + goneK 0 (ops.take i)) (sumK 1 rest + goneK 1 (ops.take i)) (sumK 2 rest + goneK 2 (ops.take i)) (sumK 3 rest + goneK 3 (ops.take i)) (sumK 0 o.2.2) (sumK 1 o.2.2) (sumK 2 o.2.2) (sumK 3 o.2.2) w
        rw [sumA, if_pos ⟨⟨(hall 0).1, (hall 1).1, (hall 2).1, (hall 3).1⟩, ⟨(hall 0).2.1, (hall 1).2.1, (hall 2).2.1, (hall 3).2.1⟩, ⟨(hall 0).2.2, (hall 1).2.2, (hall 2).2.2, (hall 3).2.2⟩⟩] at this
        rw [htk 0, htk 1, htk 2, htk 3, ← Int.add_assoc, ← Int.add_assoc, ← Int.add_assoc, ← Int.add_assoc]
        exact this
      have r26 := (el.sub (o := 2) (by decide)).one (P := Try.prog) (ds := []) (te := 26) (by kernel_rfl) (by simp)
      refine ⟨ad, g1, _, _, _, r26, ⟨?_, ?_⟩⟩
      · intro w55 hb55 hun
        have hA : At w34 [n39] w55 := ⟨(hA.call hb55).chg, hun⟩
        refine at_callb hA (c14v w55 hvo' (hvo1.call hb55)) fun w57 hA hk57 hb57 => ⟨_, _, _, _, rfl, hk57, ⟨?_, ?_⟩⟩
        · refine at_callb hA (add w57) fun w63 hA hk63 hb63 => ⟨_, _, _, _, _, rfl, hk63, fun n69 hn69 => brNB (fun e => by cases e) (fun _ w71 hev hun => ?_)⟩
          refine ⟨⟨(hA.evo (fun d hd => ?_) hev hun).sub (by simp), i + 1, rfl, by omega, rfl, rfl, rfl, rfl⟩, by simp only; omega⟩
          have := hA.size
          simp at hd
          omega
        · intro n72 hn72 w73 hb73 hun
          have hA : At w34 [n39, n72] w73 := ⟨(hA.call hb73).chg, hun⟩
          refine at_callb hA (add w73) fun w75 hA hk75 hb75 => ⟨_, _, _, _, _, rfl, hk75, brNB (fun e => by cases e) (fun _ w82 hev hun => ?_)⟩
          have hsz := (‹At w34 [n39] w57›).size
          refine ⟨⟨(hA.evo (fun d hd => ?_) hev hun).sub (by simp), i + 1, rfl, by omega, rfl, rfl, rfl, rfl⟩, by simp only; omega⟩
          simp at hd
          omega
      · intro n83 hn83
        refine ⟨r26, fun w84 hb84 hun => ?_⟩
        have hsz := hA.size
        have hA : At w34 [n39, n83] w84 := ⟨(hA.call hb84).chg, hun⟩
        refine at_callb hA (c14v w84 hvo' (hvo1.call hb84)) fun w86 hA hk86 hb86 => ⟨_, _, _, _, rfl, hk86, ?_⟩
        refine at_callb hA (add w86) fun w92 hA hk92 hb92 => ⟨_, _, _, _, _, rfl, hk92, brNB (fun e => by cases e) (fun _ w99 hev hun => ?_)⟩
        refine ⟨⟨(hA.evo (fun d hd => ?_) hev hun).sub (by simp), i + 1, rfl, by omega, rfl, rfl, rfl, rfl⟩, by simp only; omega⟩
        simp at hd
        omega
    · have htk : ∀ k, goneK k (ops.take (i + 1)) = goneK k (ops.take i) := fun k => by rw [htk, if_neg h1, Int.add_zero]
      exact ⟨⟨hA, i + 1, rfl, by omega, by simp only; rw [htk], by simp only; rw [htk], by simp only; rw [htk], by simp only; rw [htk]⟩, by simp only; omega⟩
  · intro w100 hb100 hun
    have hA : At w34 [n39] w100 := ⟨(hA.call hb100).chg, hun⟩
    refine at_callb hA (c14v w100 hvv (hv.call hA.below)) fun w102 hA hk hb102 => ⟨_, _, _, _, rfl, hk, ?_⟩
    have hsum : ∀ k, sumK k rest + goneK k ops = sumK k v := fun k => by have := hsum k; rwa [if_neg (by decide)] at this
    rw [show i = ops.length by omega, List.take_length, hsum 0, hsum 1, hsum 2, hsum 3]
    refine ⟨fun _ => ?_, fun e => by simp at e⟩
    refine at_callb hA (c11 w102) fun w108 hA hk _ => ⟨_, rfl, ?_⟩
    exact ⟨hk, h _ (hAW.trans hA.below)⟩
end Go.Vc.V

/- PoolBack: what is reserved, and back again. -/
set_option maxRecDepth 20000
set_option maxHeartbeats 1000000
namespace Go.Vc.V
open Go Go.Vc Go.RowKit Go.Proofs Vce

variable {w W W' : World} {M : Nat → Prop} {gs : List Nat}

theorem move_some {l : List PartT} {f t : Int} (h : (vmove l f t).isSome = true) : vecB l = true ∧ (0 ≤ f ∧ f ≤ 32) ∧ (0 ≤ t ∧ t ≤ 32) := by
  unfold vmove at h
  split at h
  · rename_i c
    unfold slotR at c
    exact ⟨c.1, by omega, by omega⟩
  · cases h
theorem doL_none {kind role : Int} {rest v : List PartT} (h : vsub rest v = none) : doL kind role rest v = ([], 30) := by
  unfold doL
  rw [if_neg]
  rintro ⟨_, _, h3⟩
  rw [h] at h3
  cases h3
theorem doL_launch {role : Int} {rest v c : List PartT} (hr : vecB rest = true) (hv : vecB v = true) (h : vsub rest v = some c) : doL 1 role rest v = (c, 0) := by
  unfold doL
  have ht : toR 1 role = -1 := if_pos rfl
  rw [if_pos ⟨hr, hv, by rw [h]; rfl⟩, ht, if_pos (by decide), h]
  rfl
theorem doL_move {kind role : Int} {rest v c m : List PartT} (hr : vecB rest = true) (hv : vecB v = true) (h : vsub rest v = some c) (ht : ¬ toR kind role < 0) (hm : vmove v (fromR kind role) (toR kind role) = some m) (hmv : vecB m = true) : doL kind role rest v = match vadd c m with
    | some d => (d, 0)
    | none => ([], 31) := by
  unfold doL
  rw [if_pos ⟨hr, hv, by rw [h]; rfl⟩, if_neg ht, h, hm]
  show (if vecB m = true ∧ (vadd c m).isSome = true then (vout (vadd c m), 0) else ([], 31)) = _
  by_cases hx : (vadd c m).isSome = true
  · rw [if_pos ⟨hmv, hx⟩]
    obtain ⟨d, hd⟩ := Option.isSome_iff_exists.1 hx
    rw [hd]
    rfl
  · rw [if_neg fun h3 => hx h3.2]
    have hd : vadd c m = none := by simpa using hx
    rw [hd]

/-- Reserved, and back: all is as it was; or there was too little; or too much. -/
theorem back_steps {v sm : List PartT} {role : Int} (hv : vecB v = true) (hs : vecB sm = true) (hr : 1 ≤ role ∧ role ≤ 32) (h0 : ∀ p ∈ sm, p.2.1 = 0) : let r := stepsL role 0 v [(2, 0, sm), (3, 0, vout (vmove sm 0 role))]; (r.2 = 0 → r.1 = v) ∧ (r.2 = 30 → vsub v sm = none) ∧ r.2 ≠ 27 := by
  intro r
  have hm := vmove_all hs h0 (by omega) (t := role) (by omega)
  have hth : vecB (sm.map fun p => (p.1, role, p.2.2)) = true := mv_vec hs h0 (by omega)
  have hr0 : ∀ p ∈ sm.map fun p => ((p.1, role, p.2.2) : PartT), p.2.1 = role := fun p hp => by
    obtain ⟨q, _, rfl⟩ := List.mem_map.1 hp
    rfl
  have hback : vmove (sm.map fun p => (p.1, role, p.2.2)) role 0 = some sm := by
    rw [vmove_all hth hr0 (by omega) (by omega), List.map_map]
    congr 1
    conv => rhs; rw [← List.map_id sm]
    refine List.map_congr_left fun p hp => ?_
    have := h0 p hp
    obtain ⟨a, b, c⟩ := p
    simp only at this
    subst this
    rfl
  have e1 : r = stepsL role 0 v [(2, 0, sm), (3, 0, sm.map fun p => (p.1, role, p.2.2))] := by
    show stepsL role 0 v [(2, 0, sm), (3, 0, vout (vmove sm 0 role))] = _
    rw [hm]
    rfl
  have ht2 : toR 2 role = role := by unfold toR; rw [if_neg (by decide), if_pos rfl]
  have hf2 : fromR 2 role = 0 := by unfold fromR; rw [if_neg (by decide)]
  have ht3 : toR 3 role = 0 := by unfold toR; rw [if_neg (by decide), if_neg (by decide)]
  have hf3 : fromR 3 role = role := by unfold fromR; rw [if_pos rfl]
  rw [e1]
  simp only [stepsL]
  rw [if_neg (show ¬ (2 : Int) = 0 by decide), if_neg (show ¬ (3 : Int) = 0 by decide)]
  cases hsub : vsub v sm with
  | none =>
    rw [doL_none hsub]
    simp
  | some c =>
    have hc := vsub_amt hv hs hsub
    rw [doL_move hv hs hsub (by rw [ht2]; omega) (by rw [hf2, ht2]; exact hm) hth]
    cases hadd : vadd c (sm.map fun p => (p.1, role, p.2.2)) with
    | none => simp
    | some x =>
      have hx := vadd_amt hc.1 hth hadd
      have hsub2 : (vsub x (sm.map fun p => (p.1, role, p.2.2))).isSome = true := (vsub_iff hx.1 hth).2 fun s => by
        have := hx.2.1 s
        have := (amt_nonneg (s := s) (vecB_iff.1 hc.1).1).1
        omega
      obtain ⟨y, hy⟩ := Option.isSome_iff_exists.1 hsub2
      have hyy := vsub_amt hx.1 hth hy
      have hyc : ∀ s, amt s y = amt s c := fun s => by
        have := hyy.2.1 s
        have := hx.2.1 s
        omega
      have hadd2 : (vadd y sm).isSome = true := (vadd_iff hyy.1 hs).2 fun s => by
        have h1 := hyc s
        have h2 := hc.2.1 s
        have h3 := (amt_nonneg (s := s) (vecB_iff.1 hv).1).2
        simp only [topQ]
        omega
      obtain ⟨z, hz⟩ := Option.isSome_iff_exists.1 hadd2
      have hzz := vadd_amt hyy.1 hs hz
      have hzv : z = v := vec_ext hzz.1 hv fun s => by
        have h1 := hyc s
        have h2 := hc.2.1 s
        have h3 := hzz.2.1 s
        omega
      simp only [if_true]
      rw [doL_move hx.1 hth hy (by rw [ht3]; decide) (by rw [hf3, ht3]; exact hback) hs, hz, hzv]
      simp
theorem back_run {v sm : List PartT} {role : Int} (hs : vecB sm = true) (hr : 1 ≤ role ∧ role ≤ 32) : let r := runL v role [(2, 0, sm), (3, 0, vout (vmove sm 0 role))] 0; (r.2 = 0 → r.1 = v) ∧ (r.2 = 30 → vsub v sm = none) ∧ (r.2 = 27 → ¬ ∀ p ∈ sm, p.2.1 = 0) := by
  intro r
  by_cases hc : checkL v role [(2, 0, sm), (3, 0, vout (vmove sm 0 role))] = 0
  · have hck := check_ok hc
    have h0 : ∀ p ∈ sm, p.2.1 = 0 := fun p hp => by
      have := not_foreign hck.2.2.2.1 (o := (2, 0, sm)) (by simp) rfl hp
      have := may_from (kind := 2) rfl (by decide) this
      rw [this]
      rfl
    have := back_steps hck.1 hs hr h0
    have e : r = stepsL role 0 v [(2, 0, sm), (3, 0, vout (vmove sm 0 role))] := if_neg (by rw [hc]; decide)
    rw [e]
    exact ⟨this.1, this.2.1, fun h => absurd h this.2.2⟩
  · have e : r = ([], checkL v role [(2, 0, sm), (3, 0, vout (vmove sm 0 role))]) := if_pos hc
    rw [e]
    refine ⟨fun h => absurd h hc, fun h => ?_, fun h hall => ?_⟩
    · exfalso
      simp only at h
      unfold checkL at h
      split at h
      · cases h
      · split at h
        · cases h
        · split at h <;> cases h
    · simp only at h
      unfold checkL at h
      split at h
      · cases h
      · split at h
        · cases h
        · split at h
          · rename_i hf
            rw [vmove_all hs hall (by omega) (t := role) (by omega)] at hf
            unfold foreign at hf
            rw [List.any_eq_true] at hf
            obtain ⟨o, ho, hf⟩ := hf
            unfold foreignO at hf
            rw [Bool.and_eq_true, List.any_eq_true] at hf
            obtain ⟨_, p, hp, hm⟩ := hf
            simp at ho
            rcases ho with rfl | rfl
            · have := hall p hp
              unfold may at hm
              simp [this] at hm
            · simp only [vout, Option.getD_some] at hp
              obtain ⟨q, _, rfl⟩ := List.mem_map.1 hp
              unfold may at hm
              simp at hm
          · cases h
/-- Launched once, and once more. -/
theorem once_run {v sm : List PartT} {role : Int} (hs : vecB sm = true) (h : (runL v role [(1, 1, sm)] 0).2 = 0) : vecB (runL v role [(1, 1, sm)] 0).1 = true ∧ ((runL v role [(1, 1, sm), (1, 2, sm)] 0).2 = 0 ↔ (vsub (runL v role [(1, 1, sm)] 0).1 sm).isSome = true) := by
  obtain ⟨hc, e⟩ := run_ok h
  have hck := check_ok hc
  have hc2 : checkL v role [(1, 1, sm), (1, 2, sm)] = 0 := by
    obtain ⟨h1, h2, h3, hf, ho⟩ := hck
    have ho := ho _ (List.mem_singleton.2 rfl)
    have hf1 : foreignO role (1, 1, sm) = false := by
      unfold foreign at hf
      simpa using hf
    have hf2 : foreignO role (1, 2, sm) = false := hf1
    have hb : ∀ i : Int, badO (1, i, sm) = false := fun i => by
      unfold badO
      simp only [hs]
      rw [decide_eq_false ho.2.1]
      rfl
    unfold checkL foreign
    simp only [List.any_cons, List.any_nil, hf1, hf2, hb, Bool.or_false]
    rw [if_neg, if_neg (by decide), if_neg (by decide)]
    rintro (h | h | h)
    · rw [h1] at h; cases h
    · omega
    · omega
  have e2 : runL v role [(1, 1, sm), (1, 2, sm)] 0 = stepsL role 0 v [(1, 1, sm), (1, 2, sm)] := if_neg (by rw [hc2]; decide)
  have s1 : ∀ (i : Int) (rest : List PartT) (ops : List OpT), stepsL role 0 rest ((1, i, sm) :: ops) = if (doL 1 role rest sm).2 = 0 then stepsL role 0 (doL 1 role rest sm).1 ops else doL 1 role rest sm := fun i rest ops => by
    rw [stepsL, if_neg (show ¬ (1 : Int) = 0 by decide)]
  rw [e] at h ⊢
  refine ⟨steps_vec hck.1, ?_⟩
  rw [s1] at h
  rw [e2, s1, s1]
  split at h
  · rename_i hd
    rw [if_pos hd, s1 1 v, if_pos hd]
    simp only [stepsL]
    have hdv : vecB (doL 1 role v sm).1 = true := doL_vec
    generalize (doL 1 role v sm).1 = x at hdv
    cases hx : vsub x sm with
    | none =>
      rw [doL_none hx]
      simp
    | some c =>
      rw [doL_launch hdv hs hx]
      simp
  · rename_i hd
    exact absurd h hd
end Go.Vc.V

/- PoolBack: the walk. -/
set_option maxRecDepth 20000
set_option maxHeartbeats 1000000
namespace Go.Vc.V
open Go Go.Vc Go.RowKit Go.Proofs Vce

variable {w W W' : World} {M : Nat → Prop} {gs : List Nat}

theorem only_len {l : List PartT} (hv : vecB l = true) (h : (onlyL l [0]).length = l.length) : ∀ p ∈ l, p.2.1 = 0 := by
  unfold onlyL at h
  rw [if_pos hv, List.length_filter_eq_length_iff] at h
  intro p hp
  have := h p hp
  simpa using this
theorem back27 {sm : List PartT} {a : Option Addr} {n c : Nat} {x : Int} {R : Ending → World → Prop} {J : World → Prop} (hA : At W [] w) (hv : vecB sm = true) (hl : sm.length ≤ 1000000) (hx : x = 27 → ¬ ∀ p ∈ sm, p.2.1 = 0) (hs : SlE w 3 partE sm a n c) (hJ : ∀ w', At W [] w' → Bel w w' → J w') :
    ((x == 27) = true → OpW Try.prog (valueS (Instr.buildSlice 64 1 #[(0, Value.int .i64 0)])) w fun v w' => ∃ a2 n2 c2, v = .slice a2 n2 c2 ∧ Calls Try.prog 19 #[.slice a n c, .slice a2 n2 c2] w' fun e w2 => ∃ a3 n3 c3, e = .returned (.slice a3 n3 c3) ∧ (((n3 : Int) == (n : Int)) = true → R (.returned (.bool false)) w2) ∧ (((n3 : Int) == (n : Int)) = false → J w2)) ∧ ((x == 27) = false → J w) := by
  have hn := hs.1
  refine brE (fun h27 => ?_) (fun _ => hJ w hA (At.refl w).below)
  refine opw_litL (e' := 3) (f := one) (size := 1) (l := [0]) hA rfl (fun _ _ => rfl) (by decide) (by kernel_rfl) fun g w1 _ hA _ hb1 ho => ⟨_, _, _, rfl, ?_⟩
  refine at_calll hA (c19 w1 (hs.call hb1) (ho.sl fun _ _ => rfl) hl) (fun _ _ => rfl) fun a3 c3 w2 hA _ hb2 _ _ => ⟨_, _, _, rfl, brE (fun he => ?_) (fun _ => hJ _ hA (hb1.trans hb2))⟩
  exact absurd (only_len hv (by omega)) (hx h27)

theorem law5 {v sm : List PartT} {a b : Option Addr} {n c m d : Nat} (role : Int) (W : World) (hv : SlE W 3 partE v b m d) (hs : SlE W 3 partE sm a n c) : Ret Try.prog 5 #[.slice b m d, .int .i64 role, .slice a n c] W (.bool true) := by
  intro R h
  refine f5_calls _ _ _ role a n c W R ?_
  unfold f5_vc
  have hnil : OpsR W [] none 0 0 := ⟨rfl, Nat.le_refl _, Nat.zero_le _, fun _ => rfl, fun i x hx => by simp at hx⟩
  have hn := hs.1
  refine at_callb (At.refl W) (c6 W hv hnil) fun w2 hA _ hb2 => ⟨_, rfl, brNB (fun _ => leaf h hA rfl) (fun hf => brD (fun _ => leaf h hA rfl) (fun hls => ?_))⟩
  obtain ⟨hlv, _, _⟩ := few_ok hf
  have hv := hv.call hb2
  have hs := hs.call hb2
  refine at_calllb hA (c16 0 role w2 hs (by omega)) (fun _ _ => rfl) fun a6 c6 w5 hA _ hb5 ho5 s6 => ⟨_, _, _, _, rfl, ?_⟩
  have hv := hv.call hb5
  have hs := hs.call hb5
  refine ⟨fun _ W' => AtF W noB [] W' ∧ Bel w5 W' ∧ (vmove sm 0 role).isSome = true ∧ 1 ≤ role, ⟨fun x W' => AtF W noB [] W' ∧ Bel w5 W' ∧ (x.1 = false → (vmove sm 0 role).isSome = true ∧ 1 ≤ role), ⟨brNB (fun _ => ⟨hA, (At.refl w5).below, fun e => by cases e⟩) (fun hmv => brD (fun _ => ⟨hA, (At.refl w5).below, fun e => by cases e⟩) (fun h1 => ⟨hA, (At.refl w5).below, fun _ => ⟨hmv, by omega⟩⟩)), ?_⟩⟩, ?_⟩
  · rintro b12 w13 ⟨hA, hb, hx⟩
    refine brB (fun _ => ?_) (fun hb12 => ⟨hA, hb, hx hb12⟩)
    exact at_callb hA (c11 w13) fun w15 hA _ _ => ⟨_, rfl, leaf h hA rfl⟩
  rintro w17 ⟨hA, hb17, hmv, h1⟩
  obtain ⟨hvs, _, hr⟩ := move_some hmv
  have hv := hv.call hb17
  have hs := hs.call hb17
  have s6 := s6.call hb17
  refine opw_litL (e' := 40) (f := rawO) (size := 3) (l := [((2, 0, a, n, c) : RawO), (3, 0, a6, (vout (vmove sm 0 role)).length, c6)]) hA rfl (fun _ _ => rfl) (by decide) (by kernel_rfl) fun g4 w19 _ hA _ hb19 ho4 => ⟨_, _, _, rfl, ?_⟩
  have hv := hv.call hb19
  have hs := hs.call hb19
  have s6 := s6.call hb19
  have sO : OpsR w19 [(2, 0, sm), (3, 0, vout (vmove sm 0 role))] _ _ _ := OpsR_of (ho4.sl fun _ _ => rfl) ⟨rfl, fun i x y hx hy => by
    match i, hx, hy with
    | 0, hx, hy =>
      cases hx
      cases hy
      exact ⟨rfl, rfl, hs⟩
    | 1, hx, hy =>
      cases hx
      cases hy
      exact ⟨rfl, rfl, s6⟩
    | i + 2, hx, _ => simp at hx⟩
  refine at_callq hA (c12 role w19 hv sO (by omega)) fun u w24 hA _ hb24 ⟨s, e, hrow⟩ => ?_
  subst e
  have ho25 : OwnL W [] w24 55 3 partE s (runL v role [(2, 0, sm), (3, 0, vout (vmove sm 0 role))] 0).1 := OwnF.ret (‹AtF W noB [] w19›) hrow rfl rfl
  obtain ⟨a25, d25, rfl, s25⟩ := ho25.slice fun _ _ => rfl
  obtain ⟨r1, r2, r3⟩ := back_run (v := v) hvs ⟨h1, hr.2⟩
  have hv := hv.call hb24
  have hs := hs.call hb24
  generalize runL v role [(2, 0, sm), (3, 0, vout (vmove sm 0 role))] 0 = r at r1 r2 r3 s25
  have no30 : r.2 = 30 → (decide (vecB v = true ∧ vecB sm = true) && (vsub v sm).isSome) = true → False := fun h30 hh => by
    rw [r2 h30, Bool.and_eq_true] at hh
    cases hh.2
  refine ⟨_, _, _, _, rfl, fun _ W' => AtF W noB [] W' ∧ Bel w24 W', ⟨brE (fun he => ?_) (fun _ => ?_), ?_⟩⟩
  · refine at_callb hA (c17 w24 s25 hv) fun w31 hA _ hb31 => ⟨_, rfl, brNB (fun hne => ?_) (fun _ => ?_)⟩
    · exact absurd (r1 he) (of_decide_eq_false hne)
    · exact brE (fun h30 => by omega) (fun _ => back27 hA hvs (by omega) r3 (hs.call hb31) fun w' hA hb => ⟨hA, hb31.trans hb⟩)
  · refine brE (fun h30 => ?_) (fun _ => back27 hA hvs (by omega) r3 hs fun w' hA hb => ⟨hA, hb⟩)
    refine at_callb hA (c18 w24 hv hs (by omega)) fun w57 hA _ hb57 => ⟨_, rfl, brB (fun hh => (no30 h30 hh).elim) (fun _ => ?_)⟩
    exact back27 hA hvs (by omega) r3 (hs.call hb57) fun w' hA hb => ⟨hA, hb57.trans hb⟩
  rintro w79 ⟨hA, hb79⟩
  have hv := hv.call hb79
  have hs := hs.call hb79
  refine opw_litL (e' := 40) (f := rawO) (size := 3) (l := [((1, 1, a, n, c) : RawO)]) hA rfl (fun _ _ => rfl) (by decide) (by kernel_rfl) fun g5 w81 _ hA _ hb81 ho5 => ⟨_, _, _, rfl, ?_⟩
  have hv := hv.call hb81
  have hs := hs.call hb81
  have sO1 : OpsR w81 [(1, 1, sm)] _ _ _ := OpsR_of (ho5.sl fun _ _ => rfl) ⟨rfl, fun i x y hx hy => by
    match i, hx, hy with
    | 0, hx, hy =>
      cases hx
      cases hy
      exact ⟨rfl, rfl, hs⟩
    | i + 1, hx, _ => simp at hx⟩
  refine at_callq hA (c12 role w81 hv sO1 (by omega)) fun u w86 hA _ hb86 ⟨s, e, hrow⟩ => ?_
  subst e
  have ho87 : OwnL W [] w86 55 3 partE s (runL v role [(1, 1, sm)] 0).1 := OwnF.ret (‹AtF W noB [] w81›) hrow rfl rfl
  obtain ⟨a87, d87, rfl, s87⟩ := ho87.slice fun _ _ => rfl
  have hv := hv.call hb86
  have hs := hs.call hb86
  refine ⟨_, _, _, _, rfl, ?_⟩
  refine opw_litL (e' := 40) (f := rawO) (size := 3) (l := [((1, 1, a, n, c) : RawO), (1, 2, a, n, c)]) hA rfl (fun _ _ => rfl) (by decide) (by kernel_rfl) fun g6 w92 _ hA _ hb92 ho6 => ⟨_, _, _, rfl, ?_⟩
  have hv := hv.call hb92
  have hs := hs.call hb92
  have sO2 : OpsR w92 [(1, 1, sm), (1, 2, sm)] _ _ _ := OpsR_of (ho6.sl fun _ _ => rfl) ⟨rfl, fun i x y hx hy => by
    match i, hx, hy with
    | 0, hx, hy =>
      cases hx
      cases hy
      exact ⟨rfl, rfl, hs⟩
    | 1, hx, hy =>
      cases hx
      cases hy
      exact ⟨rfl, rfl, hs⟩
    | i + 2, hx, _ => simp at hx⟩
  refine at_callq hA (c12 role w92 hv sO2 (by omega)) fun u w97 hA _ hb97 ⟨s, e, hrow⟩ => ?_
  subst e
  have ho98 : OwnL W [] w97 55 3 partE s (runL v role [(1, 1, sm), (1, 2, sm)] 0).1 := OwnF.ret (‹AtF W noB [] w92›) hrow rfl rfl
  obtain ⟨a98, d98, rfl, _⟩ := ho98.slice fun _ _ => rfl
  refine ⟨_, _, _, _, rfl, brN (fun _ => ?_) (fun hf => ?_)⟩
  · exact at_callb hA (c11 w97) fun w103 hA _ _ => ⟨_, rfl, leaf h hA rfl⟩
  obtain ⟨hvo, hiff⟩ := once_run hvs hf
  have hlo := vec_len hvo
  refine at_callb hA (c18 w97 ((s87.call hb92).call hb97) (hs.call hb97) (by omega)) fun w106 hA _ _ => ⟨_, rfl, brE (fun _ => ?_) (fun hne => ?_)⟩
  · exact at_callb hA (c11 w106) fun w109 hA _ _ => ⟨_, rfl, leaf h hA rfl⟩
  · refine absurd ?_ hne
    rw [decide_eq_true ⟨hvo, hvs⟩, Bool.true_and, Bool.eq_iff_iff, beq_iff_eq]
    exact hiff
end Go.Vc.V

