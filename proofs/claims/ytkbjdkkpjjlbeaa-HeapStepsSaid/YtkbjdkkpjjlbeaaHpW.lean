/- Own text of this claim: HpW. -/
import Derived.Test.YtkbjdkkpjjlbeaaHp9
set_option maxRecDepth 20000
namespace Go.Vc.H
open Go Go.Vc Go.RowKit Go.Proofs Vcc

variable {w W W' : World} {M : Nat → Prop} {gs : List Nat} {g c r : Nat} {a : Option Addr} {l pl s : List It} {st : Int}

theorem rel_nil : Rel [] [] := ⟨List.Pairwise.nil, fun _ => Iff.rfl⟩
theorem heap_nil : Heap [] := fun c _ x y hx => by simp at hx

/-- A heap with its sorted list. -/
structure HpS (w W : World) (g : Nat) (s : List It) (st : Int) : Prop where
  ex : ∃ a c r l pl, HpR w noB [] W g a c r l pl st ∧ Heap l ∧ PlOk l pl ∧ Rel s l

theorem at_new {K : Ending → World → Prop} (hA : At w [] W) (hK : ∀ g W', At w [] W' → Bel W W' → HpS w W' g [] 0 → K (.returned (hpV g)) W') : Calls Try.prog 9 #[] W K :=
  at_callq hA (c9 W).retQ fun v W' hA' _ hb ⟨g, r, hv, H⟩ => by
    subst hv
    exact hK g W' hA' hb ⟨_, _, _, _, _, ⟨H.blk, .inl (Nat.le_trans hA.size (H.mine.resolve_right id)), H.apart, OwnF.nil, ⟨.inl (Nat.le_trans hA.size (H.map.mine.resolve_right id)), H.map.apart, H.map.obj⟩⟩, heap_nil, PlOk.nil, rel_nil⟩

theorem at_put {K : Ending → World → Prop} (k t : Int) (hA : At w [] W) (h : HpS w W g s st) (hs : s.length ≤ 900) (hst : 0 ≤ st ∧ st < 1152921504606846976)
    (hK : ∀ st' W', At w [] W' → Chg (fun b => w.heap.size ≤ b) W W' → HpS w W' g (putR (k, t) s) st' → st ≤ st' → st' ≤ st + 2 * lev ((putR (k, t) s).length - 1) → K (.returned (.bool !decide (plc k s ≥ 0))) W') : Calls Try.prog 10 #[hpV g, .int .i64 k, .int .i64 t] W K := by
  obtain ⟨a, c, r, l, pl, H, hH, hP, hr⟩ := h.ex
  have hl := hr.len hP
  refine at_hp hA H (c10 k t ⟨hH, hP, by omega, hst.1, by omega⟩ H.entry) fun a' c' l' pl' st' W' hA' _ hch hΦ H' _ => ?_
  obtain ⟨q1, q2, q3, q4, q5, q6⟩ := hΦ
  have hr' := hr.put (x := (k, t)) q4
  rw [hr.there hP]
  refine hK st' W' hA' (hch.mono fun b hb hf => (H.fp b hb hf).resolve_right id) ⟨_, _, _, _, _, H', q1, q2, hr'⟩ q5 ?_
  rw [hr'.len q2]
  exact q6
theorem at_drop {K : Ending → World → Prop} (k : Int) (hA : At w [] W) (h : HpS w W g s st) (hs : s.length ≤ 900) (hst : 0 ≤ st ∧ st < 1152921504606846976)
    (hK : ∀ st' W', At w [] W' → Chg (fun b => w.heap.size ≤ b) W W' → HpS w W' g (dropR k s) st' → st ≤ st' → st' ≤ st + 2 * lev (s.length - 1) → K (.returned (.bool (decide (plc k s ≥ 0)))) W') : Calls Try.prog 14 #[hpV g, .int .i64 k] W K := by
  obtain ⟨a, c, r, l, pl, H, hH, hP, hr⟩ := h.ex
  have hl := hr.len hP
  refine at_hp hA H (c14 k ⟨hH, hP, by omega, hst.1, by omega⟩ H.entry) fun a' c' l' pl' st' W' hA' _ hch hΦ H' _ => ?_
  obtain ⟨q1, q2, q3, q4, q5, q6, _⟩ := hΦ
  rw [hr.there hP]
  refine hK st' W' hA' (hch.mono fun b hb hf => (H.fp b hb hf).resolve_right id) ⟨_, _, _, _, _, H', q1, q2, hr.drop q4⟩ q5 ?_
  rw [hl]
  exact q6
theorem at_pop {K : Ending → World → Prop} (hA : At w [] W) (h : HpS w W g s st) (hs : s.length ≤ 900) (hst : 0 ≤ st ∧ st < 1152921504606846976)
    (hK : ∀ st' W', At w [] W' → Chg (fun b => w.heap.size ≤ b) W W' → HpS w W' g s.tail st' → st ≤ st' → st' ≤ st + 2 * lev (s.length - 1) → K (.returned (peekV s)) W') : Calls Try.prog 11 #[hpV g] W K := by
  obtain ⟨a, c, r, l, pl, H, hH, hP, hr⟩ := h.ex
  have hl := hr.len hP
  refine at_hp hA H (c11 ⟨hH, hP, by omega, hst.1, by omega⟩ H.entry) fun a' c' l' pl' st' W' hA' _ hch hΦ H' _ => ?_
  rw [peek_rel hr hH hP]
  unfold PopP at hΦ
  rw [hr.top hH hP] at hΦ
  cases s with
  | nil =>
    obtain ⟨e1, e2, e3⟩ := hΦ
    exact hK st' W' hA' (hch.mono fun b hb hf => (H.fp b hb hf).resolve_right id) ⟨_, _, _, _, _, H', by rw [e1]; exact hH, by rw [e1, e2]; exact hP, by rw [e1]; exact hr⟩ (by omega) (by omega)
  | cons x s =>
    obtain ⟨q1, q2, q3, q4, q5, q6, _⟩ := hΦ
    refine hK st' W' hA' (hch.mono fun b hb hf => (H.fp b hb hf).resolve_right id) ⟨_, _, _, _, _, H', q1, q2, hr.pop hP q4⟩ q5 ?_
    rw [hl]
    exact q6
theorem at_long {K : Ending → World → Prop} (hA : At w [] W) (h : HpS w W g s st)
    (hK : ∀ W', At w [] W' → Bel W W' → HpS w W' g s st → K (.returned (.int .i64 (s.length : Int))) W') : Calls Try.prog 13 #[hpV g] W K := by
  obtain ⟨a, c, r, l, pl, H, hH, hP, hr⟩ := h.ex
  refine at_callb hA (c13 H.entry) fun W' hA' _ hb => ?_
  rw [← hr.len hP]
  exact hK W' hA' hb ⟨_, _, _, _, _, H.call hb, hH, hP, hr⟩
theorem at_peek {K : Ending → World → Prop} (hA : At w [] W) (h : HpS w W g s st)
    (hK : ∀ W', At w [] W' → Bel W W' → HpS w W' g s st → K (.returned (peekV s)) W') : Calls Try.prog 18 #[hpV g] W K := by
  obtain ⟨a, c, r, l, pl, H, hH, hP, hr⟩ := h.ex
  refine at_callb hA (c18 H.entry) fun W' hA' _ hb => ?_
  rw [peek_rel hr hH hP]
  exact hK W' hA' hb ⟨_, _, _, _, _, H.call hb, hH, hP, hr⟩
theorem at_steps {K : Ending → World → Prop} (hA : At w [] W) (h : HpS w W g s st)
    (hK : ∀ W', At w [] W' → Bel W W' → HpS w W' g s st → K (.returned (.int .i64 st)) W') : Calls Try.prog 16 #[hpV g] W K := by
  obtain ⟨a, c, r, l, pl, H, hH, hP, hr⟩ := h.ex
  refine at_callb hA (c16 H.entry) fun W' hA' _ hb => ?_
  exact hK W' hA' hb ⟨_, _, _, _, _, H.call hb, hH, hP, hr⟩
/-- A key's time, by the sorted list. -/
def atS (k : Int) (s : List It) : Value := if plc k s < 0 then .tuple #[.int .i64 0, .bool false] else .tuple #[.int .i64 ((s[(plc k s).toNat]?).getD (0, 0)).2, .bool true]
theorem at_at {K : Ending → World → Prop} (k : Int) (hA : At w [] W) (h : HpS w W g s st)
    (hK : ∀ W', At w [] W' → Bel W W' → HpS w W' g s st → K (.returned (atS k s)) W') : Calls Try.prog 19 #[hpV g, .int .i64 k] W K := by
  obtain ⟨a, c, r, l, pl, H, hH, hP, hr⟩ := h.ex
  refine at_callb hA (c19 k hP H.entry) fun W' hA' _ hb => ?_
  have e : atV k l pl = atS k s := by
    have hth := hr.there hP (k := k)
    unfold atV atS
    rcases plc_cases k s with ⟨e, hn⟩ | ⟨i, t, e, hi⟩
    · rw [e] at hth
      rw [e, if_pos (by decide)]
      cases hm : mget k pl with
      | none => rfl
      | some v => rw [hm] at hth; cases hth
    · rw [e] at hth
      rw [e, if_neg (by omega)]
      cases hm : mget k pl with
      | none => rw [hm, decide_eq_true (by omega)] at hth; cases hth
      | some v =>
        obtain ⟨j, t2, rfl, hj⟩ := hP.some_of hm
        have := hr.uniq hP (List.mem_of_getElem? hi) ((hr.mem _).2 (List.mem_of_getElem? hj)) rfl
        cases this
        simp [hi, hj]
  rw [e]
  exact hK W' hA' hb ⟨_, _, _, _, _, H.call hb, hH, hP, hr⟩

theorem lev1 : lev 0 = 0 := lev_zero
theorem c12 (w : World) : Ret Try.prog 12 #[] w (.bool true) := by
  intro R h
  refine f12_calls w R ?_
  unfold f12_vc
  refine at_new (At.refl w) fun g W hA _ H => ⟨_, rfl, ?_⟩
  have p1 : putR (7, 30) [] = [(7, 30)] := rfl
  have p2 : putR (8, 20) [(7, 30)] = [(8, 20), (7, 30)] := by decide
  have p3 : putR (7, 10) [(8, 20), (7, 30)] = [(7, 10), (8, 20)] := by decide
  refine at_put 7 30 hA H (by decide) (by decide) fun st1 W hA _ H h1 h2 => ⟨_, rfl, ?_⟩
  have hl := lev_le 1
  rw [p1] at H h2
  simp [lev_zero] at h2
  refine at_put 8 20 hA H (by decide) (by omega) fun st2 W hA _ H h3 h4 => ⟨_, rfl, ?_⟩
  rw [p2] at H h4
  simp at h4
  refine at_put 7 10 hA H (by decide) (by omega) fun st3 W hA _ H h5 h6 => ⟨_, rfl, ?_⟩
  rw [p3] at H h6
  simp at h6
  refine at_pop hA H (by decide) (by omega) fun st4 W hA _ H _ _ => ⟨7, 10, true, rfl, ?_⟩
  refine brB (fun _ => brB (fun _ => ⟨fun _ => brE (fun _ => brE (fun _ => brB (fun _ => ?_) (fun e => by cases e)) (fun e => absurd rfl e)) (fun e => absurd rfl e), (fun e => absurd e (by decide))⟩) (fun e => absurd e (by decide))) (fun e => absurd e (by decide))
  exact at_long hA H fun W hA _ _ => ⟨_, rfl, leaf h hA rfl⟩
end Go.Vc.H
