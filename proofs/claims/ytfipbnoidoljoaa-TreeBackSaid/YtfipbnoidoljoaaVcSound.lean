/- Soundness of the formula of a function's whole code: loops by what they carry, joints, branches; and of the function itself. -/
import Derived.Test.YtfipbnoidoljoaaVcRun
import Derived.Deep.LoopGhost
import Derived.LoopN
namespace Go.Vc
open Go Go.RowKit

theorem Sh.get_spec : ∀ (s : Sh) (l : List Value) (x : s.T) (r : List Value), s.get l = some (x, r) → l = s.vals x ++ r
  | .int k, l, x, r, h => by
    unfold Sh.get at h
    split at h
    · rename_i k' m r'
      cases hk : decide (k' = k) with
      | false => rw [hk] at h; cases h
      | true =>
        rw [hk] at h
        have := of_decide_eq_true hk
        subst this
        cases h
        rfl
    · cases h
  | .bool, l, x, r, h => by unfold Sh.get at h; split at h <;> cases h; rfl
  | .str, l, x, r, h => by unfold Sh.get at h; split at h <;> cases h; rfl
  | .ptr, l, x, r, h => by unfold Sh.get at h; split at h <;> cases h; rfl
  | .addr, l, x, r, h => by unfold Sh.get at h; split at h <;> cases h; rfl
  | .sl, l, x, r, h => by unfold Sh.get at h; split at h <;> cases h; rfl
  | .mp, l, x, r, h => by unfold Sh.get at h; split at h <;> cases h; rfl
  | .any, l, x, r, h => by unfold Sh.get at h; split at h <;> cases h; rfl
  | .nil, l, x, r, h => by cases h; rfl
  | .cons a b, l, x, r, h => by
    unfold Sh.get at h
    split at h
    · rename_i xa ra ha
      split at h
      · rename_i y r' hb
        cases h
        have h1 := Sh.get_spec a _ _ _ ha
        have h2 := Sh.get_spec b _ _ _ hb
        rw [h1, h2]
        simp [Sh.vals]
      · cases h
    · cases h
  | .agg s, l, x, r, h => by
    unfold Sh.get at h
    split at h
    · rename_i cs r'
      split at h
      · rename_i y hs
        cases h
        have h1 := Sh.get_spec s _ _ _ hs
        simp only [List.append_nil] at h1
        have : cs = (s.vals x).toArray := by rw [← h1]
        rw [this]
        rfl
      · cases h
    · cases h
  | .tup s, l, x, r, h => by
    unfold Sh.get at h
    split at h
    · rename_i cs r'
      split at h
      · rename_i y hs
        cases h
        have h1 := Sh.get_spec s _ _ _ hs
        simp only [List.append_nil] at h1
        have : cs = (s.vals x).toArray := by rw [← h1]
        rw [this]
        rfl
      · cases h
    · cases h

section
variable {P : Program} {H : Hints} {n : Nat}

theorem has_iff {l : List Nat} {t : Nat} : has l t = true ↔ t ∈ l := by
  simp only [has, List.any_eq_true]
  constructor
  · rintro ⟨k, hk, hb⟩
    rw [Nat.eq_of_beq_eq_true hb] at hk
    exact hk
  · intro h
    exact ⟨t, h, Nat.beq_refl t⟩

theorem look_append {α : Type} {l r : List (Nat × α)} {t : Nat} : look (l ++ r) t = (look l t).or (look r t) := by
  induction l with
  | nil => rfl
  | cons x l ih =>
    obtain ⟨k, v⟩ := x
    by_cases hk : k = t
    · subst hk; rw [List.cons_append, look_eq, look_eq]; rfl
    · rw [List.cons_append, look_ne hk, look_ne hk, ih]

theorem look_dead {ds : List Nat} {t : Nat} : look (ds.map fun d => (d, Slot.dead)) t = if t ∈ ds then some .dead else none := by
  induction ds with
  | nil => rfl
  | cons d ds ih =>
    rw [List.map_cons]
    by_cases hd : d = t
    · subst hd; rw [look_eq]; simp
    · rw [look_ne hd, ih]
      simp [Ne.symm hd]

/-- What a carried slot reads as. -/
theorem look_setVars {st' : St} : ∀ (l : List (Tmp × Sh)) (vs rest : List Value) (env : List (Nat × Slot)), valsV st' l = some vs → ∀ t,
    (∃ s, look st'.env t = some s ∧ s.alive = true ∧ look (setVars l (vs ++ rest) env) t = some (.val (s.value st'.gs))) ∨ (look (setVars l (vs ++ rest) env) t = look env t ∧ ∀ x ∈ l, x.1 ≠ t)
  | [], vs, rest, env, h, t => by cases h; exact .inr ⟨rfl, by simp⟩
  | x :: r, vs, rest, env, h, t => by
    unfold valsV at h
    split at h
    · rename_i s l hs hl
      cases hal : s.alive with
      | false => rw [hal] at h; cases h
      | true =>
        rw [hal] at h
        simp only [cond_true, Option.some.injEq] at h
        subst h
        simp only [List.cons_append, setVars]
        by_cases hx : x.1 = t
        · subst hx
          exact .inl ⟨s, hs, hal, look_eq _ _ _⟩
        · rw [look_ne hx]
          rcases look_setVars r l rest env hl t with hin | ⟨hlk, hne⟩
          · exact .inl hin
          · exact .inr ⟨hlk, fun y hy => by
              rcases List.mem_cons.1 hy with rfl | hy
              · exact hx
              · exact hne y hy⟩
    · cases h

theorem setVars_length {st' : St} : ∀ (l : List (Tmp × Sh)) (vs : List Value), valsV st' l = some vs → vs.length = l.length
  | [], vs, h => by cases h; rfl
  | x :: r, vs, h => by
    unfold valsV at h
    split at h
    · rename_i s l hs hl
      cases hal : s.alive with
      | false => rw [hal] at h; cases h
      | true =>
        rw [hal] at h
        simp only [cond_true, Option.some.injEq] at h
        subst h
        simp [setVars_length r l hl]
    · cases h

/-- The boxes of the head are those of the state at hand. -/
theorem setBoxes_spec {st' : St} {env : List (Nat × Slot)} {bs0 : List (List Value × TypeId)} (hty : ∀ (j : Nat) (c c' : List Value) (ty ty' : TypeId), bs0[j]? = some (c, ty) → st'.boxes[j]? = some (c', ty') → ty = ty') :
    ∀ (l : List (Tmp × Sh)) (vs : List Value) (bs : List (List Value × TypeId)), (∀ x ∈ l, look env x.1 = look st'.env x.1) → valsB st' l = some vs →
      (∀ (j : Nat) (c : List Value) (ty : TypeId), bs[j]? = some (c, ty) → ∃ c0, bs0[j]? = some (c0, ty)) →
      (∀ (j : Nat) (c : List Value) (ty : TypeId), bs[j]? = some (c, ty) → (∃ x ∈ l, ∃ off, look env x.1 = some (.loc j off)) ∨ st'.boxes[j]? = some (c, ty)) →
      (∀ (j : Nat) (c : List Value) (ty : TypeId), (setBoxes env l vs bs)[j]? = some (c, ty) → st'.boxes[j]? = some (c, ty)) ∧ (setBoxes env l vs bs).length = bs.length
  | [], vs, bs, _, _, _, h2 => ⟨fun j c ty hj => by
      rcases h2 j c ty hj with ⟨x, hx, _⟩ | h
      · cases hx
      · exact h, rfl⟩
  | x :: r, vs, bs, he, hv, h1, h2 => by
    unfold valsB at hv
    split at hv
    · rename_i j off l hs hl
      split at hv
      · rename_i cells ty hb
        cases hlen : Nat.beq cells.length x.2.len with
        | false => rw [hlen] at hv; cases hv
        | true =>
          rw [hlen] at hv
          simp only [cond_true, Option.some.injEq] at hv
          subst hv
          have hlen' := Nat.eq_of_beq_eq_true hlen
          have hse : look env x.1 = some (.loc j off) := by rw [he x (List.mem_cons_self ..)]; exact hs
          unfold setBoxes
          rw [hse]
          simp only [← hlen', List.drop_left, List.take_left]
          have main := setBoxes_spec hty r l (setCells bs j cells) (fun y hy => he y (List.mem_cons_of_mem _ hy)) hl ?_ ?_
          · refine ⟨main.1, ?_⟩
            rw [main.2]
            unfold setCells
            split
            · simp
            · rfl
          · intro i c ty' hi
            unfold setCells at hi
            split at hi
            · rename_i c1 ty1 hbj
              by_cases hij : j = i
              · subst hij
                rw [List.getElem?_set_self (List.getElem?_eq_some_iff.1 hbj).1] at hi
                cases hi
                exact h1 _ _ _ hbj
              · rw [List.getElem?_set_ne hij] at hi
                exact h1 _ _ _ hi
            · exact h1 _ _ _ hi
          · intro i c ty' hi
            unfold setCells at hi
            split at hi
            · rename_i c1 ty1 hbj
              by_cases hij : j = i
              · subst hij
                rw [List.getElem?_set_self (List.getElem?_eq_some_iff.1 hbj).1] at hi
                cases hi
                obtain ⟨c0, hc0⟩ := h1 _ _ _ hbj
                have := hty _ _ _ _ _ hc0 hb
                subst this
                exact .inr hb
              · rw [List.getElem?_set_ne hij] at hi
                rcases h2 _ _ _ hi with ⟨y, hy, off', hl'⟩ | h
                · rcases List.mem_cons.1 hy with rfl | hy
                  · rw [hse] at hl'
                    cases hl'
                    exact absurd rfl hij
                  · exact .inl ⟨y, hy, off', hl'⟩
                · exact .inr h
            · rename_i hbj
              rcases h2 _ _ _ hi with ⟨y, hy, off', hl'⟩ | h
              · rcases List.mem_cons.1 hy with rfl | hy
                · rw [hse] at hl'
                  cases hl'
                  rw [hbj] at hi
                  cases hi
                · exact .inl ⟨y, hy, off', hl'⟩
              · exact .inr h
      · cases hv
    · cases hv

/-- How a state in the midst of a loop, or at a joint, stands to the state at the entry. -/
structure Near (h : LH) (ds : List Nat) (st st' : St) : Prop where
  env : ∀ t, t ∉ ds → look st'.env t = look st.env t
  gs : st.gs <+: st'.gs
  box : ∀ j, j < st.boxes.length → j ∉ boxIdx h st → st'.boxes[j]? = st.boxes[j]?
  ty : ∀ (j : Nat) (c : List Value) (ty : TypeId), st.boxes[j]? = some (c, ty) → ∃ c', st'.boxes[j]? = some (c', ty)

theorem value_prefix {gs gs' : List Nat} (hp : gs <+: gs') {s : Slot} (hs : s.okAt gs.length) : s.value gs' = s.value gs := by
  obtain ⟨t, rfl⟩ := hp
  cases s with
  | loc j off =>
    simp only [Slot.value, List.getD_eq_getElem?_getD]
    rw [List.getElem?_append_left (show j < gs.length from hs)]
  | _ => rfl

theorem hintOk_spec {h : LH} {ds : List Nat} {st : St} (hh : hintOk h ds st = true) : (∀ x ∈ h.vars, x.1 ∈ ds) ∧ (∀ x ∈ h.boxes, x.1 ∉ ds) ∧ (∀ j ∈ boxIdx h st, j ∉ st.ro) := by
  simp only [hintOk, Bool.and_eq_true, List.all_eq_true] at hh
  obtain ⟨⟨h1, h2⟩, h3⟩ := hh
  refine ⟨fun x hx => has_iff.1 (h1 x hx), fun x hx hd => ?_, fun j hj hd => ?_⟩
  · have := h2 x hx
    rw [has_iff.2 hd] at this
    cases this
  · have := h3 j hj
    rw [has_iff.2 hd] at this
    cases this

theorem rel_head {h : LH} {ds : List Nat} {st st' : St} {a' : Act} {W' : World} {vs : List Value} (hh : hintOk h ds st = true) (hnear : Near h ds st st') (hloc : ∀ t s, look st.env t = some s → s.okAt st.gs.length) (hgl : st.gs.length = st.boxes.length)
    (hv : h.vals st' = some vs) (hr : Rel n st' a' W') (ro : List Nat) : Rel n (headSt h ds st vs W' ro) a' W' := by
  obtain ⟨hvin, hbout, _⟩ := hintOk_spec hh
  unfold LH.vals at hv
  split at hv
  · rename_i va vb hva hvb
    cases hv
    have hlen := setVars_length _ _ hva
    have hdrop : (va ++ vb).drop h.vars.length = vb := by rw [← hlen]; exact List.drop_left
    have henv : ∀ t s, look (headSt h ds st (va ++ vb) W' ro).env t = some s → s.okAt st.gs.length ∧ (s.alive = true → a'.tmps[t]? = some (s.value st.gs)) := by
      intro t s hs
      rcases look_setVars h.vars va vb (ds.map (fun d => (d, Slot.dead)) ++ st.env) hva t with ⟨s', hs', hal, hlk⟩ | ⟨hlk, hne⟩
      · have : s = .val (s'.value st'.gs) := by
          have := hs.symm.trans hlk
          exact Option.some.inj this
        subst this
        exact ⟨trivial, fun _ => hr.env t s' hs' hal⟩
      · have hs2 := hlk.symm.trans hs
        rw [look_append, look_dead] at hs2
        by_cases htd : t ∈ ds
        · rw [if_pos htd] at hs2
          cases hs2
          exact ⟨trivial, fun hx => by cases hx⟩
        · rw [if_neg htd] at hs2
          have hs3 : look st.env t = some s := hs2
          refine ⟨hloc t s hs3, fun hal => ?_⟩
          rw [← value_prefix hnear.gs (hloc t s hs3)]
          exact hr.env t s (by rw [hnear.env t htd]; exact hs3) hal
    have hbx := setBoxes_spec (st' := st') (env := st.env) (bs0 := st.boxes) (fun j c c' ty ty' h1 h2 => by
        obtain ⟨c2, h3⟩ := hnear.ty j c ty h1
        rw [h2] at h3
        cases h3
        rfl) h.boxes vb st.boxes (fun x hx => (hnear.env x.1 (hbout x hx)).symm) hvb (fun j c ty hj => ⟨c, hj⟩) (fun j c ty hj => by
        by_cases hin : j ∈ boxIdx h st
        · unfold boxIdx at hin
          obtain ⟨x, hx, hxj⟩ := List.mem_filterMap.1 hin
          split at hxj
          · rename_i j' off hl
            cases hxj
            exact .inl ⟨x, hx, off, hl⟩
          · cases hxj
        · refine .inr ?_
          rw [hnear.box j (List.getElem?_eq_some_iff.1 hj).1 hin]
          exact hj)
    refine ⟨hr.defers, hr.size, fun t s hs => (henv t s hs).2, fun t s hs => (henv t s hs).1, fun j cells ty hj => ?_, ?_, hr.gsOrd.sublist hnear.gs.sublist, fun g hg => hr.gsLt g (hnear.gs.subset hg), Evo.refl _, fun _ => rfl⟩
    · have hj' : (setBoxes st.env h.boxes ((va ++ vb).drop h.vars.length) st.boxes)[j]? = some (cells, ty) := hj
      rw [hdrop] at hj'
      obtain ⟨g, hg, hc⟩ := hr.boxes j cells ty (hbx.1 j cells ty hj')
      refine ⟨g, ?_, hc⟩
      have hjl : j < st.gs.length := by
        rw [hgl, ← hbx.2]
        exact (List.getElem?_eq_some_iff.1 hj').1
      obtain ⟨tl, htl⟩ := hnear.gs
      show st.gs[j]? = some g
      rw [← htl, List.getElem?_append_left hjl] at hg
      exact hg
    · show st.gs.length = (setBoxes st.env h.boxes ((va ++ vb).drop h.vars.length) st.boxes).length
      rw [hdrop, hbx.2, hgl]
  · cases hv

theorem near_lock {h : LH} {ds : List Nat} {st st0 st' : St} (h0 : Near h ds st st0) (hro : st0.ro = lockRo h st) (hx : Ext ds st0 st') (hl : st.boxes.length ≤ st0.boxes.length) : Near h ds st st' := by
  refine ⟨fun t ht => (hx.env t ht).trans (h0.env t ht), h0.gs.trans hx.gs, fun j hj hn => ?_, fun j c ty hj => ?_⟩
  · rw [hx.box j ?_ (Nat.lt_of_lt_of_le hj hl)]
    · exact h0.box j hj hn
    · rw [hro]
      unfold lockRo
      rw [List.mem_filter]
      refine ⟨List.mem_range.2 hj, ?_⟩
      cases hb : has (boxIdx h st) j with
      | false => rfl
      | true => exact absurd (has_iff.1 hb) hn
  · obtain ⟨c1, h1⟩ := h0.ty j c ty hj
    exact hx.ty j c1 ty h1

theorem setBoxes_keep (env : List (Nat × Slot)) : ∀ (l : List (Tmp × Sh)) (vs : List Value) (bs : List (List Value × TypeId)),
    (setBoxes env l vs bs).length = bs.length ∧ (∀ (j : Nat) (c : List Value) (ty : TypeId), bs[j]? = some (c, ty) → ∃ c', (setBoxes env l vs bs)[j]? = some (c', ty)) ∧
      (∀ j : Nat, (∀ x ∈ l, ∀ off, look env x.1 ≠ some (.loc j off)) → (setBoxes env l vs bs)[j]? = bs[j]?)
  | [], vs, bs => ⟨rfl, fun j c ty h => ⟨c, h⟩, fun _ _ => rfl⟩
  | x :: r, vs, bs => by
    unfold setBoxes
    split
    · rename_i j off hl
      obtain ⟨h1, h2, h3⟩ := setBoxes_keep env r (vs.drop x.2.len) (setCells bs j (vs.take x.2.len))
      refine ⟨?_, fun i c ty hi => ?_, fun i hi => ?_⟩
      · rw [h1]; unfold setCells; split
        · simp
        · rfl
      · by_cases hij : j = i
        · subst hij
          refine h2 j (vs.take x.2.len) ty ?_
          unfold setCells
          rw [hi]
          exact List.getElem?_set_self (List.getElem?_eq_some_iff.1 hi).1
        · refine h2 i c ty ?_
          unfold setCells
          split
          · rw [List.getElem?_set_ne hij]; exact hi
          · exact hi
      · rw [h3 i fun y hy off' => hi y (List.mem_cons_of_mem _ hy) off']
        have hij : j ≠ i := fun e => hi x (List.mem_cons_self ..) off (by rw [hl, e])
        unfold setCells
        split
        · rw [List.getElem?_set_ne hij]
        · rfl
    · obtain ⟨h1, h2, h3⟩ := setBoxes_keep env r (vs.drop x.2.len) bs
      exact ⟨h1, h2, fun i hi => h3 i fun y hy off' => hi y (List.mem_cons_of_mem _ hy) off'⟩

theorem look_setVars_ne : ∀ (l : List (Tmp × Sh)) (vs : List Value) (env : List (Nat × Slot)) (t : Nat), (∀ x ∈ l, x.1 ≠ t) → look (setVars l vs env) t = look env t
  | [], vs, env, t, _ => by cases vs <;> rfl
  | x :: r, v :: vs, env, t, h => by
    rw [setVars, look_ne (h x (List.mem_cons_self ..))]
    exact look_setVars_ne r vs env t fun y hy => h y (List.mem_cons_of_mem _ hy)
  | x :: r, [], env, t, h => by
    rw [setVars, look_ne (h x (List.mem_cons_self ..))]
    exact look_setVars_ne r [] env t fun y hy => h y (List.mem_cons_of_mem _ hy)

theorem not_boxIdx {h : LH} {st : St} {j : Nat} (hn : j ∉ boxIdx h st) : ∀ x ∈ h.boxes, ∀ off, look st.env x.1 ≠ some (.loc j off) := by
  intro x hx off hl
  refine hn ?_
  unfold boxIdx
  exact List.mem_filterMap.2 ⟨x, hx, by rw [hl]⟩

theorem near_head {h : LH} {ds : List Nat} {st : St} {vs : List Value} {w : World} {ro : List Nat} (hh : hintOk h ds st = true) : Near h ds st (headSt h ds st vs w ro) := by
  obtain ⟨hvin, hbout, _⟩ := hintOk_spec hh
  obtain ⟨h1, h2, h3⟩ := setBoxes_keep st.env h.boxes (vs.drop h.vars.length) st.boxes
  refine ⟨fun t ht => ?_, List.prefix_rfl, fun j _ hn => h3 j (not_boxIdx hn), fun j c ty hj => h2 j c ty hj⟩
  show look (setVars h.vars vs (ds.map (fun d => (d, Slot.dead)) ++ st.env)) t = _
  rw [look_setVars_ne _ _ _ _ (fun x hx e => ht (by rw [← e]; exact hvin x hx)), look_append, look_dead, if_neg ht]
  rfl

/-- What stands behind, seen from the entry. -/
theorem ext_of_near {h : LH} {ds : List Nat} {st st' : St} (hh : hintOk h ds st = true) (hn : Near h ds st st') (hro : st'.ro = st.ro) : Ext ds st st' := by
  obtain ⟨_, _, hb⟩ := hintOk_spec hh
  exact ⟨hn.env, hn.gs, hro, fun j hj hl => hn.box j hl fun hin => hb j hin hj, hn.ty⟩

theorem rel_ro {st : St} {a : Act} {W : World} (h : Rel n st a W) (ro : List Nat) : Rel n { st with ro := ro } a W :=
  ⟨h.defers, h.size, h.env, h.locs, h.boxes, h.gsLen, h.gsOrd, h.gsLt, h.evo, h.clean⟩

def toExit : Ex → Exit
  | .normal => .normal
  | .exit id => .exit id
  | .ret => .ret

def Done (n : Nat) (ds : List Nat) (K : Ex → St → Fm) (st : St) (Q : Exit → Act → World → Prop) : Prop :=
  ∀ e st' a' W', (K e st').den → Rel n st' a' W' → Ext ds st st' → st'.pend = [] → Q (toExit e) a' W'

theorem Done.step {ds es : List Nat} {K : Ex → St → Fm} {st st1 : St} {Q : Exit → Act → World → Prop} (h : Done n ds K st Q) (he : Ext ds st st1) (hs : ∀ t ∈ es, t ∈ ds) : Done n es K st1 Q :=
  fun e st' a' W' hd hr hx hp => h e st' a' W' hd hr (he.tr (hx.mono hs)) hp

theorem arrive_den {h : LH} {st : St} {J : h.sh.T → World → Fm} {a : Act} {W : World} (hd : (arriveF h st J).den) (hr : Rel n st a W) : ∃ x, h.vals st = some (h.sh.vals x) ∧ (J x W).den := by
  unfold arriveF at hd
  split at hd
  · rename_i vs hv
    split at hd
    · rename_i x hg
      have := Sh.get_spec _ _ _ _ hg
      rw [List.append_nil] at this
      subst this
      exact ⟨x, hv, withW_den hd hr⟩
    · exact hd.elim
  · exact hd.elim

theorem region_sound {id : Nat} {ops : Array Oper} {dr : Bool} {K : Ex → St → Fm} {st : St} {a : Act} {W : World} {Q : Exit → Act → World → Prop} (hm : P.follows .mixedOrders = true) (hok : codeOk P H n (.region id ops dr) = true) (hp : st.pend = [])
    (h : (wpC P H (.region id ops dr) K st).den) (hr : Rel n st a W) (hk : Done n (dsts (.region id ops dr)) K st Q) : (Code.region id ops dr).wp P Q a W := by
  simp only [codeOk, Bool.and_eq_true] at hok
  obtain ⟨⟨hsel, hds⟩, hdr⟩ := hok
  unfold wpC at h
  cases dr with
  | false =>
    simp only [cond_false] at h
    exact wp_region (evalOps_plain hsel hds _ _ _ _ h hr hp fun st' a' W' h1 h2 h3 h4 => hk .normal st' a' W' h1 h2 h3 h4)
  | true =>
    have hrel : Rel n { st with clean := false } a { W with drawn := W.drawn + 1 } :=
      ⟨hr.defers, hr.size, hr.env, hr.locs, hr.boxes, hr.gsLen, hr.gsOrd, hr.gsLt, ⟨hr.evo.os, hr.evo.tape, hr.evo.output, hr.evo.size, hr.evo.block, Nat.le_succ_of_le hr.evo.drawn⟩, fun hc => by cases hc⟩
    have hpn : promOf P ({ st with clean := false } : St).pend = [] := by show promOf P st.pend = []; rw [hp]; rfl
    have hV : wpV P .any ops (Only fun a' W' => Q .normal a' W') ops.size (Array.replicate ops.size false) (promOf P ({ st with clean := false } : St).pend) a { W with drawn := W.drawn + 1 } := by
      simp only [cond_true] at h hdr
      split at h
      · rename_i t ht
        simp only [ht, Bool.and_eq_true] at hdr
        exact (evalT_draw (P := P) (H := H) (n := n) (ops := ops) (k := K .normal) (Q := fun a' W' => Q .normal a' W') hsel hds t ops.size (Array.replicate ops.size false) { st with clean := false } a { W with drawn := W.drawn + 1 } (Nat.le_of_ble_eq_true hdr.1) h hrel
          (by show PendOk P st.pend st.gs _; rw [hp]; intro p hpm; cases hpm)
          (fun st' a' W' h1 h2 h3 h4 => hk .normal st' a' W' h1 h2 ((⟨fun _ _ => rfl, List.prefix_rfl, rfl, fun _ _ _ => rfl, fun _ c _ h => ⟨c, h⟩⟩ : Ext (dsts (.region id ops true)) st { st with clean := false }).tr h3) h4)).1 hdr.2
      · rename_i ht
        simp only [ht, Bool.and_eq_true] at hdr
        have hlen : ((look H.ord id).getD []).length = ops.size := Nat.eq_of_beq_eq_true hdr.1
        exact evalOps_draw (P := P) (H := H) (n := n) (ops := ops) (k := K .normal) (Q := fun a' W' => Q .normal a' W') hsel hds ((look H.ord id).getD []) ops.size (Array.replicate ops.size false) { st with clean := false } a { W with drawn := W.drawn + 1 } (by omega) hdr.2 h hrel
          (by show PendOk P st.pend st.gs _; rw [hp]; intro p hpm; cases hpm)
          (fun st' a' W' h1 h2 h3 h4 => hk .normal st' a' W' h1 h2 ((⟨fun _ _ => rfl, List.prefix_rfl, rfl, fun _ _ _ => rfl, fun _ c _ h => ⟨c, h⟩⟩ : Ext (dsts (.region id ops true)) st { st with clean := false }).tr h3) h4)
    rw [hpn] at hV
    refine wp_mono (wp_region_V hm hV) fun e a' w' hq => ?_
    cases e with
    | normal => exact hq
    | _ => exact hq.elim
end
end Go.Vc
