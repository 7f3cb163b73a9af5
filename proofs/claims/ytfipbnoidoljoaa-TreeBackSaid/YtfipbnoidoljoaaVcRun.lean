/- Soundness of the formula of a region, in the text's order or in whatever order the tape draws. -/
import Derived.Test.YtfipbnoidoljoaaVcEvalE
namespace Go.Vc
open Go Go.RowKit

section
variable {P : Program} {H : Hints} {n : Nat}

theorem yielded_of {ops : Array Oper} {tmps : Array Value} {j d : Nat} {c : Bool} (hd : (ops[j]?).bind (·.dst) = some d) (ht : tmps[d]? = some (.bool c)) : yielded ops tmps j = some c := by
  unfold yielded
  rw [hd]
  simp [ht]

theorem mem_dsts {ops : Array Oper} {j d : Nat} (hd : (ops[j]?).bind (·.dst) = some d) : d ∈ ops.toList.filterMap (·.dst) := by
  cases hj : ops[j]? with
  | none => rw [hj] at hd; cases hd
  | some o =>
    rw [hj] at hd
    exact List.mem_filterMap.2 ⟨o, Array.mem_toList_iff.2 (Array.mem_of_getElem? hj), hd⟩

theorem Rel.lit {st : St} {a : Act} {W : World} (h : Rel n st a W) {d : Nat} {c : Bool} (hl : look st.env d = some (.val (.bool c))) : Rel n { st with env := (d, .lit c) :: st.env } a W := by
  refine ⟨h.defers, h.size, fun t s ht hs => ?_, fun t s ht => ?_, h.boxes, h.gsLen, h.gsOrd, h.gsLt, h.evo, h.clean⟩
  · by_cases hdt : d = t
    · subst hdt
      simp only [look_eq, Option.some.injEq] at ht
      subst ht
      exact h.env d (.val (.bool c)) hl rfl
    · rw [look_ne hdt] at ht
      exact h.env t s ht hs
  · by_cases hdt : d = t
    · subst hdt
      simp only [look_eq, Option.some.injEq] at ht
      subst ht
      trivial
    · rw [look_ne hdt] at ht
      exact h.locs t s ht

theorem Ext.lit {ds : List Nat} (st : St) {d : Nat} (s : Slot) (hd : d ∈ ds) : Ext ds st { st with env := (d, s) :: st.env } :=
  ⟨fun _ ht => look_ne (fun e => ht (by rw [← e]; exact hd)) _ _, List.prefix_rfl, rfl, fun _ _ _ => rfl, fun _ c _ h => ⟨c, h⟩⟩

/-- The guard has been asked. -/
theorem guardF_sound {ops : Array Oper} {o : Oper} {run skip : St → Fm} {st : St} {a : Act} {W : World} (h : (guardF H ops o run skip st).den) (hr : Rel n st a W) :
    ∃ st1, Rel n st1 a W ∧ Ext (ops.toList.filterMap (·.dst)) st st1 ∧ st1.pend = st.pend ∧ st1.gs = st.gs ∧
      ((Region.wanted o (yielded ops a.tmps) = true ∧ (run st1).den) ∨ (Region.wanted o (yielded ops a.tmps) = false ∧ (skip st1).den)) := by
  unfold guardF at h
  split at h
  · rename_i hg
    exact ⟨st, hr, Ext.refl _ _, rfl, rfl, .inl ⟨by simp [Region.wanted, hg], h⟩⟩
  · rename_i j want hg
    have hwant : ∀ c, yielded ops a.tmps j = some c → Region.wanted o (yielded ops a.tmps) = (c == want) := by
      intro c hc
      simp only [Region.wanted, hg, hc]
      cases c <;> cases want <;> rfl
    split at h
    · exact h.elim
    · rename_i d hd
      split at h
      · rename_i c hl
        have hy := yielded_of hd (hr.env d _ hl rfl)
        refine ⟨st, hr, Ext.refl _ _, rfl, rfl, ?_⟩
        rw [hwant c hy]
        cases hcw : (c == want) with
        | true => rw [hcw] at h; exact .inl ⟨rfl, h⟩
        | false => rw [hcw] at h; exact .inr ⟨rfl, h⟩
      · rename_i c hl
        have hy := yielded_of hd (hr.env d _ hl rfl)
        rw [hwant c hy]
        cases hop : has H.splits d with
        | true =>
          rw [hop] at h
          simp only [cond_true] at h
          cases c with
          | true =>
            have h1 := h.1 rfl
            refine ⟨_, hr.lit hl, Ext.lit st (.lit true) (mem_dsts hd), rfl, rfl, ?_⟩
            cases want with
            | true => exact .inl ⟨rfl, h1⟩
            | false => exact .inr ⟨rfl, h1⟩
          | false =>
            have h1 := h.2 rfl
            refine ⟨_, hr.lit hl, Ext.lit st (.lit false) (mem_dsts hd), rfl, rfl, ?_⟩
            cases want with
            | true => exact .inr ⟨rfl, h1⟩
            | false => exact .inl ⟨rfl, h1⟩
        | false =>
          rw [hop] at h
          simp only [cond_false] at h
          refine ⟨st, hr, Ext.refl _ _, rfl, rfl, ?_⟩
          cases hcw : (c == want) with
          | true => rw [hcw] at h; exact .inl ⟨rfl, h⟩
          | false => rw [hcw] at h; exact .inr ⟨rfl, h⟩
      · rename_i vs hl
        have hy : yielded ops a.tmps j = none := by
          unfold yielded
          rw [hd]
          simp [hr.env d _ hl rfl, Slot.value]
        exact ⟨st, hr, Ext.refl _ _, rfl, rfl, .inr ⟨by simp [Region.wanted, hg, hy], h⟩⟩
      · exact h.elim

/-- What follows a region. -/
def Ends (n : Nat) (ds : List Nat) (k : St → Fm) (st : St) (Q : Act → World → Prop) : Prop :=
  ∀ st' a' W', (k st').den → Rel n st' a' W' → Ext ds st st' → st'.pend = [] → Q a' W'

theorem Ends.step {ds : List Nat} {k : St → Fm} {st st1 : St} {Q : Act → World → Prop} (h : Ends n ds k st Q) (he : Ext ds st st1) : Ends n ds k st1 Q :=
  fun st' a' W' hd hr hx hp => h st' a' W' hd hr (he.tr hx) hp

theorem dst_sub {ops : Array Oper} {i : Nat} {o : Oper} (ho : ops[i]? = some o) : ∀ t ∈ o.dst.toList, t ∈ ops.toList.filterMap (·.dst) := by
  intro t ht
  rw [Option.mem_toList] at ht
  exact List.mem_filterMap.2 ⟨o, Array.mem_toList_iff.2 (Array.mem_of_getElem? ho), ht⟩

theorem evalOps_plain {ops : Array Oper} {k : St → Fm} {Q : Exit → Act → World → Prop} (hsel : Region.noSelect ops = true) (hds : ops.toList.all (dstOk n) = true) :
    ∀ (l : List Nat) (st : St) (a : Act) (W : World), (evalOps P H false ops l k st).den → Rel n st a W → st.pend = [] → Ends n (ops.toList.filterMap (·.dst)) k st (Q .normal) → wpOps P ops Q l a W
  | [], st, a, W, h, hr, hp, hk => hk _ a W h (hr.pend _) (Ext.pend _ _ _) rfl
  | i :: r, st, a, W, h, hr, hp, hk => by
    unfold evalOps at h
    unfold wpOps
    cases ho : ops[i]? with
    | none => rw [ho] at h; exact h.elim
    | some o =>
      rw [ho] at h
      have hns : ∀ cs b, o.op ≠ .select cs b := fun cs b => Region.noSelect_spec hsel i o cs b ho
      have hd : dstOk n o = true := List.all_eq_true.1 hds o (Array.mem_toList_iff.2 (Array.mem_of_getElem? ho))
      obtain ⟨st1, hr1, hx1, hp1, hg1, hcase⟩ := guardF_sound h hr
      have hpn : st1.pend = [] := hp1.trans hp
      rcases hcase with ⟨hw, h1⟩ | ⟨hw, h1⟩
      · simp only [hw, if_true]
        refine .inl ?_
        cases hq : isQuiet P o with
        | true =>
          rw [hq] at h1
          obtain ⟨v, s, p, hden, hrel, _, _, hS, hrun⟩ := evalQ_sound hns hd h1 hr1
          unfold Oper.wp
          rw [hrun W hS]
          refine evalOps_plain hsel hds r _ _ W hden hrel ?_ (hk.step (hx1.tr ((Ext.set _ _ _).mono (dst_sub ho))))
          cases o.dst <;> exact hpn
        | false =>
          rw [hq] at h1
          refine evalE_sound hns hd h1 hr1 (by rw [hpn]; intro p hp; cases hp) ?_
          intro st' v W' hden hrel hext hpe _
          refine evalOps_plain hsel hds r _ _ W' hden hrel ?_ (hk.step (hx1.tr (hext.mono (dst_sub ho))))
          rw [hpe, hpn]; rfl
      · simp only [hw, Bool.false_eq_true, if_false]
        refine evalOps_plain hsel hds r _ _ W h1 (hr1.set hd (s := .val undef) trivial (fun _ => rfl)) ?_ (hk.step (hx1.tr ((Ext.set _ _ _).mono (dst_sub ho))))
        cases o.dst <;> exact hpn

def promOf (P : Program) (l : List Pend) : Prom := l.map fun p => (p.idx, p.holds P)

theorem promOf_drop {ops : Array Oper} {i : Nat} (l : List Pend) : dropProm .any ops (promOf P l) i = promOf P (leftPend (fun x => waits .any ops x i) l) := by
  simp only [dropProm, promOf, leftPend, List.filter_map]
  rfl

theorem promOf_holds {l : List Pend} {gs : List Nat} {W : World} (h : PendOk P l gs W) : ∀ p ∈ promOf P l, p.2 W := by
  intro p hp
  obtain ⟨q, hq, rfl⟩ := List.mem_map.1 hp
  exact (h q hq).2

theorem promOf_keeps {ops : Array Oper} {i : Nat} {l : List Pend} {gs : List Nat} {W : World} (h : PendOk P (leftPend (fun x => waits .any ops x i) l) gs W) : keepsProm .any ops (promOf P l) i W := by
  intro p hp hw
  obtain ⟨q, hq, rfl⟩ := List.mem_map.1 hp
  exact (h q (List.mem_filter.2 ⟨hq, by simp only at hw; simp [hw]⟩)).2

/-- A post that says nothing of a panic. -/
def Only (Q : Act → World → Prop) : Exit → Act → World → Prop
  | .normal, a, w => Q a w
  | _, _, _ => False

theorem evalOps_draw {ops : Array Oper} {k : St → Fm} {Q : Act → World → Prop} (hsel : Region.noSelect ops = true) (hds : ops.toList.all (dstOk n) = true) :
    ∀ (l : List Nat) (fuel : Nat) (listed : Array Bool) (st : St) (a : Act) (W : World), l.length ≤ fuel → ordOk P ops l listed = true → (evalOps P H true ops l k st).den → Rel n st a W →
      PendOk P st.pend st.gs W → Ends n (ops.toList.filterMap (·.dst)) k st Q → wpV P .any ops (Only Q) fuel listed (promOf P st.pend) a W
  | [], fuel, listed, st, a, W, _, hord, h, hr, hp, hk => by
    have hre : Region.ready .any ops listed = [] := by
      simp only [ordOk, List.isEmpty_iff] at hord
      exact hord
    exact wpV_done hre (hk _ a W h (hr.pend _) (Ext.pend _ _ _) rfl) fuel
  | i :: r, 0, _, _, _, _, hl, _, _, _, _, _ => by simp at hl
  | i :: r, fuel + 1, listed, st, a, W, hl, hord, h, hr, hp, hk => by
    have hl' : r.length ≤ fuel := by simp at hl; omega
    unfold evalOps at h
    simp only [ordOk, Bool.and_eq_true] at hord
    cases ho : ops[i]? with
    | none => rw [ho] at h; exact h.elim
    | some o =>
      rw [ho] at h
      simp only [ho] at hord
      obtain ⟨hthis, hrest⟩ := hord
      have hns : ∀ cs b, o.op ≠ .select cs b := fun cs b => Region.noSelect_spec hsel i o cs b ho
      have hd : dstOk n o = true := List.all_eq_true.1 hds o (Array.mem_toList_iff.2 (Array.mem_of_getElem? ho))
      obtain ⟨st1, hr1, hx1, hp1, hg1, hcase⟩ := guardF_sound h hr
      have hpo1 : PendOk P st1.pend st1.gs W := by rw [hp1, hg1]; exact hp
      rw [← hp1]
      have hpset : ∀ s : Slot, (st1.set o.dst s).pend = st1.pend := fun s => by cases o.dst <;> rfl
      have hgset : ∀ s : Slot, (st1.set o.dst s).gs = st1.gs := fun s => by cases o.dst <;> rfl
      cases hq : isQuiet P o with
      | true =>
        rw [hq] at hthis
        simp only [cond_true, Bool.and_eq_true] at hthis
        obtain ⟨hready, hfree⟩ := hthis
        have main : ∀ (v : Value) (s : Slot) (p : Pend), (evalOps P H true ops r k ((st1.set o.dst s).put true p)).den → Rel n (st1.set o.dst s) (a.put o.dst v) W → p.idx = i → p.inGs st1.gs → p.holds P W →
            YieldsIf P ops (p.holds P) o v a → wpV P .any ops (Only Q) (fuel + 1) listed (promOf P st1.pend) a W := by
          intro v s p hden hrel hidx hin hS hy
          refine wpV_take ho hsel hfree hready (fun _ _ _ hx => hx) hy hS (promOf_holds hpo1) ?_
          have := evalOps_draw (Q := Q) hsel hds r fuel (listed.setIfInBounds i true) ((st1.set o.dst s).put true p) (a.put o.dst v) W hl' hrest hden (hrel.putp _ _) ?_
            (hk.step (hx1.tr (((Ext.set _ _ _).mono (dst_sub ho)).tr (Ext.putp _ _ _ _))))
          · have he : promOf P ((st1.set o.dst s).put true p).pend = (i, p.holds P) :: promOf P st1.pend := by
              show promOf P (p :: (st1.set o.dst s).pend) = _
              rw [hpset, ← hidx]
              rfl
            rw [he] at this
            exact this
          · show PendOk P (p :: (st1.set o.dst s).pend) (st1.set o.dst s).gs W
            rw [hpset, hgset]
            intro q hqm
            rcases List.mem_cons.1 hqm with rfl | hqm
            · exact ⟨hin, hS⟩
            · exact hpo1 q hqm
        rcases hcase with ⟨hw, h1⟩ | ⟨hw, h1⟩
        · rw [hq] at h1
          obtain ⟨v, s, p, hden, hrel, hidx, hin, hS, hrun⟩ := evalQ_sound hns hd h1 hr1
          exact main v s p hden hrel hidx hin hS (.inl ⟨hw, hrun⟩)
        · exact main undef (.val undef) (.pure i) h1 (hr1.set hd trivial (fun _ => rfl)) rfl trivial trivial (.inr ⟨hw, rfl⟩)
      | false =>
        rw [hq] at hthis
        simp only [cond_false] at hthis
        have hready : Region.ready .any ops listed = [i] := by simpa using hthis
        refine wpV_one hready ?_
        unfold wpOp
        simp only [ho]
        rcases hcase with ⟨hw, h1⟩ | ⟨hw, h1⟩
        · simp only [hw, if_true]
          refine .inl ?_
          rw [hq] at h1
          refine evalE_sound hns hd h1 hr1 hpo1 ?_
          intro st' v W' hden hrel hext hpe hpo
          refine ⟨promOf_keeps (gs := st'.gs) (by rw [← hpe]; exact hpo), ?_⟩
          rw [promOf_drop, ← hpe]
          exact evalOps_draw hsel hds r fuel _ st' _ W' hl' hrest hden hrel hpo (hk.step (hx1.tr (hext.mono (dst_sub ho))))
        · simp only [hw, Bool.false_eq_true, if_false]
          refine ⟨fun p hpm _ => promOf_holds hpo1 p hpm, ?_⟩
          have := evalOps_draw (Q := Q) hsel hds r fuel (listed.setIfInBounds i true) ((st1.set o.dst (.val undef)).put true (.pure i)) (a.put o.dst undef) W hl' hrest h1 ((hr1.set hd (s := .val undef) trivial (fun _ => rfl)).putp _ _) ?_
            (hk.step (hx1.tr (((Ext.set _ _ _).mono (dst_sub ho)).tr (Ext.putp _ _ _ _))))
          · refine wpV_mono _ _ _ _ _ _ (fun p hpm => ?_) this
            have hpm' : p ∈ promOf P st1.pend := (List.mem_filter.1 hpm).1
            show p ∈ promOf P (.pure i :: (st1.set o.dst (.val undef)).pend)
            rw [hpset]
            exact List.mem_cons_of_mem _ hpm'
          · show PendOk P (.pure i :: (st1.set o.dst (.val undef)).pend) (st1.set o.dst (.val undef)).gs W
            rw [hpset, hgset]
            intro q hqm
            rcases List.mem_cons.1 hqm with rfl | hqm
            · exact ⟨trivial, trivial⟩
            · exact hpo1 q hqm
theorem evalT_draw {ops : Array Oper} {k : St → Fm} {Q : Act → World → Prop} (hsel : Region.noSelect ops = true) (hds : ops.toList.all (dstOk n) = true) :
    ∀ (t : Ot) (fuel : Nat) (listed : Array Bool) (st : St) (a : Act) (W : World), t.depth ≤ fuel → (evalT P H ops t k st).den → Rel n st a W →
      PendOk P st.pend st.gs W → Ends n (ops.toList.filterMap (·.dst)) k st Q → (ordOkT P ops false t listed = true → wpV P .any ops (Only Q) fuel listed (promOf P st.pend) a W) ∧
      (ordOkT P ops true t listed = true → ∀ j ∈ t.heads, 0 < fuel ∧ wpOp P ops (Only Q) j (fun a' w' => keepsProm .any ops (promOf P st.pend) j w' ∧ wpV P .any ops (Only Q) (fuel - 1) (listed.setIfInBounds j true) (dropProm .any ops (promOf P st.pend) j) a' w') a W)
  | .nil, fuel, listed, st, a, W, _, h, hr, hp, hk => by
    refine ⟨fun hord => ?_, fun hord => by simp [ordOkT] at hord⟩
    have hre : Region.ready .any ops listed = [] := by
      simpa [ordOkT, List.isEmpty_iff] using hord
    exact wpV_done hre (hk _ a W h (hr.pend _) (Ext.pend _ _ _) rfl) fuel
  | .alt x y, fuel, listed, st, a, W, hl, h, hr, hp, hk => by
    have hlx : x.depth ≤ fuel := Nat.le_trans (Nat.le_max_left ..) hl
    have hly : y.depth ≤ fuel := Nat.le_trans (Nat.le_max_right ..) hl
    obtain ⟨_, ix⟩ := evalT_draw hsel hds x fuel listed st a W hlx h.1 hr hp hk
    obtain ⟨_, iy⟩ := evalT_draw hsel hds y fuel listed st a W hly h.2 hr hp hk
    have sub : ordOkT P ops true x listed = true → ordOkT P ops true y listed = true → ∀ j ∈ x.heads ++ y.heads, 0 < fuel ∧ wpOp P ops (Only Q) j (fun a' w' => keepsProm .any ops (promOf P st.pend) j w' ∧ wpV P .any ops (Only Q) (fuel - 1) (listed.setIfInBounds j true) (dropProm .any ops (promOf P st.pend) j) a' w') a W := by
      intro h1 h2 j hj
      rcases List.mem_append.1 hj with hj | hj
      · exact ix h1 j hj
      · exact iy h2 j hj
    refine ⟨fun hord => ?_, fun hord => ?_⟩
    · simp only [ordOkT, cond_false, Bool.and_eq_true, Bool.not_eq_true', List.all_eq_true, List.contains_iff_mem] at hord
      obtain ⟨⟨⟨hne, hall⟩, h1⟩, h2⟩ := hord
      have hs := sub h1 h2
      cases hre : Region.ready .any ops listed with
      | nil => rw [hre] at hne; simp at hne
      | cons j0 js =>
        have hpos := (hs j0 (hall j0 (by rw [hre]; exact List.mem_cons_self ..))).1
        obtain ⟨f, rfl⟩ : ∃ f, fuel = f + 1 := ⟨fuel - 1, by omega⟩
        exact ⟨fun h0 => (by rw [hre] at h0; cases h0), fun j hj => (hs j (hall j hj)).2⟩
    · simp only [ordOkT, cond_true, Bool.true_and, Bool.and_eq_true] at hord
      exact sub hord.1 hord.2
  | .op i r, 0, _, _, _, _, hl, _, _, _, _ => by simp [Ot.depth] at hl
  | .op i r, fuel + 1, listed, st, a, W, hl, h, hr, hp, hk => by
    have hl' : r.depth ≤ fuel := by simp [Ot.depth] at hl; omega
    unfold evalT at h
    cases ho : ops[i]? with
    | none => rw [ho] at h; exact h.elim
    | some o =>
      rw [ho] at h
      have hns : ∀ cs b, o.op ≠ .select cs b := fun cs b => Region.noSelect_spec hsel i o cs b ho
      have hd : dstOk n o = true := List.all_eq_true.1 hds o (Array.mem_toList_iff.2 (Array.mem_of_getElem? ho))
      obtain ⟨st1, hr1, hx1, hp1, hg1, hcase⟩ := guardF_sound h hr
      have hpo1 : PendOk P st1.pend st1.gs W := by rw [hp1, hg1]; exact hp
      rw [← hp1]
      have hpset : ∀ s : Slot, (st1.set o.dst s).pend = st1.pend := fun s => by cases o.dst <;> rfl
      have hgset : ∀ s : Slot, (st1.set o.dst s).gs = st1.gs := fun s => by cases o.dst <;> rfl
      cases hq : isQuiet P o with
      | true =>
        refine ⟨fun hord => ?_, fun hord => by simp [ordOkT, ho, hq] at hord⟩
        simp only [ordOkT, ho, hq, cond_false, cond_true, Bool.and_eq_true] at hord
        obtain ⟨⟨hready, hfree⟩, hrest⟩ := hord
        have main : ∀ (v : Value) (s : Slot) (p : Pend), (evalT P H ops r k ((st1.set o.dst s).put true p)).den → Rel n (st1.set o.dst s) (a.put o.dst v) W → p.idx = i → p.inGs st1.gs → p.holds P W →
            YieldsIf P ops (p.holds P) o v a → wpV P .any ops (Only Q) (fuel + 1) listed (promOf P st1.pend) a W := by
          intro v s p hden hrel hidx hin hS hy
          refine wpV_take ho hsel hfree hready (fun _ _ _ hx => hx) hy hS (promOf_holds hpo1) ?_
          have := (evalT_draw (Q := Q) hsel hds r fuel (listed.setIfInBounds i true) ((st1.set o.dst s).put true p) (a.put o.dst v) W hl' hden (hrel.putp _ _) ?_
            (hk.step (hx1.tr (((Ext.set _ _ _).mono (dst_sub ho)).tr (Ext.putp _ _ _ _))))).1 hrest
          · have he : promOf P ((st1.set o.dst s).put true p).pend = (i, p.holds P) :: promOf P st1.pend := by
              show promOf P (p :: (st1.set o.dst s).pend) = _
              rw [hpset, ← hidx]
              rfl
            rw [he] at this
            exact this
          · show PendOk P (p :: (st1.set o.dst s).pend) (st1.set o.dst s).gs W
            rw [hpset, hgset]
            intro q hqm
            rcases List.mem_cons.1 hqm with rfl | hqm
            · exact ⟨hin, hS⟩
            · exact hpo1 q hqm
        rcases hcase with ⟨hw, h1⟩ | ⟨hw, h1⟩
        · rw [hq] at h1
          obtain ⟨v, s, p, hden, hrel, hidx, hin, hS, hrun⟩ := evalQ_sound hns hd h1 hr1
          exact main v s p hden hrel hidx hin hS (.inl ⟨hw, hrun⟩)
        · exact main undef (.val undef) (.pure i) h1 (hr1.set hd trivial (fun _ => rfl)) rfl trivial trivial (.inr ⟨hw, rfl⟩)
      | false =>
        have step : ordOkT P ops false r (listed.setIfInBounds i true) = true → wpOp P ops (Only Q) i (fun a' w' => keepsProm .any ops (promOf P st1.pend) i w' ∧ wpV P .any ops (Only Q) fuel (listed.setIfInBounds i true) (dropProm .any ops (promOf P st1.pend) i) a' w') a W := by
          intro hrest
          unfold wpOp
          simp only [ho]
          rcases hcase with ⟨hw, h1⟩ | ⟨hw, h1⟩
          · simp only [hw, if_true]
            refine .inl ?_
            rw [hq] at h1
            refine evalE_sound hns hd h1 hr1 hpo1 ?_
            intro st' v W' hden hrel hext hpe hpo
            refine ⟨promOf_keeps (gs := st'.gs) (by rw [← hpe]; exact hpo), ?_⟩
            rw [promOf_drop, ← hpe]
            exact (evalT_draw hsel hds r fuel _ st' _ W' hl' hden hrel hpo (hk.step (hx1.tr (hext.mono (dst_sub ho))))).1 hrest
          · simp only [hw, Bool.false_eq_true, if_false]
            refine ⟨fun p hpm _ => promOf_holds hpo1 p hpm, ?_⟩
            have := (evalT_draw (Q := Q) hsel hds r fuel (listed.setIfInBounds i true) ((st1.set o.dst (.val undef)).put true (.pure i)) (a.put o.dst undef) W hl' h1 ((hr1.set hd (s := .val undef) trivial (fun _ => rfl)).putp _ _) ?_
              (hk.step (hx1.tr (((Ext.set _ _ _).mono (dst_sub ho)).tr (Ext.putp _ _ _ _))))).1 hrest
            · refine wpV_mono _ _ _ _ _ _ (fun p hpm => ?_) this
              have hpm' : p ∈ promOf P st1.pend := (List.mem_filter.1 hpm).1
              show p ∈ promOf P (.pure i :: (st1.set o.dst (.val undef)).pend)
              rw [hpset]
              exact List.mem_cons_of_mem _ hpm'
            · show PendOk P (.pure i :: (st1.set o.dst (.val undef)).pend) (st1.set o.dst (.val undef)).gs W
              rw [hpset, hgset]
              intro q hqm
              rcases List.mem_cons.1 hqm with rfl | hqm
              · exact ⟨trivial, trivial⟩
              · exact hpo1 q hqm
        refine ⟨fun hord => ?_, fun hord j hj => ?_⟩
        · simp only [ordOkT, ho, hq, cond_false, Bool.and_eq_true] at hord
          have hready : Region.ready .any ops listed = [i] := by simpa using hord.1
          exact wpV_one hready (step hord.2)
        · simp only [ordOkT, ho, hq, cond_true, Bool.not_false, Bool.true_and] at hord
          have hj : j = i := by simpa [Ot.heads] using hj
          subst hj
          exact ⟨by omega, step hord⟩
end
end Go.Vc
