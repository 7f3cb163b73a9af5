/- Soundness of the formula of an operation that changes the world: a box of the function's own, a store into one, a call, whatever others may see. -/
import Derived.Test.YtfipbnoidoljoaaVcEvalQ
namespace Go.Vc
open Go Go.RowKit

section
variable {P : Program} {H : Hints} {n : Nat}

def PendOk (P : Program) (l : List Pend) (gs : List Nat) (W : World) : Prop := ∀ p ∈ l, p.inGs gs ∧ p.holds P W

theorem leftPend_mem {wt : Nat → Bool} {l : List Pend} {p : Pend} (h : p ∈ leftPend wt l) : p ∈ l := (List.mem_filter.1 h).1

theorem PendOk.left {l : List Pend} {gs : List Nat} {W : World} (h : PendOk P l gs W) (wt : Nat → Bool) : PendOk P (leftPend wt l) gs W := fun p hp => h p (leftPend_mem hp)

theorem withW_den {st : St} {body : World → Fm} {a : Act} {W : World} (h : (withW st body).den) (hr : Rel n st a W) : (body W).den := by
  unfold withW at h
  cases hc : st.clean with
  | true => rw [hc] at h; rw [hr.clean hc]; exact h
  | false =>
    rw [hc] at h
    have h1 := h W (evoP_of hr.evo)
    split at h1
    · exact h1
    · rename_i g r hg
      exact h1 (by rw [← hg]; exact hr.gsLt)

theorem boxF_den {st : St} {a : Act} {W : World} (hr : Rel n st a W) : ∀ (l : List Nat) (f : Fm), (boxF st W l f).den → f.den
  | [], _, h => h
  | j :: r, f, h => by
    unfold boxF at h
    split at h
    · rename_i cells ty g hb hg
      exact boxF_den hr r f (h (hr.box hb hg))
    · exact boxF_den hr r f h

theorem keepF_den {gs : List Nat} {W W' : World} {f : Fm} (h : (keepF gs W W' f).den) : Keeps gs W W' ∧ f.den := by
  unfold keepF at h
  split at h
  · exact ⟨fun g hg => by simp at hg, h⟩
  · exact h

theorem pendF_den {ds : List Nat} {w : World} : ∀ (l : List Pend) (f : Fm), (pendF P ds w l f).den → (∀ i s v, Pend.read i s v ∈ l → Reads P ds s w v) ∧ f.den
  | [], _, h => ⟨fun _ _ _ hm => by simp at hm, h⟩
  | .read i s v :: r, f, h => by
    obtain ⟨h1, h2⟩ := pendF_den r f h.2
    refine ⟨fun i' s' v' hm => ?_, h2⟩
    rcases List.mem_cons.1 hm with hm | hm
    · cases hm; exact h.1
    · exact h1 i' s' v' hm
  | .pure i :: r, f, h => by
    obtain ⟨h1, h2⟩ := pendF_den r f h
    refine ⟨fun i' s' v' hm => ?_, h2⟩
    rcases List.mem_cons.1 hm with hm | hm
    · cases hm
    · exact h1 i' s' v' hm
  | .box i g c t :: r, f, h => by
    obtain ⟨h1, h2⟩ := pendF_den r f h
    refine ⟨fun i' s' v' hm => ?_, h2⟩
    rcases List.mem_cons.1 hm with hm | hm
    · cases hm
    · exact h1 i' s' v' hm

/-- What follows an operation, in the machine's terms. -/
def After (P : Program) (n : Nat) (wt : Nat → Bool) (o : Oper) (k : St → Fm) (st : St) (a : Act) (next : Act → World → Prop) : Prop :=
  ∀ st' v W', (k st').den → Rel n st' (a.put o.dst v) W' → Ext o.dst.toList st st' → st'.pend = leftPend wt st.pend → PendOk P st'.pend st'.gs W' → next (a.put o.dst v) W'

theorem alloc_size (W : World) (o : Obj) : (W.alloc o).heap.size = W.heap.size + 1 := Array.size_push ..

theorem evo_alloc {ds : List Nat} {w W : World} (h : Evo ds w W) (o : Obj) : Evo ds w (W.alloc o) :=
  ⟨h.os, h.tape, h.output, by have := h.size; rw [alloc_size]; omega, fun b hb hd => by rw [Below.heap_alloc W o b (by have := h.size; omega)]; exact h.block b hb hd, h.drawn⟩

theorem boxE_sound {wt : Nat → Bool} {o : Oper} {t : TypeId} {cells : List Value} {k : St → Fm} {st : St} {a : Act} {W : World} {next : Act → World → Prop} (hd : dstOk n o = true)
    (h : (boxE P wt o t cells k st).den) (hr : Rel n st a W) (hp : PendOk P st.pend st.gs W) (hk : After P n wt o k st a next) :
    next (a.put o.dst (.pointer (some ⟨W.heap.size, 0, none⟩))) (W.alloc (.cells cells.toArray t)) := by
  have h1 := h W.heap.size hr.evo.size
  obtain ⟨hreads, hden⟩ := pendF_den _ _ h1
  have hev := evo_alloc hr.evo (.cells cells.toArray t)
  have hnew : (W.alloc (.cells cells.toArray t)).heap[W.heap.size]? = some (.cells cells.toArray t (0, 0)) := heap_alloc_new W _
  have hval : ∀ s : Slot, s.okAt st.gs.length → s.value (st.gs ++ [W.heap.size]) = s.value st.gs := by
    intro s hs
    cases s with
    | loc j off =>
      have hj : j < st.gs.length := hs
      simp only [Slot.value, List.getD_eq_getElem?_getD]
      rw [List.getElem?_append_left hj]
    | _ => rfl
  have hrel0 : Rel n { st with boxes := st.boxes ++ [(cells, t)], gs := st.gs ++ [W.heap.size], clean := false, pend := leftPend wt st.pend } a (W.alloc (.cells cells.toArray t)) := by
    refine ⟨hr.defers, hr.size, fun t' s ht hs => ?_, fun t' s ht => ?_, fun j cs ty hj => ?_, by simp [hr.gsLen], ?_, fun g hg => ?_, hev, fun hc => by cases hc⟩
    · rw [hr.env t' s ht hs]; exact congrArg some (hval s (hr.locs t' s ht)).symm
    · have := hr.locs t' s ht
      cases s with
      | loc j off => exact Nat.lt_of_lt_of_le (show j < st.gs.length from this) (by simp)
      | _ => trivial
    · simp only at hj ⊢
      by_cases hlt : j < st.boxes.length
      · rw [List.getElem?_append_left hlt] at hj
        obtain ⟨g, hg, hc⟩ := hr.boxes j cs ty hj
        refine ⟨g, ?_, ?_⟩
        · rw [List.getElem?_append_left (by rw [hr.gsLen]; exact hlt)]; exact hg
        · rw [Below.heap_alloc W _ g (hr.gsLt g (List.mem_of_getElem? hg))]; exact hc
      · have hj' : j = st.boxes.length := by
          have := (List.getElem?_eq_some_iff.1 hj).1
          simp at this
          omega
        subst hj'
        simp at hj
        obtain ⟨rfl, rfl⟩ := hj
        exact ⟨W.heap.size, by rw [← hr.gsLen]; simp, hnew⟩
    · simp only
      rw [List.pairwise_append]
      exact ⟨hr.gsOrd, by simp, fun x hx y hy => by simp at hy; subst hy; exact hr.gsLt x hx⟩
    · simp only [List.mem_append, List.mem_singleton] at hg
      rcases hg with hg | hg
      · have := hr.gsLt g hg; rw [alloc_size]; omega
      · subst hg; rw [alloc_size]; omega
  refine hk _ _ _ hden (hrel0.set hd ?_ ?_) ?_ ?_ ?_
  · show st.boxes.length < (st.gs ++ [W.heap.size]).length
    simp [hr.gsLen]
  · intro _
    simp only [Slot.value]
    rw [← hr.gsLen]
    simp [List.getD_eq_getElem?_getD]
  · refine Ext.trans (ds := []) (b := { st with boxes := st.boxes ++ [(cells, t)], gs := st.gs ++ [W.heap.size], clean := false, pend := leftPend wt st.pend }) ⟨fun _ _ => rfl, ?_, rfl, fun j _ hj => ?_, fun j c ty hj => ⟨c, ?_⟩⟩ (Ext.set _ _ _)
    · exact List.prefix_append _ _
    · exact List.getElem?_append_left hj
    · show (st.boxes ++ _)[j]? = _
      rw [List.getElem?_append_left (List.getElem?_eq_some_iff.1 hj).1]; exact hj
  · cases o.dst <;> rfl
  · have hgs : ({ st with boxes := st.boxes ++ [(cells, t)], gs := st.gs ++ [W.heap.size], clean := false, pend := leftPend wt st.pend }.set o.dst (.loc st.boxes.length 0)).gs = st.gs ++ [W.heap.size] := by cases o.dst <;> rfl
    have hpd : ({ st with boxes := st.boxes ++ [(cells, t)], gs := st.gs ++ [W.heap.size], clean := false, pend := leftPend wt st.pend }.set o.dst (.loc st.boxes.length 0)).pend = leftPend wt st.pend := by cases o.dst <;> rfl
    rw [hgs, hpd]
    intro p hpm
    obtain ⟨hin, hh⟩ := hp p (leftPend_mem hpm)
    cases p with
    | pure i => exact ⟨trivial, trivial⟩
    | box i g c ty =>
      refine ⟨List.mem_append_left _ hin, ?_⟩
      show (W.alloc _).heap[g]? = _
      rw [Below.heap_alloc W _ g (hr.gsLt g hin)]
      exact hh
    | read i s v => exact ⟨trivial, hreads i s v hpm _ (evoP_of hev)⟩

theorem storeE_sound {wt : Nat → Bool} {o : Oper} {t : TypeId} {j off : Nat} {v : Value} {k : St → Fm} {st : St} {a : Act} {W : World} {next : Act → World → Prop} (hd : dstOk n o = true)
    (h : (storeE P wt o t j off v k st).den) (hr : Rel n st a W) (hp : PendOk P st.pend st.gs W) (hk : After P n wt o k st a next) :
    ∃ W', (Instr.storeAt t (.pointer (some ⟨st.gs.getD j 0, off, none⟩)) v).run P W = .ok () W' ∧ next (a.put o.dst undef) W' := by
  unfold storeE at h
  split at h
  · rename_i cells ty g hb hg
    have hgd : st.gs.getD j 0 = g := by simp [List.getD_eq_getElem?_getD, hg]
    split at h
    · rename_i cells' hc
      obtain ⟨W', hrun, hW, hoth, hsz, hos, htp, hout⟩ := run_cellStore (P := P) (hr.box hb hg) hc
      refine ⟨W', by rw [hgd]; exact hrun, ?_⟩
      cases hbad : (has st.ro j || (leftPend wt st.pend).any Pend.isBox) with
      | true => rw [hbad] at h; exact h.elim
      | false =>
        rw [hbad] at h
        simp only [Bool.or_eq_false_iff] at hbad
        obtain ⟨hreads, hden⟩ := pendF_den _ _ h
        have hjl : j < st.boxes.length := (List.getElem?_eq_some_iff.1 hb).1
        have hev : Evo (g :: st.dirty) st.w W' := ⟨hos.trans hr.evo.os, htp.trans hr.evo.tape, hout.trans hr.evo.output, by rw [hsz]; exact hr.evo.size, fun b hbl hbd => by
          simp only [List.mem_cons, not_or] at hbd
          rw [hoth b hbd.1]
          exact hr.evo.block b hbl hbd.2, Nat.le_trans hr.evo.drawn (run_drawn hrun)⟩
        have hrel0 : Rel n { st with boxes := st.boxes.set j (cells', ty), dirty := g :: st.dirty, clean := false, pend := leftPend wt st.pend } a W' := by
          refine ⟨hr.defers, hr.size, hr.env, hr.locs, fun i cs ty' hi => ?_, by simp [hr.gsLen], hr.gsOrd, fun g' hg' => by rw [hsz]; exact hr.gsLt g' hg', hev, fun hc => by cases hc⟩
          simp only at hi ⊢
          by_cases hij : j = i
          · subst hij
            rw [List.getElem?_set_self hjl] at hi
            cases hi
            exact ⟨g, hg, hW⟩
          · rw [List.getElem?_set_ne hij] at hi
            obtain ⟨g', hg', hc'⟩ := hr.boxes i cs ty' hi
            refine ⟨g', hg', ?_⟩
            rw [hoth g' ?_]
            · exact hc'
            · intro e
              subst e
              obtain ⟨hl1, he1⟩ := List.getElem?_eq_some_iff.1 hg
              obtain ⟨hl2, he2⟩ := List.getElem?_eq_some_iff.1 hg'
              have hpw := List.pairwise_iff_getElem.1 hr.gsOrd
              rcases Nat.lt_or_gt_of_ne hij with hlt | hlt
              · have := hpw j i hl1 hl2 hlt; omega
              · have := hpw i j hl2 hl1 hlt; omega
        have hgs : ({ st with boxes := st.boxes.set j (cells', ty), dirty := g :: st.dirty, clean := false, pend := leftPend wt st.pend }.set o.dst .dead).gs = st.gs := by cases o.dst <;> rfl
        have hpd : ({ st with boxes := st.boxes.set j (cells', ty), dirty := g :: st.dirty, clean := false, pend := leftPend wt st.pend }.set o.dst .dead).pend = leftPend wt st.pend := by cases o.dst <;> rfl
        refine hk _ _ _ hden (hrel0.set hd trivial (fun hx => by cases hx)) ?_ hpd ?_
        · refine Ext.trans (ds := []) (b := { st with boxes := st.boxes.set j (cells', ty), dirty := g :: st.dirty, clean := false, pend := leftPend wt st.pend }) ⟨fun _ _ => rfl, List.prefix_rfl, rfl, fun i hi _ => ?_, fun i c ty' hi => ?_⟩ (Ext.set _ _ _)
          · refine List.getElem?_set_ne ?_
            intro e
            subst e
            have : has st.ro j = true := by
              simp only [has, List.any_eq_true]
              exact ⟨j, hi, Nat.beq_refl j⟩
            rw [this] at hbad
            exact absurd hbad.1 (by simp)
          · show ∃ c', (st.boxes.set j (cells', ty))[i]? = some (c', ty')
            by_cases hij : j = i
            · subst hij
              rw [hb] at hi
              cases hi
              exact ⟨cells', List.getElem?_set_self hjl⟩
            · exact ⟨c, by rw [List.getElem?_set_ne hij]; exact hi⟩
        · rw [hgs, hpd]
          intro p hpm
          obtain ⟨hin, hh⟩ := hp p (leftPend_mem hpm)
          cases p with
          | pure i => exact ⟨trivial, trivial⟩
          | box i g' c ty' =>
            have := List.any_eq_false.1 hbad.2 _ hpm
            simp [Pend.isBox] at this
          | read i s u => exact ⟨trivial, hreads i s u hpm _ (evoP_of hev)⟩
    · exact h.elim
  · exact h.elim

/-- Behind a call, or whatever others may see. -/
theorem Rel.after {st : St} {a : Act} {W W' : World} (hr : Rel n st a W) (wt : Nat → Bool) (hkeep : Keeps st.gs W W') : Rel n (afterW wt st W') a W' := by
  refine ⟨hr.defers, hr.size, hr.env, hr.locs, fun j cs ty hj => ?_, hr.gsLen, hr.gsOrd, fun g hg => ?_, Evo.refl _, fun _ => rfl⟩
  · obtain ⟨g, hg, hc⟩ := hr.boxes j cs ty hj
    exact ⟨g, hg, by rw [hkeep g (List.mem_of_getElem? hg)]; exact hc⟩
  · have h1 := hkeep g hg
    have h2 := hr.gsLt g hg
    rw [Array.getElem?_eq_getElem h2] at h1
    exact (Array.getElem?_eq_some_iff.1 h1).1

theorem pend_after {wt : Nat → Bool} {st : St} {W W' : World} (hp : PendOk P st.pend st.gs W) (hkeep : Keeps st.gs W W') (hreads : ∀ i s v, Pend.read i s v ∈ leftPend wt st.pend → Reads P [] s W' v) :
    PendOk P (leftPend wt st.pend) st.gs W' := by
  intro p hpm
  obtain ⟨hin, hh⟩ := hp p (leftPend_mem hpm)
  cases p with
  | pure i => exact ⟨trivial, trivial⟩
  | box i g c ty => exact ⟨hin, (hkeep g hin).trans hh⟩
  | read i s v => exact ⟨trivial, hreads i s v hpm W' (Bel.refl _)⟩

theorem tail_sound {wt : Nat → Bool} {o : Oper} {k : St → Fm} {st : St} {a : Act} {W W' : World} {next : Act → World → Prop} {s : Slot} {v : Value} (hd : dstOk n o = true) (hr : Rel n st a W)
    (hp : PendOk P st.pend st.gs W) (hk : After P n wt o k st a next) (hs : s.okAt st.gs.length) (hv : s.alive = true → v = s.value st.gs)
    (h : (keepF st.gs W W' (pendF P [] W' (leftPend wt st.pend) (k ((afterW wt st W').set o.dst s)))).den) : next (a.put o.dst v) W' := by
  obtain ⟨hkeep, h1⟩ := keepF_den h
  obtain ⟨hreads, hden⟩ := pendF_den _ _ h1
  have hrel := hr.after wt hkeep
  have hgs : ((afterW wt st W').set o.dst s).gs = st.gs := by cases o.dst <;> rfl
  have hpd : ((afterW wt st W').set o.dst s).pend = leftPend wt st.pend := by cases o.dst <;> rfl
  refine hk _ _ _ hden (hrel.set hd hs hv) ?_ hpd ?_
  · exact Ext.trans (ds := []) (b := afterW wt st W') ⟨fun _ _ => rfl, List.prefix_rfl, rfl, fun _ _ _ => rfl, fun _ c _ h => ⟨c, h⟩⟩ (Ext.set _ _ _)
  · rw [hgs, hpd]; exact pend_after hp hkeep hreads

theorem upon_of_opw {o : Oper} {a : Act} {next : Act → World → Prop} {Q : Exit → Act → World → Prop} {s : Sem Next} {W : World} {K : Value → World → Prop} (h : OpW P s W K)
    (hn : ∀ v W', K v W' → next (a.put o.dst v) W') : o.upon P a next Q (s.run P W) := by
  unfold OpW at h
  generalize s.run P W = r at h ⊢
  cases r with
  | halt x w => exact h.elim
  | ok x w =>
    cases x <;> try exact h.elim
    case value v => exact hn v w h
    case skip => exact hn _ w h
    case enter f args =>
      refine Calls.mono h fun e w'' he => ?_
      obtain ⟨v, rfl, hv⟩ := he
      exact hn v w'' hv

theorem effV_sound {wt : Nat → Bool} {o : Oper} {k : St → Fm} {st : St} {a : Act} {W : World} {next : Act → World → Prop} {Q : Exit → Act → World → Prop} (hns : ∀ cs b, o.op ≠ .select cs b) (hd : dstOk n o = true) (hal : st.alive o = true)
    (h : (effV P wt o k st).den) (hr : Rel n st a W) (hp : PendOk P st.pend st.gs W) (hk : After P n wt o k st a next) : o.wp P a W next Q := by
  have h1 := boxF_den hr _ _ (withW_den h hr)
  unfold Oper.wp
  rw [hr.exec hns hal, ← effSem_spec]
  refine upon_of_opw h1 fun v W' hv => ?_
  obtain ⟨x, rfl, hx⟩ := Sh.exF_den _ _ hv
  exact tail_sound (s := .val _) hd hr hp hk trivial (fun _ => rfl) hx

theorem effU_sound {wt : Nat → Bool} {o : Oper} {k : St → Fm} {st : St} {a : Act} {W : World} {next : Act → World → Prop} {Q : Exit → Act → World → Prop} (hns : ∀ cs b, o.op ≠ .select cs b) (hd : dstOk n o = true) (hal : st.alive o = true)
    (h : (effU P wt o k st).den) (hr : Rel n st a W) (hp : PendOk P st.pend st.gs W) (hk : After P n wt o k st a next) : o.wp P a W next Q := by
  have h1 := boxF_den hr _ _ (withW_den h hr)
  unfold Oper.wp
  rw [hr.exec hns hal, ← effSem_spec]
  refine upon_of_opw h1 fun v W' hv => ?_
  exact tail_sound (s := .dead) hd hr hp hk trivial (fun hx => by cases hx) hv

theorem nextE_sound {wt : Nat → Bool} {o : Oper} {k : St → Fm} {st : St} {a : Act} {W : World} {next : Act → World → Prop} {Q : Exit → Act → World → Prop} (hns : ∀ cs b, o.op ≠ .select cs b) (hd : dstOk n o = true) (hal : st.alive o = true)
    (h : (nextE P H wt o k st).den) (hr : Rel n st a W) (hp : PendOk P st.pend st.gs W) (hk : After P n wt o k st a next) : o.wp P a W next Q := by
  have h1 := boxF_den hr _ _ (withW_den h hr)
  unfold Oper.wp
  rw [hr.exec hns hal, ← effSem_spec]
  refine upon_of_opw h1 fun v W' hv => ?_
  obtain ⟨hv0, hv1, hv2⟩ := hv
  rcases hv0 with rfl | ⟨x, rfl⟩
  · exact tail_sound (s := .val _) hd hr hp hk trivial (fun _ => rfl) (hv1 rfl)
  · exact tail_sound (s := .val _) hd hr hp hk trivial (fun _ => rfl) (Sh.allF_den _ _ hv2 x rfl)

theorem callE_sound {wt : Nat → Bool} {o : Oper} {f : FuncId} {args : Array Value} {k : St → Fm} {st : St} {a : Act} {W : World} {next : Act → World → Prop} {Q : Exit → Act → World → Prop} (hns : ∀ cs b, o.op ≠ .select cs b) (hd : dstOk n o = true) (hal : st.alive o = true)
    (hrun : pureRun P (execOp st.rho o) = some (.enter f args))
    (h : (callE P wt o f args k st).den) (hr : Rel n st a W) (hp : PendOk P st.pend st.gs W) (hk : After P n wt o k st a next) : o.wp P a W next Q := by
  have h1 := boxF_den hr _ _ (withW_den h hr)
  unfold Oper.wp
  rw [hr.exec hns hal, pureRun_run hrun W]
  refine Calls.mono h1 fun e w'' he => ?_
  obtain ⟨x, rfl, hx⟩ := Sh.exF_den _ _ he
  exact tail_sound (s := .val _) hd hr hp hk trivial (fun _ => rfl) hx

theorem evalE_sound {wt : Nat → Bool} {o : Oper} {k : St → Fm} {st : St} {a : Act} {W : World} {next : Act → World → Prop} {Q : Exit → Act → World → Prop} (hns : ∀ cs b, o.op ≠ .select cs b) (hd : dstOk n o = true)
    (h : (evalE P H wt o k st).den) (hr : Rel n st a W) (hp : PendOk P st.pend st.gs W) (hk : After P n wt o k st a next) : o.wp P a W next Q := by
  unfold evalE at h
  cases hal : st.alive o with
  | false => rw [hal] at h; exact h.elim
  | true =>
    rw [hal] at h
    simp only [cond_true] at h
    have he := hr.exec hns hal
    split at h
    case h_1 t x ho =>
      cases hpr : hasO H.promo o.dst with
      | false => rw [hpr] at h; exact effV_sound hns hd hal h hr hp hk
      | true =>
        rw [hpr] at h
        have := boxE_sound hd h hr hp hk
        unfold Oper.wp
        rw [he]
        have hx : execOp st.rho o = valueS (Instr.box t (st.rho x)) := by simp [execOp, ho, valueS]
        rw [hx, run_valueS (run_box (P := P))]
        show next _ _
        simpa using this
    case h_2 t ho =>
      cases hpr : hasO H.promo o.dst with
      | false => rw [hpr] at h; exact effV_sound hns hd hal h hr hp hk
      | true =>
        rw [hpr] at h
        simp only [cond_true] at h
        split at h
        · rename_i z hz
          have := boxE_sound hd h hr hp hk
          unfold Oper.wp
          rw [he]
          have hx : execOp st.rho o = valueS (Instr.alloc t true (.tuple #[])) := by simp [execOp, ho, valueS]
          rw [hx, run_valueS (run_alloc hz)]
          show next _ _
          simpa using this
        · exact h.elim
    case h_3 t ad x ho =>
      split at h
      · rename_i j off hs
        obtain ⟨W', hrun, hnext⟩ := storeE_sound hd h hr hp hk
        unfold Oper.wp
        rw [he]
        have hx : execOp st.rho o = skipS (Instr.storeAt t (st.rho ad) (st.rho x)) := by simp [execOp, ho, skipS]
        have hade : st.rho ad = .pointer (some ⟨st.gs.getD j 0, off, none⟩) := by rw [St.rho, hs]; rfl
        rw [hx, hade]
        unfold skipS
        rw [run_bind_ok hrun]
        exact hnext
      · exact effU_sound hns hd hal h hr hp hk
    case h_4 => exact effU_sound hns hd hal h hr hp hk
    case h_5 => exact effU_sound hns hd hal h hr hp hk
    case h_6 => exact effU_sound hns hd hal h hr hp hk
    case h_7 => exact nextE_sound hns hd hal h hr hp hk
    case h_8 c ho =>
      split at h
      · cases hop : hasO H.asks o.dst with
        | true => rw [hop] at h; exact effV_sound hns hd hal h hr hp hk
        | false =>
          rw [hop] at h
          simp only [cond_false] at h
          split at h
          · rename_i f args hpr
            exact callE_sound hns hd hal hpr h hr hp hk
          · exact h.elim
      · exact effV_sound hns hd hal h hr hp hk
    case h_9 => exact effV_sound hns hd hal h hr hp hk
end
end Go.Vc
