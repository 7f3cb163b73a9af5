/- Soundness of the formula of a function: whoever proves the formula has proved what a call of the function comes to. -/
import Derived.Test.YtfipbnoidoljoaaVcSound
import Derived.Scope
namespace Go.Vc
open Go Go.RowKit

section
variable {P : Program} {H : Hints} {n : Nat}

theorem near_refl (h : LH) (ds : List Nat) (st : St) (ro : List Nat) : Near h ds st { st with ro := ro } :=
  ⟨fun _ _ => rfl, List.prefix_rfl, fun _ _ _ => rfl, fun _ c _ hj => ⟨c, hj⟩⟩

theorem near_rel {h : LH} {ds : List Nat} {st st' : St} (hn : Near h ds st st') : Near h ds st (relSt st st') := ⟨hn.env, hn.gs, hn.box, hn.ty⟩

theorem head_len {h : LH} {ds : List Nat} {st : St} {vs : List Value} {w : World} {ro : List Nat} : (headSt h ds st vs w ro).boxes.length = st.boxes.length :=
  (setBoxes_keep st.env h.boxes (vs.drop h.vars.length) st.boxes).1

theorem near_trans {h : LH} {ds : List Nat} {st st1 st2 : St} (hn : Near h ds st st1) (hx : Ext ds st1 st2) (hro : st1.ro = lockRo h st) (hl : st.boxes.length ≤ st1.boxes.length) : Near h ds st st2 := near_lock hn hro hx hl

theorem wpC_sound (hm : P.follows .mixedOrders = true) : ∀ (c : Code) (K : Ex → St → Fm) (st : St) (a : Act) (W : World) (Q : Exit → Act → World → Prop),
    codeOk P H n c = true → st.pend = [] → (wpC P H c K st).den → Rel n st a W → Done n (dsts c) K st Q → c.wp P Q a W := by
  intro c
  induction c with
  | skip => intro K st a W Q _ hp h hr hk; exact wp_skip (hk .normal st a W h hr (Ext.refl _ _) hp)
  | region id ops dr => intro K st a W Q hok hp h hr hk; exact region_sound hm hok hp h hr hk
  | seq x y ihx ihy =>
    intro K st a W Q hok hp h hr hk
    simp only [codeOk, Bool.and_eq_true] at hok
    unfold wpC at h
    have hsx : ∀ t ∈ dsts x, t ∈ dsts (.seq x y) := fun t ht => List.mem_append_left _ ht
    have hsy : ∀ t ∈ dsts y, t ∈ dsts (.seq x y) := fun t ht => List.mem_append_right _ ht
    refine wp_seq ?_
    split at h
    · rename_i lh hcut
      cases hh : hintOk lh (dsts x) st with
      | false => rw [hh] at h; exact h.elim
      | true =>
        rw [hh] at h
        obtain ⟨J, hx, hy⟩ := h
        have hlock : Near lh (dsts x) st { st with ro := lockRo lh st } := near_refl _ _ _ _
        refine ihx _ { st with ro := lockRo lh st } a W _ hok.1 hp hx (rel_ro hr _) ?_
        intro e st' a' W' hd hr' hx' hp'
        have hnear := near_trans hlock hx' rfl (Nat.le_refl _)
        cases e with
        | normal =>
          obtain ⟨v, hv, hJ⟩ := arrive_den hd hr'
          have hyv := Sh.allF_den _ _ hy v W' hJ
          have hrel := rel_head hh hnear hr.locs hr.gsLen hv hr' st.ro
          refine ihy K _ a' W' Q hok.2 rfl hyv hrel ?_
          refine hk.step ?_ hsy
          exact (ext_of_near hh (near_head hh) rfl).mono hsx
        | exit id => exact hk (.exit id) (relSt st st') a' W' hd (rel_ro hr' _) ((ext_of_near hh (near_rel hnear) rfl).mono hsx) hp'
        | ret => exact hk .ret (relSt st st') a' W' hd (rel_ro hr' _) ((ext_of_near hh (near_rel hnear) rfl).mono hsx) hp'
    · refine ihx _ st a W _ hok.1 hp h hr ?_
      intro e st' a' W' hd hr' hx' hp'
      cases e with
      | normal => exact ihy K st' a' W' Q hok.2 hp' hd hr' (hk.step (hx'.mono hsx) hsy)
      | exit id => exact hk (.exit id) st' a' W' hd hr' (hx'.mono hsx) hp'
      | ret => exact hk .ret st' a' W' hd hr' (hx'.mono hsx) hp'
  | cond c x y ihx ihy =>
    intro K st a W Q hok hp h hr hk
    simp only [codeOk, Bool.and_eq_true] at hok
    have hsx : ∀ t ∈ dsts x, t ∈ dsts (.cond c x y) := fun t ht => List.mem_append_right _ (List.mem_append_left _ ht)
    have hsy : ∀ t ∈ dsts y, t ∈ dsts (.cond c x y) := fun t ht => List.mem_append_right _ (List.mem_append_right _ ht)
    unfold wpC at h
    split at h
    · rename_i hc
      have he : a.eval c = .bool true := by rw [hr.rho (x := c) (by rw [hc]; rfl), St.rho, hc]; rfl
      exact wp_cond_true he (ihx K st a W Q hok.1 hp h hr (hk.step (Ext.refl _ _) hsx))
    · rename_i hc
      have he : a.eval c = .bool false := by rw [hr.rho (x := c) (by rw [hc]; rfl), St.rho, hc]; rfl
      exact wp_cond_false he (ihy K st a W Q hok.2 hp h hr (hk.step (Ext.refl _ _) hsy))
    · rename_i v hc
      have he : a.eval c = .bool v := by rw [hr.rho (x := c) (by rw [hc]; rfl), St.rho, hc]; rfl
      split at h
      · rename_i t
        have hl : look st.env t = some (.val (.bool v)) := by
          simp only [St.slot] at hc
          cases hlk : look st.env t with
          | none => rw [hlk] at hc; cases hc
          | some s => rw [hlk] at hc; exact congrArg some hc
        cases hop : has H.splits t with
        | true =>
          rw [hop] at h
          have hin : t ∈ dsts (.cond (.tmp t) x y) := List.mem_append_left _ (List.mem_singleton.2 rfl)
          refine wp_cond_split he (fun hv => ?_) (fun hv => ?_)
          · subst hv
            exact ihx K { st with env := (t, .lit true) :: st.env } a W Q hok.1 hp (h.1 rfl) (hr.lit hl) (hk.step (Ext.lit st (.lit true) hin) hsx)
          · subst hv
            exact ihy K { st with env := (t, .lit false) :: st.env } a W Q hok.2 hp (h.2 rfl) (hr.lit hl) (hk.step (Ext.lit st (.lit false) hin) hsy)
        | false =>
          rw [hop] at h
          simp only [cond_false] at h
          cases v with
          | true => exact wp_cond_true he (ihx K st a W Q hok.1 hp h hr (hk.step (Ext.refl _ _) hsx))
          | false => exact wp_cond_false he (ihy K st a W Q hok.2 hp h hr (hk.step (Ext.refl _ _) hsy))
      · exact h.elim
    · exact h.elim
  | block id b ih =>
    intro K st a W Q hok hp h hr hk
    unfold wpC at h
    refine wp_block (ih _ st a W _ hok hp h hr ?_)
    intro e st' a' W' hd hr' hx' hp'
    cases e with
    | normal => exact hk .normal st' a' W' hd hr' hx' hp'
    | exit id' =>
      simp only at hd
      cases hb : Nat.beq id' id with
      | true =>
        rw [hb] at hd
        have := Nat.eq_of_beq_eq_true hb
        show Exit.inBlock id Q (.exit id') a' W'
        simp only [Exit.inBlock, this, if_true]
        exact hk .normal st' a' W' hd hr' hx' hp'
      | false =>
        rw [hb] at hd
        have hne : id' ≠ id := fun e => by rw [e, Nat.beq_refl] at hb; cases hb
        show Exit.inBlock id Q (.exit id') a' W'
        simp only [Exit.inBlock, hne, if_false]
        exact hk (.exit id') st' a' W' hd hr' hx' hp'
    | ret => exact hk .ret st' a' W' hd hr' hx' hp'
  | scope b ih =>
    intro K st a W Q hok hp h hr hk
    unfold wpC at h
    refine wp_scope_straight (ih K st a W _ hok hp h hr ?_)
    intro e st' a' W' hd hr' hx' hp'
    have := hk e st' a' W' hd hr' hx' hp'
    cases e <;> exact this
  | label l =>
    intro K st a W Q hok hp h hr hk
    unfold wpC at h
    exact wp_label (hk .normal st a W h hr (Ext.refl _ _) hp)
  | loop b ih =>
    intro K st a W Q hok hp h hr hk
    unfold wpC at h
    split at h
    · rename_i m hun
      refine wp_loop_rounds m ?_
      clear hun
      have key : ∀ (m : Nat) (st1 : St) (a : Act) (W : World), st1.pend = [] → Ext (dsts b) st st1 → (Nat.rec (motive := fun _ => St → Fm) (fun _ => .bad 52) (fun _ ih st => wpC P H b (fun e st' => match e with
          | .normal => ih st'
          | e => K e st') st) m st1 : Fm).den → Rel n st1 a W → Code.rounds P b Q m a W := by
        intro m
        induction m with
        | zero => intro st1 a W _ _ hd _; exact hd.elim
        | succ m ihm =>
          intro st1 a W hp1 hx1 hd hr1
          rw [rounds_succ]
          refine ih _ st1 a W _ hok hp1 hd hr1 ?_
          intro e st' a' W' hd' hr' hx' hp'
          cases e with
          | normal => exact ihm st' a' W' hp' (hx1.tr hx') hd' hr'
          | exit id => exact hk (.exit id) st' a' W' hd' hr' (hx1.tr hx') hp'
          | ret => exact hk .ret st' a' W' hd' hr' (hx1.tr hx') hp'
      exact key m st a W hp (Ext.refl _ _) h hr
    · split at h
      · rename_i lh hlp
        cases hh : hintOk lh (dsts b) st with
        | false => rw [hh] at h; exact h.elim
        | true =>
          rw [hh] at h
          obtain ⟨J, m, h0, hround⟩ := h
          obtain ⟨x0, hv0, hJ0⟩ := arrive_den h0 hr
          have hnear0 : Near lh (dsts b) st st := ⟨fun _ _ => rfl, List.prefix_rfl, fun _ _ _ => rfl, fun _ c _ hj => ⟨c, hj⟩⟩
          refine wp_loop_ghost (fun k a W => ∃ x, k = m x W ∧ J x W ∧ Rel n (headSt lh (dsts b) st (lh.sh.vals x) W (lockRo lh st)) a W) (m x0 W) ⟨x0, rfl, hJ0, rel_head hh hnear0 hr.locs hr.gsLen hv0 hr _⟩ ?_
          rintro k a1 W1 ⟨x, rfl, hJ, hr1⟩
          have hb := Sh.allF_den _ _ hround x W1 hJ
          refine ih _ _ a1 W1 _ hok rfl hb hr1 ?_
          intro e st' a' W' hd hr' hx' hp'
          have hnear : Near lh (dsts b) st st' := near_trans (near_head hh) hx' rfl (by rw [head_len]; exact Nat.le_refl _)
          cases e with
          | normal =>
            obtain ⟨y, hv, hJ', hlt⟩ := arrive_den hd hr'
            exact ⟨m y W', hlt, y, rfl, hJ', rel_head hh hnear hr.locs hr.gsLen hv hr' _⟩
          | exit id => exact hk (.exit id) (relSt st st') a' W' hd (rel_ro hr' _) (ext_of_near hh (near_rel hnear) rfl) hp'
          | ret => exact hk .ret (relSt st st') a' W' hd (rel_ro hr' _) (ext_of_near hh (near_rel hnear) rfl) hp'
      · exact h.elim
  | exit id => intro K st a W Q _ hp h hr hk; exact wp_exit (hk (.exit id) st a W h hr (Ext.refl _ _) hp)
  | ret => intro K st a W Q _ hp h hr hk; exact wp_ret (hk .ret st a W h hr (Ext.refl _ _) hp)
  | rangeFunc f ps x y => intro K st a W Q _ hp h hr hk; exact h.elim
  | goto l => intro K st a W Q _ hp h hr hk; exact h.elim
  | refuse why => intro K st a W Q _ hp h hr hk; exact h.elim

/-! ### Results -/
theorem run_pure {α : Type} (P : Program) (x : α) (W : World) : (pure x : Sem α).run P W = .ok x W := rfl

def resSem (tmps : Array Value) : ResultVar → Sem Value
  | .tmp t => pure (tmps.getD t undef)
  | .cell a t => do loadVar t (← asAddr (tmps.getD a undef))

def AllRun (P : Program) (tmps : Array Value) (W : World) : List ResultVar → List Value → Prop
  | [], [] => True
  | r :: l, v :: vs => (resSem tmps r).run P W = .ok v W ∧ AllRun P tmps W l vs
  | _, _ => False

theorem run_mapM {tmps : Array Value} {W : World} : ∀ (l : List ResultVar) (vs : List Value), AllRun P tmps W l vs → (l.mapM (resSem tmps)).run P W = .ok vs W
  | [], [], _ => rfl
  | [], _ :: _, h => h.elim
  | _ :: _, [], h => h.elim
  | r :: l, v :: vs, h => by
    rw [List.mapM_cons, run_bind_ok h.1, run_bind_ok (run_mapM l vs h.2)]
    rfl

/-- How a function's results are handed back. -/
def packed : List Value → Value
  | [v] => v
  | l => .tuple l.toArray

theorem run_results {fn : Func} {tmps : Array Value} {W : World} {vs : List Value} (h : AllRun P tmps W fn.results.toList vs) : (results fn tmps).run P W = .ok (packed vs) W := by
  have h1 : (fn.results.mapM (resSem tmps)).run P W = .ok vs.toArray W := by
    rw [Array.mapM_eq_mapM_toList, map_eq_pure_bind, run_bind_ok (run_mapM _ _ h), run_pure]
  have he : results fn tmps = (fn.results.mapM (resSem tmps)) >>= fun vs => pure (if h : vs.size = 1 then vs[0] else .tuple vs) := by
    unfold results
    congr
  rw [he, run_bind_ok h1]
  match vs with
  | [] => rfl
  | [v] => rfl
  | v :: u :: r => rfl

theorem resultsF_sound {R : Ending → World → Prop} {a : Act} {W : World} : ∀ (l : List ResultVar) (acc : List Value) (st : St), (resultsF P R l acc st).den → Rel n st a W →
    ∃ vs, AllRun P a.tmps W l vs ∧ R (.returned (packed (acc.reverse ++ vs))) W
  | [], acc, st, h, hr => by
    have h1 := withW_den h hr
    refine ⟨[], trivial, ?_⟩
    rw [List.append_nil]
    have : (match acc.reverse with
      | [v] => v
      | l => Value.tuple l.toArray) = packed acc.reverse := by
      unfold packed
      split <;> rfl
    rw [← this]
    exact h1
  | .tmp t :: r, acc, st, h, hr => by
    unfold resultsF at h
    split at h
    · rename_i s hs
      cases hal : s.alive with
      | false => rw [hal] at h; exact h.elim
      | true =>
        rw [hal] at h
        obtain ⟨vs, h1, h2⟩ := resultsF_sound r (s.value st.gs :: acc) st h hr
        refine ⟨s.value st.gs :: vs, ⟨?_, h1⟩, by simpa using h2⟩
        have := hr.env t s hs hal
        simp [resSem, this]
    · exact h.elim
  | .cell ad t :: r, acc, st, h, hr => by
    unfold resultsF at h
    split at h
    · rename_i j off hs
      have hgt := hr.env ad _ hs rfl
      split at h
      · rename_i cells ty hb
        split at h
        · rename_i v hv
          obtain ⟨vs, h1, h2⟩ := resultsF_sound r (v :: acc) st h hr
          refine ⟨v :: vs, ⟨?_, h1⟩, by simpa using h2⟩
          obtain ⟨g, hg, hc⟩ := hr.boxes j cells ty hb
          have hgd : st.gs.getD j 0 = g := by simp [List.getD_eq_getElem?_getD, hg]
          have hload := run_cellLoad (P := P) hc hv
          have hval : a.tmps.getD ad undef = .pointer (some ⟨g, off, none⟩) := by
            simp only [Array.getD_eq_getD_getElem?, hgt, Option.getD_some, Slot.value, hgd]
          have e1 : (asAddr (.pointer (some ⟨g, off, none⟩))).run P W = .ok ⟨g, off, none⟩ W := rfl
          have e2 : (Instr.sureAddr (.pointer (some ⟨g, off, none⟩))).run P W = .ok ⟨g, off, none⟩ W := rfl
          show ((asAddr (a.tmps.getD ad undef)) >>= fun x => loadVar t x).run P W = _
          rw [hval, run_bind_ok e1]
          unfold Instr.loadAt at hload
          rw [run_bind_ok e2] at hload
          exact hload
        · exact h.elim
      · exact h.elim
    · rename_i p hs
      have hgt := hr.env ad _ hs rfl
      obtain ⟨x, hrd, hd⟩ := Sh.exF_den _ _ h
      obtain ⟨vs, h1, h2⟩ := resultsF_sound r ((shapeOf P t).mk x :: acc) st hd hr
      refine ⟨(shapeOf P t).mk x :: vs, ⟨?_, h1⟩, by simpa using h2⟩
      have hval : a.tmps.getD ad undef = .pointer (some p) := by
        simp only [Array.getD_eq_getD_getElem?, hgt, Option.getD_some, Slot.value]
      have e1 : (asAddr (.pointer (some p))).run P W = .ok p W := rfl
      show ((asAddr (a.tmps.getD ad undef)) >>= fun x => loadVar t x).run P W = _
      rw [hval, run_bind_ok e1]
      exact hrd W (evoP_of hr.evo)
    · exact h.elim

theorem look_initEnv : ∀ (l : List Value) (i t : Nat) (s : Slot), look (initEnv i l) t = some s → ∃ v, s = .val v ∧ i ≤ t ∧ l[t - i]? = some v
  | [], _, _, _, h => by cases h
  | v :: r, i, t, s, h => by
    unfold initEnv at h
    by_cases hit : i = t
    · subst hit
      rw [look_eq] at h
      cases h
      exact ⟨v, rfl, Nat.le_refl _, by simp⟩
    · rw [look_ne hit] at h
      obtain ⟨u, hu, hle, hg⟩ := look_initEnv r (i + 1) t s h
      refine ⟨u, hu, by omega, ?_⟩
      rw [show t - i = (t - (i + 1)) + 1 from by omega, List.getElem?_cons_succ]
      exact hg

/-- THE THEOREM: the formula of a function, proved, is a contract of the function. -/
theorem fn_sound {f : FuncId} {fn : Func} {args : List Value} {w : World} {R : Ending → World → Prop} (hm : P.follows .mixedOrders = true) (hf : P.funcs[f]? = some fn) (hok : fnOk P H fn args.length = true)
    (h : (fnF P H fn args w R).den) : Calls P f args.toArray w R := by
  unfold fnOk at hok
  unfold fnF at h
  cases hb : fn.body with
  | none => rw [hb] at hok; cases hok
  | some c =>
    rw [hb] at hok h
    simp only [Bool.and_eq_true] at hok h
    have hlen := Nat.le_of_ble_eq_true hok.2
    refine calls_of_wp hf hb ?_
    refine wpC_sound (n := fn.ntmps) hm c _ { env := initEnv 0 args, boxes := [], gs := [], ro := [], w := w, clean := true, dirty := [], pend := [] } _ w _ hok.1 rfl h ?_ ?_
    · refine ⟨rfl, ?_, fun t s ht hs => ?_, fun t s ht => ?_, fun j cells ty hj => by simp at hj, rfl, List.Pairwise.nil, fun g hg => (by simp at hg), Evo.refl _, fun _ => rfl⟩
      · simp; omega
      · obtain ⟨v, rfl, _, hv⟩ := look_initEnv _ _ _ _ ht
        simp only [Nat.sub_zero] at hv
        have hlt := (List.getElem?_eq_some_iff.1 hv).1
        rw [Array.getElem?_append_left (by simpa using hlt)]
        simpa [Slot.value] using hv
      · obtain ⟨v, rfl, _, _⟩ := look_initEnv _ _ _ _ ht
        trivial
    · intro e st' a' W' hd hr' hx' hp'
      have fin : (resultsF P R fn.results.toList [] st').den → a'.defers = [] ∧ ∃ v, (results fn a'.tmps).run P W' = .ok v W' ∧ R (.returned v) W' := by
        intro hd
        obtain ⟨vs, h1, h2⟩ := resultsF_sound _ _ _ hd hr'
        exact ⟨hr'.defers, _, run_results h1, by simpa using h2⟩
      cases e with
      | normal => exact fin hd
      | exit id => exact hd.elim
      | ret => exact fin hd
end
end Go.Vc
