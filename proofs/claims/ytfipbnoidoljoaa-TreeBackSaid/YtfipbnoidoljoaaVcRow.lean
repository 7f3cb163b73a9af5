/- The last step of a law's row: its contract is that it returns true and leaves every old block as it was; then each argument reads behind the call as it read before. -/
import Derived.Test.YtfipbnoidoljoaaVcRep
namespace Go.Vc
open Go Go.RowKit Go.ChangeShapes Go.WideShapes

section
variable {H : Type} {enc : TypeId × Value → H} {P : Program}

theorem trodAll_below (hl : laidOutB P = true) {W W' : World} (hb : Below W.heap.size W W') {sp : Nat → Bool} : ∀ (ts : List TypeId) (vs : List Value) (ds : List (DataW H)) (ps : List MemPlace),
    (∀ t ∈ ts, P.readableRec t = true ∧ t < P.types.size) → DataW.TrodAll enc P W 0 (fun _ => true) true ts vs ds ps → (∀ x ∈ ps, x.block < W.heap.size) → (∀ x ∈ ps, sp x.block = true) → DataW.TrodAll enc P W' 0 sp true ts vs ds ps
  | [], vs, ds, ps, _, h, _, _ => by
    obtain ⟨rfl, rfl, rfl⟩ := trodAll_nil h
    exact trodAll_mk0
  | t :: ts, vs, ds, ps, hr, h, hlt, hsp => by
    obtain ⟨v, vs', d, ds', p, q, rfl, rfl, rfl, h1, h2⟩ := trodAll_cons h
    obtain ⟨hr1, hr2⟩ := hr t (List.mem_cons_self ..)
    refine ⟨p, q, ?_, trodAll_below hl hb ts vs' ds' q (fun u hu => hr u (List.mem_cons_of_mem _ hu)) h2 (fun x hx => hlt x (List.mem_append_right _ hx)) (fun x hx => hsp x (List.mem_append_right _ hx)), rfl⟩
    exact WideElems.Trod_stays hl hr1 hr2 h1 (fun x hx => hb.same (hlt x (List.mem_append_left _ hx))) (fun x hx => hsp x (List.mem_append_left _ hx))

theorem law_post {f : Func} {s : ChangeSpec} {apart fresh handsOn again : Bool} {W W' : World} {args : Array Value} {ds : List (DataW H)} {before : List MemPlace} {tb : TypeId} (hl : laidOutB P = true) (htb : P.underlying tb = some .bool) (hft : f.resultTypes = #[tb]) (hsv : s.vars = [])
    (hW : DataW.Whole enc P f.params.toList s.vars apart W args.toList ds [] before) (hfn : s.fn H (ds ++ []) = { results := [.lit (.bool true)], args := ds })
    (hread : ∀ t ∈ f.params.toList, P.readableRec t = true ∧ t < P.types.size) (hb : Below W.heap.size W W') : s.post enc P f apart fresh handsOn again W args (.bool true) W' := by
  have hlt : ∀ p ∈ before, p.block < W.heap.size := fun p hp => hW.lt p hp
  have hWc := hW
  obtain ⟨p, q, hA, hV, hpq, hz, hn⟩ := hW
  rw [hsv] at hV
  have hq : q = [] := (trodVars_none hV).2
  subst hq
  rw [List.append_nil] at hpq
  subst hpq
  have hargs : ∀ sp : Nat → Bool, (∀ x ∈ before, sp x.block = true) → DataW.TrodAll enc P W' 0 sp true f.params.toList args.toList ds before := fun sp hsp => trodAll_below hl hb _ _ _ _ hread hA hlt hsp
  have hold : ∀ x ∈ before, (fun b => decide (b < W.heap.size)) x.block = true := fun x hx => by simpa using hlt x hx
  have hres : ∀ (b : Nat) (sp : Nat → Bool) (hd : Bool), DataW.TrodAll enc P W' b sp hd f.resultTypes.toList ((Value.bool true).resultList f.resultTypes.size) [.lit (.bool true)] [] := by
    intro b sp hd
    rw [hft]
    exact trodAll_mk1 (shut_bool htb _)
  have hvars : ∀ sp : Nat → Bool, DataW.TrodVars enc P W' sp s.vars (s.fn H (ds ++ [])).vars [] := fun sp => by rw [hsv, hfn]; rfl
  refine ⟨ds, [], before, [], before, [], hWc, by rw [hfn]; exact hres _ _ _, by rw [hfn]; exact hargs _ hold, hvars _, World.keptBut_mono (fun x hx => ⟨hx, .inr (.inl hx)⟩) (hb.frame (· ∈ before)), fun _ => ⟨?_, _, _, ([] ++ before) ++ [], ⟨[] ++ before, [], trodAll_append (hargs _ (fun _ _ => rfl)) (hres _ _ _), hvars _, rfl, ?_, ?_⟩, ?_⟩⟩
  · exact ok_one hft rfl (okWide_bool_mk htb _)
  · intro b off hm
    have hin : MemPlace.cell b off ∈ before := by simpa using hm
    rw [hb.frozen (hlt _ hin)]
    exact hz b off hin
  · intro ha
    simpa using hn ha
  · intro x hx _
    simpa using hx

/-! ### One argument -/
def GT.V (w : World) (g : GT) (x : g.T) (v : Value) : Prop :=
  match g, x with
  | .st s, x => ∃ cs : List Value, v = .agg cs.toArray ∧ s.R w x cs
  | g, x => g.R w x [v]

theorem okWide_agg {P : Program} {W : World} {base : Nat} {t : TypeId} {v : Value} {l : List (TypeId × Nat)} (hc : comps P t = some l) (h : Value.okWide P W .any base t v) : ∃ cs : Array Value, v = .agg cs := by
  unfold comps at hc
  split at hc
  · rename_i fs hu
    unfold Value.okWide at h
    rw [hu] at h
    obtain ⟨cs, rfl, _⟩ := h
    exact ⟨cs, rfl⟩
  · rename_i m e hu
    unfold Value.okWide at h
    rw [hu] at h
    obtain ⟨cs, rfl, _⟩ := h
    exact ⟨cs, rfl⟩
  · cases hc

theorem cells_one {v : Value} {u : Value} (h : v.cells.toList = [u]) (_hu : oneCell u = true) (hv : ∀ cs, v ≠ .agg cs) : v = u := by
  cases v <;> first | (simp [Value.cells] at h; exact h) | exact absurd rfl (hv _)

theorem okWide_notAgg {P : Program} {W : World} {base : Nat} {t : TypeId} {v : Value} {d : TypeDesc} (hu : P.underlying t = some d) (hd : (∀ fs, d ≠ .struct fs) ∧ (∀ m e, d ≠ .array m e)) (h : Value.okWide P W .any base t v) : ∀ cs, v ≠ .agg cs := by
  intro cs hv
  subst hv
  unfold Value.okWide at h
  rw [hu] at h
  cases d <;> first
    | exact absurd rfl (hd.1 _)
    | exact absurd rfl (hd.2 _ _)
    | (simp [Cell.okWide, Cell.ok, hu] at h)

theorem read_arg {w : World} {base : Nat} {spare : Nat → Bool} {held : Bool} (g : GT) {t : TypeId} {v : Value} {d : DataW H} {p : List MemPlace} (hf : g.fits P t = true) (hv : Value.okWide P w .any base t v) (h : DataW.Trod enc P w 0 spare held t v d p) : ∃ x, g.V w x v := by
  obtain ⟨fuel, hz⟩ := h
  obtain ⟨x, hx⟩ := read_fits g t fuel _ _ hf hz
  refine ⟨x, ?_⟩
  cases g with
  | st s =>
    have hf' := hf
    unfold GT.fits at hf'
    split at hf'
    · rename_i l hc
      obtain ⟨cs, rfl⟩ := okWide_agg hc hv
      exact ⟨cs.toList, rfl, hx⟩
    · cases hf'
  | int k =>
    unfold GT.fits at hf
    split at hf
    · rename_i k' hu
      have := cells_one hx.1 rfl (okWide_notAgg hu ⟨fun _ h => (by cases h), fun _ _ h => (by cases h)⟩ hv)
      subst this
      exact hx
    · cases hf
  | bool =>
    unfold GT.fits at hf
    split at hf
    · rename_i hu
      have := cells_one hx rfl (okWide_notAgg hu ⟨fun _ h => (by cases h), fun _ _ h => (by cases h)⟩ hv)
      subst this
      exact hx
    · cases hf
  | str =>
    unfold GT.fits at hf
    split at hf
    · rename_i hu
      have := cells_one hx.1 rfl (okWide_notAgg hu ⟨fun _ h => (by cases h), fun _ _ h => (by cases h)⟩ hv)
      subst this
      exact hx
    · cases hf
  | sl e =>
    unfold GT.fits at hf
    split at hf
    · rename_i te hu
      have hx' := hx
      obtain ⟨a, len, cap, he, _⟩ := hx'
      have := cells_one he rfl (okWide_notAgg hu ⟨fun _ h => (by cases h), fun _ _ h => (by cases h)⟩ hv)
      subst this
      exact hx
    · cases hf
  | unit => cases hf
  | pair a b => cases hf
end
end Go.Vc
