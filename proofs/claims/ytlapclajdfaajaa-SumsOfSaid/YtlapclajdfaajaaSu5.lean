/- Own text of this claim: Su5. -/
import Derived.Test.YtlapclajdfaajaaSu3
import Derived.Test.YtlapclajdfaajaaFbv
import Derived.Test.YtlapclajdfaajaaVcPush
set_option maxRecDepth 20000
namespace Go.Vc.B
open Go Go.Vc Go.RowKit Go.Proofs Vcbv

/-- The sum of two vectors, side by side. -/
def vadd : List PartT → List PartT → Option (List PartT)
  | [], b => some b
  | p :: a, [] => some (p :: a)
  | p :: a, q :: b => if slt p q then (vadd a (q :: b)).map (p :: ·) else if slt q p then (vadd (p :: a) b).map (q :: ·) else if p.2.2 + q.2.2 ≤ 9007199254740992 then (vadd a b).map ((p.1, p.2.1, p.2.2 + q.2.2) :: ·) else none
termination_by a b => a.length + b.length
theorem vadd_nil (b : List PartT) : vadd [] b = some b := by unfold vadd; rfl
theorem vadd_nil' (a : List PartT) : vadd a [] = some a := by cases a <;> (unfold vadd; rfl)
theorem vadd_lt {p q : PartT} {a b : List PartT} (h : slt p q) : vadd (p :: a) (q :: b) = (vadd a (q :: b)).map (p :: ·) := by rw [vadd, if_pos h]
theorem vadd_gt {p q : PartT} {a b : List PartT} (h : ¬ slt p q) (k : slt q p) : vadd (p :: a) (q :: b) = (vadd (p :: a) b).map (q :: ·) := by rw [vadd, if_neg h, if_pos k]
theorem vadd_eq {p q : PartT} {a b : List PartT} (h : ¬ slt p q) (k : ¬ slt q p) : vadd (p :: a) (q :: b) = if p.2.2 + q.2.2 ≤ 9007199254740992 then (vadd a b).map ((p.1, p.2.1, p.2.2 + q.2.2) :: ·) else none := by rw [vadd, if_neg h, if_neg k]

theorem slotC_lt (p q : PartT) : (slotC p.1 p.2.1 q.1 q.2.1 < 0) ↔ slt p q := by
  have h := slotC_ge p q
  exact ⟨fun hh => Classical.byContradiction fun hn => by have := h.2 hn; omega, fun hh => by have : ¬ slotC p.1 p.2.1 q.1 q.2.1 ≥ 0 := fun hg => h.1 hg hh; omega⟩
theorem slotC_gt (p q : PartT) : (slotC p.1 p.2.1 q.1 q.2.1 > 0) ↔ slt q p := by
  unfold slotC slt
  split
  · omega
  · split <;> omega
theorem qsum2 {a b : Int} (ha : 0 ≤ a ∧ a ≤ 9007199254740992) (hb : 0 ≤ b ∧ b ≤ 9007199254740992) : BQ.qsum 9007199254740992 [a, b] = if a + b ≤ 9007199254740992 then (a + b, true) else (0, false) := by
  unfold BQ.qsum
  rw [if_neg (by omega)]
  simp only [BQ.qgo]
  repeat' split
  all_goals first | omega | (congr 1; omega) | rfl | skip

def vout (o : Option (List PartT)) : List PartT := o.getD []
theorem map_append {α : Type} (o : Option (List α)) (x : α) (out : List α) : ((o.map (x :: ·)).map (out ++ ·)) = o.map (out ++ [x] ++ ·) := by
  cases o <;> simp

theorem c35 {l1 l2 : List PartT} {aa ba : Option Addr} {an ac bn bc : Nat} (w : World) (h1 : SlE w 3 partE l1 aa an ac) (h2 : SlE w 3 partE l2 ba bn bc) (hl1 : l1.length ≤ 1000000) (hl2 : l2.length ≤ 1000000) :
    RetLB Try.prog 35 #[.slice aa an ac, .slice ba bn bc] w 59 3 partE (if vecB l1 = true ∧ vecB l2 = true then vout (vadd l1 l2) else []) (decide (vecB l1 = true ∧ vecB l2 = true) && (vadd l1 l2).isSome) := by
  intro R h
  refine f35_calls aa an ac ba bn bc w R ?_
  unfold f35_vc
  have hA := At.refl w
  refine at_call hA (c34 _ h1) (fun _ hA hk => ?_)
  first | refine ⟨_, rfl, ?_⟩ | refine ⟨_, _, rfl, ?_⟩ | refine ⟨_, _, _, rfl, ?_⟩ | refine ⟨_, _, _, _, rfl, ?_⟩ | refine ⟨_, _, _, _, _, rfl, ?_⟩ | refine ⟨_, _, _, _, _, _, rfl, ?_⟩ | refine ⟨_, _, _, _, _, _, _, rfl, ?_⟩ | refine ⟨_, _, _, _, _, _, _, _, rfl, ?_⟩
  refine brNB (fun hn => leaflb h hA OwnL.nil (by rw [if_neg (by rw [hn]; simp)]) (by rw [hn]; rfl)) (fun hv1 => ?_)
  refine at_call hA (c34 _ (h2.call hA.below)) (fun _ hA hk => ?_)
  first | refine ⟨_, rfl, ?_⟩ | refine ⟨_, _, rfl, ?_⟩ | refine ⟨_, _, _, rfl, ?_⟩ | refine ⟨_, _, _, _, rfl, ?_⟩ | refine ⟨_, _, _, _, _, rfl, ?_⟩ | refine ⟨_, _, _, _, _, _, rfl, ?_⟩ | refine ⟨_, _, _, _, _, _, _, rfl, ?_⟩ | refine ⟨_, _, _, _, _, _, _, _, rfl, ?_⟩
  refine brNB (fun hn => leaflb h hA OwnL.nil (by rw [if_neg (by rw [hn]; simp)]) (by rw [hn]; simp)) (fun hv2 => ?_)
  rw [if_pos ⟨hv1, hv2⟩, decide_eq_true ⟨hv1, hv2⟩, Bool.true_and] at h
  refine ⟨fun s W => At w [] W ∧ ∃ (a b out : List PartT), SlE w 3 partE a s.1.1 s.1.2.1 s.1.2.2 ∧ SlE w 3 partE b s.2.1.1 s.2.1.2.1 s.2.1.2.2 ∧ OwnL w [] W 59 3 partE (.slice s.2.2.1.1 s.2.2.1.2.1 s.2.2.1.2.2) out ∧ out.length + a.length + b.length ≤ l1.length + l2.length ∧ (∀ p ∈ a, partR p) ∧ (∀ p ∈ b, partR p) ∧ (vadd a b).map (out ++ ·) = vadd l1 l2, fun s _ => s.1.2.1 + s.2.1.2.1,
    ⟨hA, l1, l2, [], h1, h2, OwnL.nil, by simp, vok_mem l1 _ hv1, vok_mem l2 _ hv2, by simp⟩, ?_⟩
  rintro a9 n10 n11 a12 n13 n14 a15 n16 n17 W ⟨hA, a, b, out, ha, hb, ho, hlen, hpa, hpb, hg⟩
  simp only at ha hb ho
  have hna := ha.1
  have hnb := hb.1
  have hno := ho.len
  subst hna hnb hno
  -- places and values
  have rdh : ∀ {W : World} {gs : List Nat} {p : PartT} {r l : List PartT} {aa : Option Addr} {an ac : Nat}, At w gs W → l = p :: r → SlE w 3 partE l aa an ac → ∃ ad, Gives Try.prog (Instr.indexAt 55 (.slice aa an ac) (.int .i64 0)) (.pointer (some ad)) ∧ (Reads Try.prog [] (Instr.loadAt 59 (.pointer (some ad))) W (partV p)) ∧ Elt W ad (partE p) := by
    intro W gs p r l aa an ac hA hl hs
    subst hl
    obtain ⟨ad, g, e, _⟩ := elt_at (P := Try.prog) (t := 55) (e := 59) (k := .i64) (i := 0) (hs.call hA.below) rfl (by kernel_rfl) (by kernel_rfl)
    exact ⟨ad, g, Elt.agg 3 e (by kernel_rfl) (by kernel_rfl) (by simp) no_ds, e⟩
  have rest : ∀ {p : PartT} {r l : List PartT} {aa : Option Addr} {ac : Nat}, l = p :: r → SlE w 3 partE l aa l.length ac → ∃ a', Gives Try.prog (Instr.sliceAt 55 (.slice aa l.length ac) (some (.int .i64 1)) none none) (.slice a' (l.length - 1) (ac - 1)) ∧ SlE w 3 partE r a' (l.length - 1) (ac - 1) := by
    intro p r l aa ac hl hs
    obtain ⟨a', g, k⟩ := gives_from (P := Try.prog) (t := 55) (e := 59) (k := .i64) (i := 1) hs (by rw [hl]; simp) (by kernel_rfl) (by kernel_rfl)
    have := k w hs
    rw [hl, List.drop_one, List.tail_cons] at this
    rw [hl] at g ⊢
    exact ⟨a', g, this⟩
  have hlp : ∀ x : PartT, (partE x).length = 3 := fun x => rfl
  have oc : ∀ x : PartT, ∀ u ∈ partE x, u.oneCell' = true := fun x u hu => by
    simp at hu
    rcases hu with rfl | rfl | rfl <;> rfl
  -- one of the two, or both, are there
  refine ⟨fun _ W' => W' = W ∧ ¬ (a = [] ∧ b = []), brD (fun hp => ⟨rfl, fun hh => by rw [hh.1] at hp; simp at hp⟩) (fun hp => brD (fun hq => ⟨rfl, fun hh => by rw [hh.2] at hq; simp at hq⟩) (fun hq => ?_)), ?_⟩
  · have e1 : a = [] := List.eq_nil_of_length_eq_zero (by omega)
    have e2 : b = [] := List.eq_nil_of_length_eq_zero (by omega)
    subst e1 e2
    rw [vadd_nil] at hg
    simp at hg
    exact leaflb h hA ho (by rw [← hg]; rfl) (by rw [← hg]; rfl)
  rintro _ ⟨rfl, hne⟩
  -- is the first of a the next?
  refine ⟨fun s W' => At w [] W' ∧ OwnL w [] W' 59 3 partE (.slice a15 out.length n17) out ∧ (s.1 = true ↔ ∃ p r, a = p :: r ∧ (b = [] ∨ ∃ q t, b = q :: t ∧ slt p q)), ?_, ?_⟩
  · refine ⟨fun he => go_below0_too hA fun _ hA hb => ⟨hA, ho.call hb, ⟨fun _ => ?_, fun _ => rfl⟩⟩, fun he => brD (fun hp => ?_) (fun hp => go_below0_too hA fun _ hA hb => ⟨hA, ho.call hb, ⟨fun h => (by cases h), fun ⟨p, r, h, _⟩ => ?_⟩⟩)⟩
    · have e2 : b = [] := List.eq_nil_of_length_eq_zero (by simpa using he)
      cases a with
      | nil => exact absurd ⟨rfl, e2⟩ hne
      | cons p r => exact ⟨p, r, rfl, .inl e2⟩
    · obtain ⟨p, r, rfl⟩ : ∃ p r, a = p :: r := by
        cases a with
        | nil => simp at hp
        | cons p r => exact ⟨p, r, rfl⟩
      obtain ⟨q, t, rfl⟩ : ∃ p r, b = p :: r := by
        cases b with
        | nil => simp at he
        | cons p r => exact ⟨p, r, rfl⟩
      obtain ⟨ad, g1, r1, _⟩ := rdh hA rfl ha
      obtain ⟨ad2, g2, r2, e2⟩ := rdh hA rfl hb
      refine ⟨_, g1, _, _, _, r1, _, g2, _, _, _, r2, go_below0_too hA fun w31 hA hb31 => ?_⟩
      refine at_callb hA (c47 _ _ _ _) (fun w33 hA hk hb33 => ⟨_, _, rfl, fun W hW => r2 W (Below_tr hb31 (Below_tr hb33 hW)), ?_⟩)
      refine at_callb hA (c47 _ _ _ _) (fun w37 hA hk hb37 => ⟨_, _, rfl, ?_⟩)
      refine at_callb hA (c49 _ _ _ _ _) (fun w41 hA hk hb41 => ⟨_, rfl, hA, (((ho.call hb31).call hb33).call hb37).call hb41, ?_⟩)
      simp only [decide_eq_true_eq, slotC_lt]
      exact ⟨fun h => ⟨p, r, rfl, .inr ⟨q, t, rfl, h⟩⟩, fun ⟨p', r', h1, h2⟩ => by
        cases h1
        rcases h2 with h2 | ⟨q', t', h2, h3⟩
        · cases h2
        · cases h2; exact h3⟩
    · rw [h] at hp
      simp at hp
  rintro b44 W2 ⟨hA2, ho2, hfa⟩
  simp only at hfa
  have hlen1 : l1.length + l2.length ≤ 2000000 := by omega
  have push : ∀ {W : World} {gs : List Nat} (x : PartT), At w gs W → OwnL w gs W 59 3 partE (.slice a15 out.length n17) out → ∀ {K : Option Addr → Nat → Nat → World → Prop}, (a ≠ [] ∨ b ≠ []) →
      (∀ a' c' w2, At w gs w2 → OwnL w gs w2 59 3 partE (.slice a' (out ++ [x]).length c') (out ++ [x]) → W.grownBy w2 (Value.slice a15 out.length n17).ownBlock → ((Value.slice a' (out ++ [x]).length c').ownBlock = (Value.slice a15 out.length n17).ownBlock ∨ ∀ k, (Value.slice a' (out ++ [x]).length c').ownBlock = some k → W.heap.size ≤ k) → K a' (out ++ [x]).length c' w2) →
      OpW Try.prog (valueS (Instr.buildSlice 55 1 #[(0, partV x)])) W fun v w1 => ∃ a1 n1 c1, v = .slice a1 n1 c1 ∧ OpW Try.prog (builtin .append #[55, 55] 55 #[false, false] #[.slice a15 out.length n17, .slice a1 n1 c1]) w1 fun v w2 => ∃ a2 n2 c2, v = .slice a2 n2 c2 ∧ K a2 n2 c2 w2 := by
    intro W gs x hA ho K hab h
    refine opw_push0 (e' := 59) (bytes := 24) hA ho x (by kernel_rfl) (by kernel_rfl) rfl (fun y _ => rfl) (oc x) ?_ (by decide) h
    have : 0 < a.length + b.length := by
      rcases hab with h | h
      · have := List.length_pos_iff.2 h; omega
      · have := List.length_pos_iff.2 h; omega
    omega
  refine brB (fun hb44 => ?_) (fun hb44 => ?_)
  · obtain ⟨p, r, rfl, hq⟩ := hfa.1 hb44
    obtain ⟨ad, g1, r1, _⟩ := rdh hA2 rfl ha
    obtain ⟨a', g2, s2⟩ := rest rfl ha
    refine ⟨_, g1, _, _, _, r1, _, _, _, g2, go_below0_too hA2 fun w53 hA hb53 => ?_⟩
    refine push p hA (ho2.call hb53) (.inl (by simp)) fun a2 c2 w60 hA ho _ _ => ⟨⟨hA, r, b, out ++ [p], s2, hb, ho, by simp at hlen ⊢; omega, fun x hx => hpa x (List.mem_cons_of_mem _ hx), hpb, ?_⟩, by simp only [List.length_cons]; omega⟩
    rw [← hg]
    rcases hq with rfl | ⟨q, t, rfl, hlt⟩
    · rw [vadd_nil', vadd_nil']
      simp
    · rw [vadd_lt hlt, map_append]
  have hna : ∀ p r, a = p :: r → ∃ q t, b = q :: t ∧ ¬ slt p q := by
    intro p r hap
    cases hbq : b with
    | nil => exact absurd (hfa.2 ⟨p, r, hap, .inl hbq⟩) (by rw [hb44]; decide)
    | cons q t => exact ⟨q, t, rfl, fun hlt => absurd (hfa.2 ⟨p, r, hap, .inr ⟨q, t, hbq, hlt⟩⟩) (by rw [hb44]; decide)⟩
  refine ⟨fun s W' => At w [] W' ∧ OwnL w [] W' 59 3 partE (.slice a15 out.length n17) out ∧ (s.1 = true ↔ ∃ q t, b = q :: t ∧ (a = [] ∨ ∃ p r, a = p :: r ∧ slt q p)), ?_, ?_⟩
  · refine ⟨fun he => go_below0_too hA2 fun _ hA hb => ⟨hA, ho2.call hb, ⟨fun _ => ?_, fun _ => rfl⟩⟩, fun he => ?_⟩
    · have e1 : a = [] := List.eq_nil_of_length_eq_zero (by simpa using he)
      cases b with
      | nil => exact absurd ⟨e1, rfl⟩ hne
      | cons q t => exact ⟨q, t, rfl, .inl e1⟩
    · obtain ⟨p, r, rfl⟩ : ∃ p r, a = p :: r := by
        cases a with
        | nil => simp at he
        | cons p r => exact ⟨p, r, rfl⟩
      obtain ⟨q, t, rfl, hnl⟩ := hna p r rfl
      obtain ⟨ad, g1, r1, _⟩ := rdh hA2 rfl ha
      obtain ⟨ad2, g2, r2, e2⟩ := rdh hA2 rfl hb
      refine ⟨_, g1, _, _, _, r1, _, g2, _, _, _, r2, go_below0_too hA2 fun w31 hA hb31 => ?_⟩
      refine at_callb hA (c47 _ _ _ _) (fun w33 hA hk hb33 => ⟨_, _, rfl, fun W hW => r2 W (Below_tr hb31 (Below_tr hb33 hW)), ?_⟩)
      refine at_callb hA (c47 _ _ _ _) (fun w37 hA hk hb37 => ⟨_, _, rfl, ?_⟩)
      refine at_callb hA (c49 _ _ _ _ _) (fun w41 hA hk hb41 => ⟨_, rfl, hA, (((ho2.call hb31).call hb33).call hb37).call hb41, ?_⟩)
      simp only [decide_eq_true_eq, slotC_gt]
      exact ⟨fun h => ⟨q, t, rfl, .inr ⟨p, r, rfl, h⟩⟩, fun ⟨q', t', h1, h2⟩ => by
        cases h1
        rcases h2 with h2 | ⟨p', r', h2, h3⟩
        · cases h2
        · cases h2; exact h3⟩
  rintro b86 W3 ⟨hA3, ho3, hfb⟩
  simp only at hfb
  refine brB (fun hb86 => ?_) (fun hb86 => ?_)
  · obtain ⟨q, t, rfl, hq⟩ := hfb.1 hb86
    obtain ⟨ad, g1, r1, _⟩ := rdh hA3 rfl hb
    obtain ⟨a', g2, s2⟩ := rest rfl hb
    refine ⟨_, g1, _, _, _, r1, _, _, _, g2, go_below0_too hA3 fun w53 hA hb53 => ?_⟩
    refine push q hA (ho3.call hb53) (.inr (by simp)) fun a2 c2 w60 hA ho _ _ => ⟨⟨hA, a, t, out ++ [q], ha, s2, ho, by simp at hlen ⊢; omega, hpa, fun x hx => hpb x (List.mem_cons_of_mem _ hx), ?_⟩, by simp only [List.length_cons]; omega⟩
    rw [← hg]
    rcases hq with rfl | ⟨p, r, rfl, hlt⟩
    · rw [vadd_nil, vadd_nil]
      simp
    · obtain ⟨q', t', h1, h2⟩ := hna p r rfl
      cases h1
      rw [vadd_gt h2 hlt, map_append]
  obtain ⟨p, r, rfl⟩ : ∃ p r, a = p :: r := by
    cases a with
    | nil =>
      cases b with
      | nil => exact absurd ⟨rfl, rfl⟩ hne
      | cons q t => exact absurd (hfb.2 ⟨q, t, rfl, .inl rfl⟩) (by rw [hb86]; decide)
    | cons p r => exact ⟨p, r, rfl⟩
  obtain ⟨q, t, rfl, hn1⟩ := hna p r rfl
  have hn2 : ¬ slt q p := fun hlt => absurd (hfb.2 ⟨q, t, rfl, .inr ⟨p, r, rfl, hlt⟩⟩) (by rw [hb86]; decide)
  rw [vadd_eq hn1 hn2] at hg
  have bp := (hpa p (List.mem_cons_self ..)).2
  have bq := (hpb q (List.mem_cons_self ..)).2
  obtain ⟨ad, g1, r1, _⟩ := rdh hA3 rfl ha
  obtain ⟨ad2, g2, r2, e2⟩ := rdh hA3 rfl hb
  refine ⟨_, g1, _, _, _, r1, fun n110 hn110 => ⟨_, g2, _, (e2.sub (o := 2) (by decide)).one (by kernel_rfl) (e2.far (by intro d hd; simp at hd; omega)), ?_⟩⟩
  have hsz := hA3.size
  refine go_evo_too hA3 (by intro d hd; simp at hd; omega) fun w113 hA hev => ?_
  have ho113 := (ho3.more (gs' := [n110]) (by intro g h1 h2; simp at h1; omega)).evo (by intro d hd h2; simp at hd h2; omega) hev
  refine at_callb hA (BQ.c50 p.2.2 q.2.2 9007199254740992 (by unfold BQ.I64; omega) (by unfold BQ.I64; omega) (by unfold BQ.I64; omega) _) (fun w115 hA hk hb115 => ?_)
  rw [qsum2 (by omega) (by omega)]
  by_cases hfit : p.2.2 + q.2.2 ≤ 9007199254740992
  · rw [if_pos hfit] at hg ⊢
    refine ⟨_, _, rfl, hk, ⟨fun hf => by simp at hf, fun _ => ?_⟩⟩
    obtain ⟨a', g3, s3⟩ := rest rfl ha
    obtain ⟨b', g4, s4⟩ := rest rfl hb
    refine ⟨_, _, _, g3, _, _, _, g4, ?_⟩
    have hsz := hA.size
    refine go_evo_too hA (by intro d hd; simp at hd; omega) fun w124 hA hev => ?_
    have ho124 := (ho113.call hb115).evo (by intro d hd h2; simp at hd h2; omega) hev
    refine opw_push (e' := 59) (bytes := 24) hA ho124 (p.1, p.2.1, p.2.2 + q.2.2) (by kernel_rfl) (by kernel_rfl) rfl (fun y _ => rfl) (oc _) (by simp at hlen; omega) (by decide) fun a2 c2 w131 hA ho _ _ => ⟨⟨hA.off, r, t, out ++ [(p.1, p.2.1, p.2.2 + q.2.2)], s3, s4, ho.more (by intro g h1 h2; simp at h1), by simp at hlen ⊢; omega, fun x hx => hpa x (List.mem_cons_of_mem _ hx), fun x hx => hpb x (List.mem_cons_of_mem _ hx), ?_⟩, by simp only [List.length_cons]; omega⟩
    rw [← hg, map_append]
  · rw [if_neg hfit] at hg ⊢
    refine ⟨_, _, rfl, hk, ⟨fun _ => ?_, fun hf => by simp at hf⟩⟩
    have : vadd l1 l2 = none := by rw [← hg]; rfl
    exact leaflb h hA OwnL.nil (by rw [this]; rfl) (by rw [this]; rfl)
end Go.Vc.B
