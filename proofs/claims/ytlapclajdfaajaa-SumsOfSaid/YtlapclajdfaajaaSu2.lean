/- Own text of this claim: Su2. -/
import Derived.Test.YtlapclajdfaajaaFb3
import Derived.Test.YtlapclajdfaajaaSu1
import Derived.Test.YtlapclajdfaajaaSq1
import Derived.Test.YtlapclajdfaajaaVcElt
set_option maxRecDepth 20000
namespace Go.Vc.B
open Go Go.Vc Go.RowKit Go.Proofs Vcb Vcbu

abbrev PartT := Int × Int × Int
abbrev partE (x : PartT) : List Value := [.int .i64 x.1, .int .i64 x.2.1, .int .i64 x.2.2]
abbrev slotV (k r : Int) : Value := .agg #[.int .i64 k, .int .i64 r]
abbrev partV (x : PartT) : Value := .agg #[.int .i64 x.1, .int .i64 x.2.1, .int .i64 x.2.2]
def slotR (k r : Int) : Prop := 0 ≤ k ∧ k < 4 ∧ 0 ≤ r ∧ r ≤ 32
instance (k r : Int) : Decidable (slotR k r) := by unfold slotR; infer_instance
def amtR (n : Int) : Prop := 0 ≤ n ∧ n ≤ 9007199254740992
instance (n : Int) : Decidable (amtR n) := by unfold amtR; infer_instance
def slotC (a b c d : Int) : Int := if a = c ∧ b = d then 0 else if a < c ∨ (a = c ∧ b < d) then -1 else 1
/-- One stands ahead of another one. -/
def slt (p q : PartT) : Prop := p.1 < q.1 ∨ (p.1 = q.1 ∧ p.2.1 < q.2.1)
instance (p q : PartT) : Decidable (slt p q) := by unfold slt; infer_instance
def partR (p : PartT) : Prop := slotR p.1 p.2.1 ∧ 1 ≤ p.2.2 ∧ p.2.2 ≤ 9007199254740992
instance (p : PartT) : Decidable (partR p) := by unfold partR; infer_instance
/-- A right vector, behind a part. -/
def okB : Option PartT → PartT → Bool
  | none, _ => true
  | some q, p => decide (slt q p)
def vok : Option PartT → List PartT → Bool
  | _, [] => true
  | o, p :: r => (decide (partR p) && okB o p) && vok (some p) r
theorem vok_cons {o : Option PartT} {p : PartT} {r : List PartT} : vok o (p :: r) = ((decide (partR p) && okB o p) && vok (some p) r) := by cases o <;> rfl
theorem vok_nil {o : Option PartT} : vok o [] = true := by cases o <;> rfl
abbrev vecB (l : List PartT) : Bool := vok none l

theorem c46 (k r : Int) (w : World) : Ret Try.prog 46 #[slotV k r] w (.bool (decide (slotR k r))) := by
  intro R h
  refine f46_calls k r w R ?_
  unfold f46_vc
  have hA := At.refl w
  refine go_n hA fun n1 h_n1 => ?_
  refine brD (fun h1 => brD (fun h2 => brD (fun h3 => ?_) (fun h3 => ?_)) (fun h2 => ?_)) (fun h1 => ?_)
  all_goals refine go_below hA fun _ hA => leaf h hA ?_
  · rw [show decide (slotR k r) = decide (r ≤ 32) from decide_eq_decide.2 ⟨fun hh => hh.2.2.2, fun hh => ⟨h1, h2, h3, hh⟩⟩]
  · rw [decide_eq_false (show ¬ slotR k r from fun hh => h3 hh.2.2.1)]
  · rw [decide_eq_false (show ¬ slotR k r from fun hh => h2 hh.2.1)]
  · rw [decide_eq_false (show ¬ slotR k r from fun hh => h1 hh.1)]

theorem c47 (a b c : Int) (w : World) : Ret Try.prog 47 #[.agg #[.int .i64 a, .int .i64 b, .int .i64 c]] w (slotV a b) := by
  intro R h
  refine f47_calls a b c w R ?_
  unfold f47_vc
  have hA := At.refl w
  refine go_n hA fun n1 h_n1 => ?_
  refine go_n hA fun n2 h_n2 => ?_
  refine go_evo hA (by intro d hd; simp at hd; omega) fun _ hA => ?_
  exact leaf h hA rfl

theorem c49 (a b c d : Int) (w : World) : Ret Try.prog 49 #[slotV a b, slotV c d] w (.int .i64 (slotC a b c d)) := by
  intro R h
  refine f49_calls a b c d w R ?_
  unfold f49_vc
  have hA := At.refl w
  refine go_n hA fun n1 h_n1 => ?_
  refine go_n hA fun n2 h_n2 => ?_
  refine ⟨fun he => go_below hA fun _ hA => leaf h hA ?_, fun hne => ?_⟩
  · simp at he
    rw [slotC, if_pos he]
  simp at hne
  refine brD (fun h1 => go_below hA fun _ hA => leaf h hA ?_) (fun h1 => brE (fun h2 => brD (fun h3 => go_below hA fun _ hA => leaf h hA ?_) (fun h3 => go_below hA fun _ hA => leaf h hA ?_)) (fun h2 => go_below hA fun _ hA => leaf h hA ?_))
  · rw [slotC, if_neg (by omega), if_pos (.inl h1)]
  · rw [slotC, if_neg (by omega), if_pos (.inr ⟨h2, h3⟩)]
  · rw [slotC, if_neg (fun hh => hne hh.1 hh.2), if_neg (by omega)]
  · rw [slotC, if_neg (fun hh => hne hh.1 hh.2), if_neg (by omega)]

theorem slotC_ge (p q : PartT) : (slotC p.1 p.2.1 q.1 q.2.1 ≥ 0) ↔ ¬ slt p q := by
  unfold slotC slt
  split
  · omega
  · split
    · omega
    · omega

theorem vok_step {l : List PartT} {k : Nat} {p : PartT} (hp : l[k]? = some p) {prev : Option PartT} : vok prev (l.drop k) = ((decide (partR p) && okB prev p) && vok (some p) (l.drop (k + 1))) := by
  rw [drop_cons hp, vok_cons]

theorem c34 {l : List PartT} {a : Option Addr} {n c : Nat} (w : World) (hs : SlE w 3 partE l a n c) : Ret Try.prog 34 #[.slice a n c] w (.bool (vecB l)) := by
  intro R h
  refine f34_calls a n c w R ?_
  unfold f34_vc
  have hA := At.refl w
  have hn := hs.1
  subst hn
  have hlen := hs.len_le.2
  have hat : ∀ {W : World} {gs : List Nat} {i : Nat} {x : PartT}, At w gs W → l[i]? = some x → ∃ ad, Gives Try.prog (Instr.indexAt 55 (.slice a l.length c) (.int .i64 (i : Int))) (.pointer (some ad)) ∧ Reads Try.prog [] (Instr.loadAt 59 (.pointer (some ad))) W (partV x) := fun hA hx =>
    rd_agg (f := partE) (hs.call hA.below) hx (e := 59) (by kernel_rfl) (by kernel_rfl) (by kernel_rfl) (by kernel_rfl) (fun _ h => by cases h)
  refine ⟨fun s W => At w [] W ∧ ∃ k : Nat, s.1 = k ∧ k ≤ l.length ∧ vok (if k = 0 then none else l[k - 1]?) (l.drop k) = vecB l, fun s _ => l.length - s.1.toNat, ⟨hA, 0, rfl, Nat.zero_le _, rfl⟩, ?_⟩
  intro i W ⟨hA, k, hi, hk, hv⟩
  simp only at hi
  subst hi
  refine brD (fun hlt => ?_) (fun hge => ?_)
  · obtain ⟨p, hp⟩ : ∃ x, l[k]? = some x := ⟨_, List.getElem?_eq_getElem (by omega)⟩
    obtain ⟨ad, g1, r1⟩ := hat hA hp
    rw [vok_step hp] at hv
    have e1 : IntKind.i64.wrap ((k : Int) + 1) = ((k + 1 : Nat) : Int) := by rw [wrap_i64 (by omega) (by omega)]; rfl
    rw [e1]
    refine ⟨_, g1, _, _, _, r1, ?_⟩
    refine go_n hA fun n9 h_n9 => ?_
    refine go_evo hA (by intro d hd; simp at hd; omega) fun _ hA => ?_
    refine at_call hA (c47 _ _ _ _) (fun _ hA hk => ?_)
    first | refine ⟨_, rfl, hk, ?_⟩ | refine ⟨_, _, rfl, hk, ?_⟩ | refine ⟨_, _, _, rfl, hk, ?_⟩ | refine ⟨_, _, _, _, rfl, hk, ?_⟩ | refine ⟨_, _, _, _, _, rfl, hk, ?_⟩ | refine ⟨_, _, _, _, _, _, rfl, hk, ?_⟩ | refine ⟨_, _, _, _, _, _, _, rfl, hk, ?_⟩ | refine ⟨_, _, _, _, _, _, _, _, rfl, hk, ?_⟩
    refine at_call hA (c46 _ _ _) (fun _ hA hk => ?_)
    first | refine ⟨_, rfl, hk, ?_⟩ | refine ⟨_, _, rfl, hk, ?_⟩ | refine ⟨_, _, _, rfl, hk, ?_⟩ | refine ⟨_, _, _, _, rfl, hk, ?_⟩ | refine ⟨_, _, _, _, _, rfl, hk, ?_⟩ | refine ⟨_, _, _, _, _, _, rfl, hk, ?_⟩ | refine ⟨_, _, _, _, _, _, _, rfl, hk, ?_⟩ | refine ⟨_, _, _, _, _, _, _, _, rfl, hk, ?_⟩
    have next : (∀ W', At w [n9] W' → decide (partR p) = true → okB (if k = 0 then none else l[k - 1]?) p = true → (At w [] W' ∧ ∃ k' : Nat, ((k + 1 : Nat) : Int) = k' ∧ k' ≤ l.length ∧ vok (if k' = 0 then none else l[k' - 1]?) (l.drop k') = vecB l) ∧ l.length - ((k + 1 : Nat) : Int).toNat < l.length - (k : Int).toNat) := by
      intro W' hA h1 h2
      rw [h1, h2] at hv
      refine ⟨⟨hA.off, k + 1, rfl, by omega, ?_⟩, by omega⟩
      rw [if_neg (by omega), show k + 1 - 1 = k by omega, hp]
      simpa using hv
    refine brND (fun h1 => ?_) (fun h1 => brD (fun h2 => ?_) (fun h2 => ?_))
    · refine leaf h hA ?_
      rw [← hv, decide_eq_false (show ¬ partR p from fun hh => h1 hh.1)]
      rfl
    · refine leaf h hA ?_
      rw [← hv, decide_eq_false (show ¬ partR p from fun hh => by have := hh.2.1; omega)]
      rfl
    refine at_call hA (BQ.c48 _ _) (fun _ hA hk => ?_)
    first | refine ⟨_, rfl, hk, ?_⟩ | refine ⟨_, _, rfl, hk, ?_⟩ | refine ⟨_, _, _, rfl, hk, ?_⟩ | refine ⟨_, _, _, _, rfl, hk, ?_⟩ | refine ⟨_, _, _, _, _, rfl, hk, ?_⟩ | refine ⟨_, _, _, _, _, _, rfl, hk, ?_⟩ | refine ⟨_, _, _, _, _, _, _, rfl, hk, ?_⟩ | refine ⟨_, _, _, _, _, _, _, _, rfl, hk, ?_⟩
    refine brND (fun h3 => leaf h hA ?_) (fun h3 => ?_)
    · rw [← hv, decide_eq_false (show ¬ partR p from fun hh => by have := hh.2; omega)]
      rfl
    have hR : partR p := ⟨h1, by omega, h3.2⟩
    refine brD (fun h4 => ?_) (fun h4 => ?_)
    · obtain ⟨q, hq⟩ : ∃ x, l[k - 1]? = some x := ⟨_, List.getElem?_eq_getElem (by omega)⟩
      obtain ⟨ad2, g2, r2⟩ := hat hA hq
      have e2 : IntKind.i64.wrap ((k : Int) - 1) = ((k - 1 : Nat) : Int) := by rw [wrap_i64 (by omega) (by omega)]; omega
      rw [e2]
      refine ⟨_, g2, _, _, _, r2, ?_⟩
      refine at_call hA (c47 _ _ _ _) (fun _ hA hk => ?_)
      first | refine ⟨_, rfl, hk, ?_⟩ | refine ⟨_, _, rfl, hk, ?_⟩ | refine ⟨_, _, _, rfl, hk, ?_⟩ | refine ⟨_, _, _, _, rfl, hk, ?_⟩ | refine ⟨_, _, _, _, _, rfl, hk, ?_⟩ | refine ⟨_, _, _, _, _, _, rfl, hk, ?_⟩ | refine ⟨_, _, _, _, _, _, _, rfl, hk, ?_⟩ | refine ⟨_, _, _, _, _, _, _, _, rfl, hk, ?_⟩
      refine at_call hA (c47 _ _ _ _) (fun _ hA hk => ?_)
      first | refine ⟨_, rfl, hk, ?_⟩ | refine ⟨_, _, rfl, hk, ?_⟩ | refine ⟨_, _, _, rfl, hk, ?_⟩ | refine ⟨_, _, _, _, rfl, hk, ?_⟩ | refine ⟨_, _, _, _, _, rfl, hk, ?_⟩ | refine ⟨_, _, _, _, _, _, rfl, hk, ?_⟩ | refine ⟨_, _, _, _, _, _, _, rfl, hk, ?_⟩ | refine ⟨_, _, _, _, _, _, _, _, rfl, hk, ?_⟩
      refine at_call hA (c49 _ _ _ _ _) (fun _ hA hk => ?_)
      first | refine ⟨_, rfl, hk, ?_⟩ | refine ⟨_, _, rfl, hk, ?_⟩ | refine ⟨_, _, _, rfl, hk, ?_⟩ | refine ⟨_, _, _, _, rfl, hk, ?_⟩ | refine ⟨_, _, _, _, _, rfl, hk, ?_⟩ | refine ⟨_, _, _, _, _, _, rfl, hk, ?_⟩ | refine ⟨_, _, _, _, _, _, _, rfl, hk, ?_⟩ | refine ⟨_, _, _, _, _, _, _, _, rfl, hk, ?_⟩
      rw [if_neg (show ¬ k = 0 by omega), hq] at hv next
      refine brD (fun h5 => leaf h hA ?_) (fun h5 => next _ hA (by simpa using hR) (by rw [slotC_ge] at h5; simpa [okB] using h5))
      rw [slotC_ge] at h5
      rw [← hv]
      simp [okB, h5]
    · have h0 : k = 0 := by omega
      rw [if_pos h0] at next
      exact next _ hA (by simpa using hR) rfl
  · have hke : k = l.length := by omega
    subst hke
    rw [List.drop_length] at hv
    exact leaf h hA (by rw [← hv, vok_nil])
end Go.Vc.B
