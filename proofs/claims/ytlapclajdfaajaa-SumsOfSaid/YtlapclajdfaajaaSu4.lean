/- Own text of this claim: Su4. -/
import Derived.Test.YtlapclajdfaajaaSu3
import Derived.Test.YtlapclajdfaajaaVcEq
import Derived.Test.YtlapclajdfaajaaSh3
set_option maxRecDepth 20000
namespace Go.Vc.B
open Go Go.Vc Go.RowKit Go.Proofs Vcb Vcbu

def mstep (n a b : Int) : Int := if b > 0 then (if a / b < n then a / b else n) else n
def zero4 (b0 b1 b2 b3 : Int) : Prop := b0 = 0 ∧ b1 = 0 ∧ b2 = 0 ∧ b3 = 0
instance (b0 b1 b2 b3 : Int) : Decidable (zero4 b0 b1 b2 b3) := by unfold zero4; infer_instance
def many (a0 a1 a2 a3 b0 b1 b2 b3 : Int) : Int := if sumR a0 a1 a2 a3 ∧ sumR b0 b1 b2 b3 ∧ ¬ zero4 b0 b1 b2 b3 then mstep (mstep (mstep (mstep 1152921504606846976 a0 b0) a1 b1) a2 b2) a3 b3 else 0
theorem quo_facts {a b : Int} (ha : 0 ≤ a) (hb : b > 0) : 0 ≤ a / b ∧ a / b ≤ a ∧ (1 ≤ a / b ↔ b ≤ a) := by
  refine ⟨Int.ediv_nonneg ha (by omega), Int.ediv_le_self _ ha, ?_⟩
  rw [Int.le_ediv_iff_mul_le hb, Int.one_mul]
theorem quo_gives {P : Program} {t : TypeId} {x y : Operand} {a b : Int} (ha : 0 ≤ a ∧ a ≤ 9223372036854775807) (hb : b > 0) : Gives P (binOpS .quo t x y (.int .i64 a) (.int .i64 b)) (.int .i64 (a / b)) := by
  have := gives_quo (P := P) (t := t) (x := x) (y := y) (k := .i64) (a := a) (b := b) (by omega)
  rw [Int.tdiv_eq_ediv_of_nonneg ha.1] at this
  have q := quo_facts ha.1 hb
  rwa [wrap_i64 (by omega) (by omega)] at this
theorem mstep_spec (n a b : Int) : mstep n a b ≤ n ∧ (b > 0 → mstep n a b ≤ a / b) ∧ (mstep n a b = n ∨ (b > 0 ∧ mstep n a b = a / b)) := by
  unfold mstep
  split
  · rename_i hb
    split <;> omega
  · omega
theorem many_spec {a0 a1 a2 a3 b0 b1 b2 b3 : Int} (ha : sumR a0 a1 a2 a3) (hb : sumR b0 b1 b2 b3) (hz : ¬ zero4 b0 b1 b2 b3) :
    0 ≤ many a0 a1 a2 a3 b0 b1 b2 b3 ∧ (b0 > 0 → many a0 a1 a2 a3 b0 b1 b2 b3 ≤ a0 / b0) ∧ (b1 > 0 → many a0 a1 a2 a3 b0 b1 b2 b3 ≤ a1 / b1) ∧ (b2 > 0 → many a0 a1 a2 a3 b0 b1 b2 b3 ≤ a2 / b2) ∧ (b3 > 0 → many a0 a1 a2 a3 b0 b1 b2 b3 ≤ a3 / b3) ∧
    ((b0 > 0 ∧ many a0 a1 a2 a3 b0 b1 b2 b3 = a0 / b0) ∨ (b1 > 0 ∧ many a0 a1 a2 a3 b0 b1 b2 b3 = a1 / b1) ∨ (b2 > 0 ∧ many a0 a1 a2 a3 b0 b1 b2 b3 = a2 / b2) ∨ (b3 > 0 ∧ many a0 a1 a2 a3 b0 b1 b2 b3 = a3 / b3)) ∧
    (sumH a0 a1 a2 a3 b0 b1 b2 b3 ↔ many a0 a1 a2 a3 b0 b1 b2 b3 > 0) := by
  rw [many, if_pos ⟨ha, hb, hz⟩]
  have hH : sumH a0 a1 a2 a3 b0 b1 b2 b3 ↔ (b0 ≤ a0 ∧ b1 ≤ a1 ∧ b2 ≤ a2 ∧ b3 ≤ a3) := ⟨fun h => h.1, fun h => ⟨h, ha, hb⟩⟩
  rw [hH]
  unfold zero4 at hz
  unfold sumR at ha hb
  have s0 := mstep_spec 1152921504606846976 a0 b0
  have s1 := mstep_spec (mstep 1152921504606846976 a0 b0) a1 b1
  have s2 := mstep_spec (mstep (mstep 1152921504606846976 a0 b0) a1 b1) a2 b2
  have s3 := mstep_spec (mstep (mstep (mstep 1152921504606846976 a0 b0) a1 b1) a2 b2) a3 b3
  generalize mstep (mstep (mstep (mstep 1152921504606846976 a0 b0) a1 b1) a2 b2) a3 b3 = n4 at *
  generalize mstep (mstep (mstep 1152921504606846976 a0 b0) a1 b1) a2 b2 = n3 at *
  generalize mstep (mstep 1152921504606846976 a0 b0) a1 b1 = n2 at *
  generalize mstep 1152921504606846976 a0 b0 = n1 at *
  have q0 : b0 > 0 → 0 ≤ a0 / b0 ∧ a0 / b0 ≤ a0 ∧ (1 ≤ a0 / b0 ↔ b0 ≤ a0) := fun h => quo_facts (by omega) h
  have q1 : b1 > 0 → 0 ≤ a1 / b1 ∧ a1 / b1 ≤ a1 ∧ (1 ≤ a1 / b1 ↔ b1 ≤ a1) := fun h => quo_facts (by omega) h
  have q2 : b2 > 0 → 0 ≤ a2 / b2 ∧ a2 / b2 ≤ a2 ∧ (1 ≤ a2 / b2 ↔ b2 ≤ a2) := fun h => quo_facts (by omega) h
  have q3 : b3 > 0 → 0 ≤ a3 / b3 ∧ a3 / b3 ≤ a3 ∧ (1 ≤ a3 / b3 ↔ b3 ≤ a3) := fun h => quo_facts (by omega) h
  generalize a0 / b0 = x0 at *
  generalize a1 / b1 = x1 at *
  generalize a2 / b2 = x2 at *
  generalize a3 / b3 = x3 at *
  have z : b0 > 0 ∨ b1 > 0 ∨ b2 > 0 ∨ b3 > 0 := by omega
  obtain ⟨l0, u0, o0⟩ := s0
  obtain ⟨l1, u1, o1⟩ := s1
  obtain ⟨l2, u2, o2⟩ := s2
  obtain ⟨l3, u3, o3⟩ := s3
  have v0 : b0 > 0 → n4 ≤ x0 := fun h => by have := u0 h; omega
  have v1 : b1 > 0 → n4 ≤ x1 := fun h => by have := u1 h; omega
  have v2 : b2 > 0 → n4 ≤ x2 := fun h => by have := u2 h; omega
  have v3 : b3 > 0 → n4 ≤ x3 := u3
  have ko : (b0 > 0 ∧ n4 = x0) ∨ (b1 > 0 ∧ n4 = x1) ∨ (b2 > 0 ∧ n4 = x2) ∨ (b3 > 0 ∧ n4 = x3) := by
    rcases o3 with e3 | e3
    · rcases o2 with e2 | e2
      · rcases o1 with e1 | e1
        · rcases o0 with e0 | e0
          · rcases z with h | h | h | h
            · have := v0 h; have := q0 h; exact .inl ⟨h, by omega⟩
            · have := v1 h; have := q1 h; exact .inr (.inl ⟨h, by omega⟩)
            · have := v2 h; have := q2 h; exact .inr (.inr (.inl ⟨h, by omega⟩))
            · have := v3 h; have := q3 h; exact .inr (.inr (.inr ⟨h, by omega⟩))
          · exact .inl ⟨e0.1, by omega⟩
        · exact .inr (.inl ⟨e1.1, by omega⟩)
      · exact .inr (.inr (.inl ⟨e2.1, by omega⟩))
    · exact .inr (.inr (.inr ⟨e3.1, by omega⟩))
  have m0 : 0 ≤ n4 := by
    rcases ko with ⟨h, e⟩ | ⟨h, e⟩ | ⟨h, e⟩ | ⟨h, e⟩
    · have := q0 h; omega
    · have := q1 h; omega
    · have := q2 h; omega
    · have := q3 h; omega
  refine ⟨m0, v0, v1, v2, v3, ko, fun hH => ?_, fun hn => ⟨?_, ?_, ?_, ?_⟩⟩
  · rcases ko with ⟨h, e⟩ | ⟨h, e⟩ | ⟨h, e⟩ | ⟨h, e⟩
    · have := (q0 h).2.2; omega
    · have := (q1 h).2.2; omega
    · have := (q2 h).2.2; omega
    · have := (q3 h).2.2; omega
  · by_cases h : b0 > 0
    · have := v0 h; have := (q0 h).2.2; omega
    · omega
  · by_cases h : b1 > 0
    · have := v1 h; have := (q1 h).2.2; omega
    · omega
  · by_cases h : b2 > 0
    · have := v2 h; have := (q2 h).2.2; omega
    · omega
  · by_cases h : b3 > 0
    · have := v3 h; have := (q3 h).2.2; omega
    · omega

theorem c24 (a0 a1 a2 a3 b0 b1 b2 b3 : Int) (w : World) : Ret Try.prog 24 #[arrV a0 a1 a2 a3, arrV b0 b1 b2 b3] w (.int .i64 (many a0 a1 a2 a3 b0 b1 b2 b3)) := by
  intro R h
  refine f24_calls a0 a1 a2 a3 b0 b1 b2 b3 w R ?_
  unfold f24_vc
  have hA := At.refl w
  refine go_n hA fun n1 h_n1 => ?_
  refine go_n hA fun n2 h_n2 => ?_
  refine go_below hA fun _ hA => ?_
  refine at_call hA (c25 _ _ _ _ _) (fun _ hA hk => ?_)
  first | refine ⟨_, rfl, hk, ?_⟩ | refine ⟨_, _, rfl, hk, ?_⟩ | refine ⟨_, _, _, rfl, hk, ?_⟩ | refine ⟨_, _, _, _, rfl, hk, ?_⟩ | refine ⟨_, _, _, _, _, rfl, hk, ?_⟩ | refine ⟨_, _, _, _, _, _, rfl, hk, ?_⟩ | refine ⟨_, _, _, _, _, _, _, rfl, hk, ?_⟩ | refine ⟨_, _, _, _, _, _, _, _, rfl, hk, ?_⟩
  refine brND (fun hr => leaf h hA (by rw [many, if_neg (fun hh => hr hh.1)])) (fun ha => ?_)
  refine at_call hA (c25 _ _ _ _ _) (fun _ hA hk => ?_)
  first | refine ⟨_, rfl, hk, ?_⟩ | refine ⟨_, _, rfl, hk, ?_⟩ | refine ⟨_, _, _, rfl, hk, ?_⟩ | refine ⟨_, _, _, _, rfl, hk, ?_⟩ | refine ⟨_, _, _, _, _, rfl, hk, ?_⟩ | refine ⟨_, _, _, _, _, _, rfl, hk, ?_⟩ | refine ⟨_, _, _, _, _, _, _, rfl, hk, ?_⟩ | refine ⟨_, _, _, _, _, _, _, _, rfl, hk, ?_⟩
  refine brND (fun hr => leaf h hA (by rw [many, if_neg (fun hh => hr hh.2.1)])) (fun hb => ?_)
  refine ⟨fun he => leaf h hA ?_, fun hne => ?_⟩
  · simp at he
    rw [many, if_neg (fun hh => hh.2.2 he)]
  have hz : ¬ zero4 b0 b1 b2 b3 := fun hz => by
    obtain ⟨rfl, rfl, rfl, rfl⟩ := hz
    simp at hne
  rw [many, if_pos ⟨ha, hb, hz⟩] at h
  obtain ⟨p0, p1, p2, p3⟩ := ha
  refine ⟨fun s W => At w [n1, n2] W ∧ s.1 = mstep 1152921504606846976 a0 b0, brD (fun hp => ⟨_, quo_gives (by omega) hp, go_below hA fun _ hA => ⟨hA, by rw [mstep, if_pos hp]⟩⟩) (fun hp => ⟨hA, by rw [mstep, if_neg hp]⟩), ?_⟩
  intro x0 W0 ⟨hA, hs⟩
  simp only at hs
  refine ⟨fun s W => At w [n1, n2] W ∧ s.1 = mstep (mstep 1152921504606846976 a0 b0) a1 b1, brD (fun hp => ⟨_, quo_gives (by omega) hp, go_below hA fun _ hA => ⟨hA, by rw [mstep, if_pos hp, hs]⟩⟩) (fun hp => ⟨hA, by rw [mstep, if_neg hp, hs]⟩), ?_⟩
  intro x1 W1 ⟨hA, hs⟩
  simp only at hs
  refine ⟨fun s W => At w [n1, n2] W ∧ s.1 = mstep (mstep (mstep 1152921504606846976 a0 b0) a1 b1) a2 b2, brD (fun hp => ⟨_, quo_gives (by omega) hp, go_below hA fun _ hA => ⟨hA, by rw [mstep, if_pos hp, hs]⟩⟩) (fun hp => ⟨hA, by rw [mstep, if_neg hp, hs]⟩), ?_⟩
  intro x2 W2 ⟨hA, hs⟩
  simp only at hs
  refine ⟨fun s W => At w [n1, n2] W ∧ s.1 = mstep (mstep (mstep (mstep 1152921504606846976 a0 b0) a1 b1) a2 b2) a3 b3, brD (fun hp => ⟨_, quo_gives (by omega) hp, go_below hA fun _ hA => ⟨hA, by rw [mstep, if_pos hp, hs]⟩⟩) (fun hp => ⟨hA, by rw [mstep, if_neg hp, hs]⟩), ?_⟩
  intro x3 W3 ⟨hA, hs⟩
  simp only at hs
  exact leaf h hA (by rw [hs])

theorem c23 (w : World) : Ret Try.prog 23 #[] w (.bool true) := by
  intro R h
  refine f23_calls w R ?_
  unfold f23_vc
  have hA := At.refl w
  refine at_call hA (c22 _ _ _ _ _ _ _ _ _) (fun w2 hA hk => ⟨_, _, _, rfl, ?_⟩)
  have hd : dom 2 6 0 0 9 18 0 0 = (1, 6, 18) := by kernel_rfl
  rw [hd]
  refine go_n hA fun n6 h_n6 => ?_
  refine ⟨fun _ => ⟨fun _ => ?_, fun h => by simp at h⟩, fun h => by simp at h⟩
  refine go_evo hA (by intro d hd; simp at hd; omega) fun _ hA => ?_
  refine opw_lit hA (e' := 59) (cs := [(0, 0, 1), (0, 2, 3)].flatMap partE) (by kernel_rfl) fun w9 hA9 hk hb hc hh => ⟨_, _, _, rfl, hk, ?_⟩
  have ho : OwnL w [n6] w9 59 3 partE (.slice (some ⟨_, 0, none⟩) 2 2) [(0, 0, 1), (0, 2, 3)] :=
    OwnL.ret (n := 2) hA ⟨rfl, .inr ⟨_, 2, _, rfl, Nat.le_refl _, hh, Nat.le_refl _, by decide, rfl, rfl⟩⟩ rfl rfl
  refine at_call hA9 (c33 _ (ho.sl (by simp))) (fun w14 hA hk => ?_)
  have hv : ofV [(0, 0, 1), (0, 2, 3)] = arrV 4 0 0 0 := by kernel_rfl
  rw [hv]
  refine ⟨_, _, _, _, rfl, hk, ⟨fun _ => ?_, fun h => by simp at h⟩⟩
  refine at_call hA (c24 _ _ _ _ _ _ _ _ _) (fun _ hA hk => ?_)
  first | refine ⟨_, rfl, hk, ?_⟩ | refine ⟨_, _, rfl, hk, ?_⟩ | refine ⟨_, _, _, rfl, hk, ?_⟩ | refine ⟨_, _, _, _, rfl, hk, ?_⟩ | refine ⟨_, _, _, _, _, rfl, hk, ?_⟩ | refine ⟨_, _, _, _, _, _, rfl, hk, ?_⟩ | refine ⟨_, _, _, _, _, _, _, rfl, hk, ?_⟩ | refine ⟨_, _, _, _, _, _, _, _, rfl, hk, ?_⟩
  have hm : many 7 9 0 0 2 3 0 0 = 3 := by kernel_rfl
  rw [hm]
  exact leaf h hA rfl

theorem law7 (a0 a1 a2 a3 t0 t1 t2 t3 : Int) (w : World) : Ret Try.prog 7 #[arrV a0 a1 a2 a3, arrV t0 t1 t2 t3] w (.bool true) := by
  intro R h
  refine f7_calls a0 a1 a2 a3 t0 t1 t2 t3 w R ?_
  unfold f7_vc
  have hA := At.refl w
  refine go_n hA fun n1 h_n1 => ?_
  refine go_n hA fun n2 h_n2 => ?_
  refine go_below hA fun _ hA => ?_
  refine at_call hA (c22 _ _ _ _ _ _ _ _ _) (fun _ hA hk => ?_)
  first | refine ⟨_, rfl, hk, ?_⟩ | refine ⟨_, _, rfl, hk, ?_⟩ | refine ⟨_, _, _, rfl, hk, ?_⟩ | refine ⟨_, _, _, _, rfl, hk, ?_⟩ | refine ⟨_, _, _, _, _, rfl, hk, ?_⟩ | refine ⟨_, _, _, _, _, _, rfl, hk, ?_⟩ | refine ⟨_, _, _, _, _, _, _, rfl, hk, ?_⟩ | refine ⟨_, _, _, _, _, _, _, _, rfl, hk, ?_⟩
  refine go_n hA fun n9 h_n9 => ?_
  refine go_evo hA (by intro d hd; simp at hd; omega) fun _ hA => ?_
  refine at_call hA (c21 _ _ _ _ _ _ _ _ _) (fun _ hA hk => ?_)
  first | refine ⟨_, rfl, hk, ?_⟩ | refine ⟨_, _, rfl, hk, ?_⟩ | refine ⟨_, _, _, rfl, hk, ?_⟩ | refine ⟨_, _, _, _, rfl, hk, ?_⟩ | refine ⟨_, _, _, _, _, rfl, hk, ?_⟩ | refine ⟨_, _, _, _, _, _, rfl, hk, ?_⟩ | refine ⟨_, _, _, _, _, _, _, rfl, hk, ?_⟩ | refine ⟨_, _, _, _, _, _, _, _, rfl, hk, ?_⟩
  refine go_n hA fun n16 h_n16 => ?_
  refine ⟨fun _ => ⟨fun _ => ?_, fun h => by simp at h⟩, fun h => by simp at h⟩
  refine go_evo hA (by intro d hd; simp at hd; omega) fun _ hA => ?_
  refine at_call hA (c23 _) (fun _ hA hk => ?_)
  first | refine ⟨_, rfl, hk, ?_⟩ | refine ⟨_, _, rfl, hk, ?_⟩ | refine ⟨_, _, _, rfl, hk, ?_⟩ | refine ⟨_, _, _, _, rfl, hk, ?_⟩ | refine ⟨_, _, _, _, _, rfl, hk, ?_⟩ | refine ⟨_, _, _, _, _, _, rfl, hk, ?_⟩ | refine ⟨_, _, _, _, _, _, _, rfl, hk, ?_⟩ | refine ⟨_, _, _, _, _, _, _, _, rfl, hk, ?_⟩
  exact leaf h hA rfl

theorem pair_self {a b c d : Int} {o : Bool} {v : Value} (hv : v = pairA a b c d o) : v = .tuple #[.agg #[.int .i64 a, .int .i64 b, .int .i64 c, .int .i64 d], .bool o] := hv
theorem sumA_shape (a0 a1 a2 a3 b0 b1 b2 b3 : Int) : ∃ a b c d o, sumA a0 a1 a2 a3 b0 b1 b2 b3 = pairA a b c d o := by
  unfold sumA; split <;> exact ⟨_, _, _, _, _, rfl⟩
theorem sumS_shape (a0 a1 a2 a3 b0 b1 b2 b3 : Int) : ∃ a b c d o, sumS a0 a1 a2 a3 b0 b1 b2 b3 = pairA a b c d o := by
  unfold sumS; split <;> exact ⟨_, _, _, _, _, rfl⟩
theorem law9 (a0 a1 a2 a3 b0 b1 b2 b3 : Int) (w : World) : Ret Try.prog 9 #[arrV a0 a1 a2 a3, arrV b0 b1 b2 b3] w (.bool true) := by
  intro R h
  refine f9_calls a0 a1 a2 a3 b0 b1 b2 b3 w R ?_
  unfold f9_vc
  have hA := At.refl w
  obtain ⟨s0, s1, s2, s3, so, hs⟩ := sumA_shape a0 a1 a2 a3 b0 b1 b2 b3
  obtain ⟨d0, d1, d2, d3, dd, hd⟩ := sumS_shape a0 a1 a2 a3 b0 b1 b2 b3
  refine go_n hA fun n1 h_n1 => ?_
  refine go_n hA fun n2 h_n2 => ?_
  refine go_below hA fun _ hA => ?_
  refine at_call hA (hs ▸ c27 a0 a1 a2 a3 b0 b1 b2 b3 _) (fun _ hA hk => ?_)
  first | refine ⟨_, rfl, hk, ?_⟩ | refine ⟨_, _, rfl, hk, ?_⟩ | refine ⟨_, _, _, rfl, hk, ?_⟩ | refine ⟨_, _, _, _, rfl, hk, ?_⟩ | refine ⟨_, _, _, _, _, rfl, hk, ?_⟩ | refine ⟨_, _, _, _, _, _, rfl, hk, ?_⟩ | refine ⟨_, _, _, _, _, _, _, rfl, hk, ?_⟩ | refine ⟨_, _, _, _, _, _, _, _, rfl, hk, ?_⟩
  refine go_n hA fun n3 h_n3 => ?_
  refine go_evo hA (by intro d hd; simp at hd; omega) fun _ hA => ?_
  refine at_call hA (hs ▸ c28 a0 a1 a2 a3 b0 b1 b2 b3 _) (fun _ hA hk => ?_)
  first | refine ⟨_, rfl, hk, ?_⟩ | refine ⟨_, _, rfl, hk, ?_⟩ | refine ⟨_, _, _, rfl, hk, ?_⟩ | refine ⟨_, _, _, _, rfl, hk, ?_⟩ | refine ⟨_, _, _, _, _, rfl, hk, ?_⟩ | refine ⟨_, _, _, _, _, _, rfl, hk, ?_⟩ | refine ⟨_, _, _, _, _, _, _, rfl, hk, ?_⟩ | refine ⟨_, _, _, _, _, _, _, _, rfl, hk, ?_⟩
  refine go_n hA fun n4 h_n4 => ?_
  refine go_evo hA (by intro d hd; simp at hd; omega) fun _ hA => ?_
  refine at_call hA (hd ▸ c29 a0 a1 a2 a3 b0 b1 b2 b3 _) (fun _ hA hk => ?_)
  first | refine ⟨_, rfl, hk, ?_⟩ | refine ⟨_, _, rfl, hk, ?_⟩ | refine ⟨_, _, _, rfl, hk, ?_⟩ | refine ⟨_, _, _, _, rfl, hk, ?_⟩ | refine ⟨_, _, _, _, _, rfl, hk, ?_⟩ | refine ⟨_, _, _, _, _, _, rfl, hk, ?_⟩ | refine ⟨_, _, _, _, _, _, _, rfl, hk, ?_⟩ | refine ⟨_, _, _, _, _, _, _, _, rfl, hk, ?_⟩
  refine go_n hA fun n5 h_n5 => ?_
  refine go_evo hA (by intro d hd; simp at hd; omega) fun _ hA => ?_
  refine at_call hA (hd ▸ c30 a0 a1 a2 a3 b0 b1 b2 b3 _) (fun _ hA hk => ?_)
  first | refine ⟨_, rfl, hk, ?_⟩ | refine ⟨_, _, rfl, hk, ?_⟩ | refine ⟨_, _, _, rfl, hk, ?_⟩ | refine ⟨_, _, _, _, rfl, hk, ?_⟩ | refine ⟨_, _, _, _, _, rfl, hk, ?_⟩ | refine ⟨_, _, _, _, _, _, rfl, hk, ?_⟩ | refine ⟨_, _, _, _, _, _, _, rfl, hk, ?_⟩ | refine ⟨_, _, _, _, _, _, _, _, rfl, hk, ?_⟩
  refine go_n hA fun n6 h_n6 => ?_
  refine ⟨fun _ => ⟨fun _ => ⟨fun _ => ⟨fun _ => ?_, fun h => by simp at h⟩, fun h => by simp at h⟩, fun h => by simp at h⟩, fun h => by simp at h⟩
  refine go_evo hA (by intro d hd; simp at hd; omega) fun _ hA => ?_
  refine at_call hA (c26 _ _ _ _ _ _ _ _ _) (fun _ hA hk => ?_)
  first | refine ⟨_, rfl, hk, ?_⟩ | refine ⟨_, _, rfl, hk, ?_⟩ | refine ⟨_, _, _, rfl, hk, ?_⟩ | refine ⟨_, _, _, _, rfl, hk, ?_⟩ | refine ⟨_, _, _, _, _, rfl, hk, ?_⟩ | refine ⟨_, _, _, _, _, _, rfl, hk, ?_⟩ | refine ⟨_, _, _, _, _, _, _, rfl, hk, ?_⟩ | refine ⟨_, _, _, _, _, _, _, _, rfl, hk, ?_⟩
  refine at_call hA (c31 _ _ _ _ _ _ _ _ _) (fun _ hA hk => ?_)
  first | refine ⟨_, rfl, hk, ?_⟩ | refine ⟨_, _, rfl, hk, ?_⟩ | refine ⟨_, _, _, rfl, hk, ?_⟩ | refine ⟨_, _, _, _, rfl, hk, ?_⟩ | refine ⟨_, _, _, _, _, rfl, hk, ?_⟩ | refine ⟨_, _, _, _, _, _, rfl, hk, ?_⟩ | refine ⟨_, _, _, _, _, _, _, rfl, hk, ?_⟩ | refine ⟨_, _, _, _, _, _, _, _, rfl, hk, ?_⟩
  refine ⟨fun _ => ?_, fun h => by simp at h⟩
  refine at_call hA (c25 _ _ _ _ _) (fun _ hA hk => ?_)
  first | refine ⟨_, rfl, hk, ?_⟩ | refine ⟨_, _, rfl, hk, ?_⟩ | refine ⟨_, _, _, rfl, hk, ?_⟩ | refine ⟨_, _, _, _, rfl, hk, ?_⟩ | refine ⟨_, _, _, _, _, rfl, hk, ?_⟩ | refine ⟨_, _, _, _, _, _, rfl, hk, ?_⟩ | refine ⟨_, _, _, _, _, _, _, rfl, hk, ?_⟩ | refine ⟨_, _, _, _, _, _, _, _, rfl, hk, ?_⟩
  refine at_call hA (c32 _ _ _ _ _) (fun _ hA hk => ?_)
  first | refine ⟨_, rfl, hk, ?_⟩ | refine ⟨_, _, rfl, hk, ?_⟩ | refine ⟨_, _, _, rfl, hk, ?_⟩ | refine ⟨_, _, _, _, rfl, hk, ?_⟩ | refine ⟨_, _, _, _, _, rfl, hk, ?_⟩ | refine ⟨_, _, _, _, _, _, rfl, hk, ?_⟩ | refine ⟨_, _, _, _, _, _, _, rfl, hk, ?_⟩ | refine ⟨_, _, _, _, _, _, _, _, rfl, hk, ?_⟩
  refine ⟨fun _ => ?_, fun h => by simp at h⟩
  refine at_call hA (c23 _) (fun _ hA hk => ?_)
  first | refine ⟨_, rfl, hk, ?_⟩ | refine ⟨_, _, rfl, hk, ?_⟩ | refine ⟨_, _, _, rfl, hk, ?_⟩ | refine ⟨_, _, _, _, rfl, hk, ?_⟩ | refine ⟨_, _, _, _, _, rfl, hk, ?_⟩ | refine ⟨_, _, _, _, _, _, rfl, hk, ?_⟩ | refine ⟨_, _, _, _, _, _, _, rfl, hk, ?_⟩ | refine ⟨_, _, _, _, _, _, _, _, rfl, hk, ?_⟩
  exact leaf h hA rfl

theorem law8 (a0 a1 a2 a3 b0 b1 b2 b3 : Int) (w : World) : Ret Try.prog 8 #[arrV a0 a1 a2 a3, arrV b0 b1 b2 b3] w (.bool true) := by
  intro R h
  refine f8_calls a0 a1 a2 a3 b0 b1 b2 b3 w R ?_
  unfold f8_vc
  have hA := At.refl w
  refine go_n hA fun n1 h_n1 => ?_
  refine go_n hA fun n2 h_n2 => ?_
  refine go_below hA fun _ hA => ?_
  refine at_call hA (c24 _ _ _ _ _ _ _ _ _) (fun _ hA hk => ?_)
  first | refine ⟨_, rfl, hk, ?_⟩ | refine ⟨_, _, rfl, hk, ?_⟩ | refine ⟨_, _, _, rfl, hk, ?_⟩ | refine ⟨_, _, _, _, rfl, hk, ?_⟩ | refine ⟨_, _, _, _, _, rfl, hk, ?_⟩ | refine ⟨_, _, _, _, _, _, rfl, hk, ?_⟩ | refine ⟨_, _, _, _, _, _, _, rfl, hk, ?_⟩ | refine ⟨_, _, _, _, _, _, _, _, rfl, hk, ?_⟩
  refine at_call hA (c25 _ _ _ _ _) (fun _ hA hk => ?_)
  first | refine ⟨_, rfl, hk, ?_⟩ | refine ⟨_, _, rfl, hk, ?_⟩ | refine ⟨_, _, _, rfl, hk, ?_⟩ | refine ⟨_, _, _, _, rfl, hk, ?_⟩ | refine ⟨_, _, _, _, _, rfl, hk, ?_⟩ | refine ⟨_, _, _, _, _, _, rfl, hk, ?_⟩ | refine ⟨_, _, _, _, _, _, _, rfl, hk, ?_⟩ | refine ⟨_, _, _, _, _, _, _, _, rfl, hk, ?_⟩
  have fin : ∀ W, many a0 a1 a2 a3 b0 b1 b2 b3 = 0 → At w [n1, n2] W → ((many a0 a1 a2 a3 b0 b1 b2 b3 == 0) = true → Calls Try.prog 23 #[] W fun e w' => ∃ b, e = Ending.returned (Value.bool b) ∧ Keeps [n1, n2] W w' ∧ R (Ending.returned (Value.bool b)) w') ∧ ((many a0 a1 a2 a3 b0 b1 b2 b3 == 0) = false → R (.returned (.bool false)) W) := by
    intro W hm hA
    refine brE (fun _ => ?_) (fun hn => absurd hm hn)
    refine at_call hA (c23 _) (fun _ hA hk => ?_)
    first | refine ⟨_, rfl, hk, ?_⟩ | refine ⟨_, _, rfl, hk, ?_⟩ | refine ⟨_, _, _, rfl, hk, ?_⟩ | refine ⟨_, _, _, _, rfl, hk, ?_⟩ | refine ⟨_, _, _, _, _, rfl, hk, ?_⟩ | refine ⟨_, _, _, _, _, _, rfl, hk, ?_⟩ | refine ⟨_, _, _, _, _, _, _, rfl, hk, ?_⟩ | refine ⟨_, _, _, _, _, _, _, _, rfl, hk, ?_⟩
    exact leaf h hA rfl
  refine brND (fun hr => fin _ (by rw [many, if_neg (fun hh => hr hh.1)]) hA) (fun ha => ?_)
  refine at_call hA (c25 _ _ _ _ _) (fun _ hA hk => ?_)
  first | refine ⟨_, rfl, hk, ?_⟩ | refine ⟨_, _, rfl, hk, ?_⟩ | refine ⟨_, _, _, rfl, hk, ?_⟩ | refine ⟨_, _, _, _, rfl, hk, ?_⟩ | refine ⟨_, _, _, _, _, rfl, hk, ?_⟩ | refine ⟨_, _, _, _, _, _, rfl, hk, ?_⟩ | refine ⟨_, _, _, _, _, _, _, rfl, hk, ?_⟩ | refine ⟨_, _, _, _, _, _, _, _, rfl, hk, ?_⟩
  refine brND (fun hr => fin _ (by rw [many, if_neg (fun hh => hr hh.2.1)]) hA) (fun hb => ?_)
  refine ⟨fun he => fin _ ?_ hA, fun hne => ?_⟩
  · simp at he
    rw [many, if_neg (fun hh => hh.2.2 he)]
  have hz : ¬ zero4 b0 b1 b2 b3 := fun hz => by
    obtain ⟨rfl, rfl, rfl, rfl⟩ := hz
    simp at hne
  obtain ⟨m0, k0, k1, k2, k3, ko, kh⟩ := many_spec ha hb hz
  generalize many a0 a1 a2 a3 b0 b1 b2 b3 = n at *
  have ha' := ha
  obtain ⟨p0, p1, p2, p3⟩ := ha'
  refine ⟨fun s W => At w [n1, n2] W ∧ s.1 = (false || (decide (b0 > 0) && n == a0 / b0)), brD (fun hp => ⟨_, quo_gives (by omega) hp, brD (fun hgt => by have := k0 hp; omega) (fun _ => ⟨fun _ => ⟨_, quo_gives (by omega) hp, go_below hA fun _ hA => ⟨hA, by simp [hp]⟩⟩, fun hf => by simp at hf; omega⟩)⟩) (fun hp => ⟨fun hf => by simp at hf; omega, fun _ => go_below hA fun _ hA => ⟨hA, by simp [hp]⟩⟩), ?_⟩
  intro x0 W0 ⟨hA, hs⟩
  simp only at hs
  refine ⟨fun s W => At w [n1, n2] W ∧ s.1 = ((false || (decide (b0 > 0) && n == a0 / b0)) || (decide (b1 > 0) && n == a1 / b1)), brD (fun hp => ⟨_, quo_gives (by omega) hp, brD (fun hgt => by have := k1 hp; omega) (fun _ => brB (fun ho => go_below hA fun _ hA => ⟨hA, by rw [ho] at hs; rw [← hs]; rfl⟩) (fun ho => ⟨fun _ => ⟨_, quo_gives (by omega) hp, go_below hA fun _ hA => ⟨hA, by rw [ho] at hs; rw [← hs]; simp [hp]⟩⟩, fun hf => by simp at hf; omega⟩))⟩) (fun hp => brB (fun ho => go_below hA fun _ hA => ⟨hA, by rw [ho] at hs; rw [← hs]; rfl⟩) (fun ho => ⟨fun hf => by simp at hf; omega, fun _ => go_below hA fun _ hA => ⟨hA, by rw [ho] at hs; rw [← hs]; simp [hp]⟩⟩)), ?_⟩
  intro x1 W1 ⟨hA, hs⟩
  simp only at hs
  refine ⟨fun s W => At w [n1, n2] W ∧ s.1 = (((false || (decide (b0 > 0) && n == a0 / b0)) || (decide (b1 > 0) && n == a1 / b1)) || (decide (b2 > 0) && n == a2 / b2)), brD (fun hp => ⟨_, quo_gives (by omega) hp, brD (fun hgt => by have := k2 hp; omega) (fun _ => brB (fun ho => go_below hA fun _ hA => ⟨hA, by rw [ho] at hs; rw [← hs]; rfl⟩) (fun ho => ⟨fun _ => ⟨_, quo_gives (by omega) hp, go_below hA fun _ hA => ⟨hA, by rw [ho] at hs; rw [← hs]; simp [hp]⟩⟩, fun hf => by simp at hf; omega⟩))⟩) (fun hp => brB (fun ho => go_below hA fun _ hA => ⟨hA, by rw [ho] at hs; rw [← hs]; rfl⟩) (fun ho => ⟨fun hf => by simp at hf; omega, fun _ => go_below hA fun _ hA => ⟨hA, by rw [ho] at hs; rw [← hs]; simp [hp]⟩⟩)), ?_⟩
  intro x2 W2 ⟨hA, hs⟩
  simp only at hs
  refine ⟨fun s W => At w [n1, n2] W ∧ s.1 = ((((false || (decide (b0 > 0) && n == a0 / b0)) || (decide (b1 > 0) && n == a1 / b1)) || (decide (b2 > 0) && n == a2 / b2)) || (decide (b3 > 0) && n == a3 / b3)), brD (fun hp => ⟨_, quo_gives (by omega) hp, brD (fun hgt => by have := k3 hp; omega) (fun _ => brB (fun ho => go_below hA fun _ hA => ⟨hA, by rw [ho] at hs; rw [← hs]; rfl⟩) (fun ho => ⟨fun _ => ⟨_, quo_gives (by omega) hp, go_below hA fun _ hA => ⟨hA, by rw [ho] at hs; rw [← hs]; simp [hp]⟩⟩, fun hf => by simp at hf; omega⟩))⟩) (fun hp => brB (fun ho => go_below hA fun _ hA => ⟨hA, by rw [ho] at hs; rw [← hs]; rfl⟩) (fun ho => ⟨fun hf => by simp at hf; omega, fun _ => go_below hA fun _ hA => ⟨hA, by rw [ho] at hs; rw [← hs]; simp [hp]⟩⟩)), ?_⟩
  intro x3 W3 ⟨hA, hs⟩
  simp only at hs
  have ho : x3 = true := by
    rw [hs]
    rcases ko with h | h | h | h <;> simp [h.1, h.2]
  refine brD (fun _ => brB (fun _ => ?_) (fun hf => by rw [ho] at hf; cases hf)) (fun hf => absurd m0 hf)
  refine at_call hA (c26 _ _ _ _ _ _ _ _ _) (fun _ hA hk => ?_)
  first | refine ⟨_, rfl, hk, ?_⟩ | refine ⟨_, _, rfl, hk, ?_⟩ | refine ⟨_, _, _, rfl, hk, ?_⟩ | refine ⟨_, _, _, _, rfl, hk, ?_⟩ | refine ⟨_, _, _, _, _, rfl, hk, ?_⟩ | refine ⟨_, _, _, _, _, _, rfl, hk, ?_⟩ | refine ⟨_, _, _, _, _, _, _, rfl, hk, ?_⟩ | refine ⟨_, _, _, _, _, _, _, _, rfl, hk, ?_⟩
  refine ⟨fun _ => ?_, fun hf => ?_⟩
  · refine at_call hA (c23 _) (fun _ hA hk => ?_)
    first | refine ⟨_, rfl, hk, ?_⟩ | refine ⟨_, _, rfl, hk, ?_⟩ | refine ⟨_, _, _, rfl, hk, ?_⟩ | refine ⟨_, _, _, _, rfl, hk, ?_⟩ | refine ⟨_, _, _, _, _, rfl, hk, ?_⟩ | refine ⟨_, _, _, _, _, _, rfl, hk, ?_⟩ | refine ⟨_, _, _, _, _, _, _, rfl, hk, ?_⟩ | refine ⟨_, _, _, _, _, _, _, _, rfl, hk, ?_⟩
    exact leaf h hA rfl
  · exfalso
    rw [show decide (sumH a0 a1 a2 a3 b0 b1 b2 b3) = decide (n > 0) from decide_eq_decide.2 kh] at hf
    simp at hf

theorem c20 (a0 a1 a2 a3 t0 t1 t2 t3 k : Int) (w : World) : Ret Try.prog 20 #[arrV a0 a1 a2 a3, arrV t0 t1 t2 t3, .int .i64 k] w (shV (dom a0 a1 a2 a3 t0 t1 t2 t3).2.1 (dom a0 a1 a2 a3 t0 t1 t2 t3).2.2 k) := by
  intro R h
  refine f20_calls a0 a1 a2 a3 t0 t1 t2 t3 k w R ?_
  unfold f20_vc
  have hA := At.refl w
  refine go_n hA fun n1 h_n1 => ?_
  refine go_n hA fun n2 h_n2 => ?_
  refine go_n hA fun n3 h_n3 => ?_
  refine go_below hA fun _ hA => ?_
  refine at_call hA (c22 _ _ _ _ _ _ _ _ _) (fun _ hA hk => ?_)
  first | refine ⟨_, rfl, hk, ?_⟩ | refine ⟨_, _, rfl, hk, ?_⟩ | refine ⟨_, _, _, rfl, hk, ?_⟩ | refine ⟨_, _, _, _, rfl, hk, ?_⟩ | refine ⟨_, _, _, _, _, rfl, hk, ?_⟩ | refine ⟨_, _, _, _, _, _, rfl, hk, ?_⟩ | refine ⟨_, _, _, _, _, _, _, rfl, hk, ?_⟩ | refine ⟨_, _, _, _, _, _, _, _, rfl, hk, ?_⟩
  refine go_n hA fun n10 h_n10 => ?_
  refine go_evo hA (by intro d hd; simp at hd; omega) fun _ hA => ?_
  exact leaf h hA rfl
theorem law6 (a0 a1 a2 a3 t0 t1 t2 t3 k : Int) (w : World) : Ret Try.prog 6 #[arrV a0 a1 a2 a3, arrV t0 t1 t2 t3, .int .i64 k] w (.bool true) := by
  intro R h
  refine f6_calls a0 a1 a2 a3 t0 t1 t2 t3 k w R ?_
  unfold f6_vc
  have hA := At.refl w
  refine go_n hA fun n1 h_n1 => ?_
  refine go_n hA fun n2 h_n2 => ?_
  refine go_below hA fun _ hA => ?_
  refine at_call hA (c20 _ _ _ _ _ _ _ _ _ _) (fun _ hA hk => ?_)
  first | refine ⟨_, rfl, hk, ?_⟩ | refine ⟨_, _, rfl, hk, ?_⟩ | refine ⟨_, _, _, rfl, hk, ?_⟩ | refine ⟨_, _, _, _, rfl, hk, ?_⟩ | refine ⟨_, _, _, _, _, rfl, hk, ?_⟩ | refine ⟨_, _, _, _, _, _, rfl, hk, ?_⟩ | refine ⟨_, _, _, _, _, _, _, rfl, hk, ?_⟩ | refine ⟨_, _, _, _, _, _, _, _, rfl, hk, ?_⟩
  refine go_n hA fun n9 h_n9 => ?_
  refine go_evo hA (by intro d hd; simp at hd; omega) fun _ hA => ?_
  refine at_call hA (c21 _ _ _ _ _ _ _ _ _) (fun _ hA hk => ?_)
  first | refine ⟨_, rfl, hk, ?_⟩ | refine ⟨_, _, rfl, hk, ?_⟩ | refine ⟨_, _, _, rfl, hk, ?_⟩ | refine ⟨_, _, _, _, rfl, hk, ?_⟩ | refine ⟨_, _, _, _, _, rfl, hk, ?_⟩ | refine ⟨_, _, _, _, _, _, rfl, hk, ?_⟩ | refine ⟨_, _, _, _, _, _, _, rfl, hk, ?_⟩ | refine ⟨_, _, _, _, _, _, _, _, rfl, hk, ?_⟩
  refine go_n hA fun n16 h_n16 => ?_
  refine ⟨fun _ => ⟨fun _ => ?_, fun h => by simp at h⟩, fun h => by simp at h⟩
  refine go_evo hA (by intro d hd; simp at hd; omega) fun _ hA => ?_
  refine at_call hA (c13 _ _ _ _) (fun _ hA hk => ?_)
  first | refine ⟨_, rfl, hk, ?_⟩ | refine ⟨_, _, rfl, hk, ?_⟩ | refine ⟨_, _, _, rfl, hk, ?_⟩ | refine ⟨_, _, _, _, rfl, hk, ?_⟩ | refine ⟨_, _, _, _, _, rfl, hk, ?_⟩ | refine ⟨_, _, _, _, _, _, rfl, hk, ?_⟩ | refine ⟨_, _, _, _, _, _, _, rfl, hk, ?_⟩ | refine ⟨_, _, _, _, _, _, _, _, rfl, hk, ?_⟩
  refine at_call hA (c14 _ _ _ _) (fun _ hA hk => ?_)
  first | refine ⟨_, rfl, hk, ?_⟩ | refine ⟨_, _, rfl, hk, ?_⟩ | refine ⟨_, _, _, rfl, hk, ?_⟩ | refine ⟨_, _, _, _, rfl, hk, ?_⟩ | refine ⟨_, _, _, _, _, rfl, hk, ?_⟩ | refine ⟨_, _, _, _, _, _, rfl, hk, ?_⟩ | refine ⟨_, _, _, _, _, _, _, rfl, hk, ?_⟩ | refine ⟨_, _, _, _, _, _, _, _, rfl, hk, ?_⟩
  refine ⟨fun _ => ?_, fun h => by simp at h⟩
  refine at_call hA (c16 _) (fun _ hA hk => ?_)
  first | refine ⟨_, rfl, hk, ?_⟩ | refine ⟨_, _, rfl, hk, ?_⟩ | refine ⟨_, _, _, rfl, hk, ?_⟩ | refine ⟨_, _, _, _, rfl, hk, ?_⟩ | refine ⟨_, _, _, _, _, rfl, hk, ?_⟩ | refine ⟨_, _, _, _, _, _, rfl, hk, ?_⟩ | refine ⟨_, _, _, _, _, _, _, rfl, hk, ?_⟩ | refine ⟨_, _, _, _, _, _, _, _, rfl, hk, ?_⟩
  exact leaf h hA rfl
end Go.Vc.B
