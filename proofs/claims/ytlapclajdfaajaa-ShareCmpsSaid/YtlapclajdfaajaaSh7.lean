/- Own text of this claim: Sh7. -/
import Derived.Test.YtlapclajdfaajaaSh6
import Derived.Test.YtlapclajdfaajaaSh3
import Derived.Test.YtlapclajdfaajaaVcElt
set_option maxRecDepth 20000
namespace Go.Vc.B
open Go Go.Vc Go.RowKit Go.Proofs Vcb Go.Vc.BQ Go.Vc.BT

/-- A filtered range: the place of a member. -/
theorem filter_range_at {p : Nat → Bool} : ∀ {n k : Nat}, k < n → p k = true → ((List.range n).filter p)[((List.range k).filter p).length]? = some k := by
  intro n
  induction n with
  | zero => intro k h; omega
  | succ n ih =>
    intro k hk hp
    rw [List.range_succ, List.filter_append]
    by_cases h : k < n
    · have := ih h hp
      rw [List.getElem?_append_left (List.getElem?_eq_some_iff.1 this).1]
      exact this
    · have : k = n := by omega
      subst this
      simp [hp]
theorem filter_range_succ (p : Nat → Bool) (k : Nat) : ((List.range (k + 1)).filter p).length = ((List.range k).filter p).length + (if p k = true then 1 else 0) := by
  rw [List.range_succ, List.filter_append, List.length_append]
  by_cases h : p k = true <;> simp [h]

theorem law3 {a0 a1 a2 b0 b1 b2 : Int} {l : List ShT} {la : Option Addr} {n c : Nat} (w : World) (hs : SlE w 3 shE l la n c) : Ret Try.prog 3 #[shV a0 a1 a2, shV b0 b1 b2, .slice la n c] w (.bool true) := by
  intro R h
  refine f3_calls a0 a1 a2 b0 b1 b2 la n c w R ?_
  unfold f3_vc
  have hA := At.refl w
  have hn := hs.1
  subst hn
  refine go_n hA fun n1 h1 => ?_
  refine go_n hA fun n2 h2 => ?_
  refine brD (fun _ => go_below hA fun w3 hA => leaf h hA rfl) (fun hlen => go_below hA fun w4 hA => ?_)
  refine at_call hA (c11 _ _ _ _ _ _ _) (fun _ hA hk => ⟨_, rfl, hk, ?_⟩)
  refine at_call hA (c12 _ _ _ _ _ _ _) (fun _ hA hk => ⟨_, rfl, hk, ?_⟩)
  refine brN (fun hne => absurd rfl hne) (fun _ => ?_)
  refine at_call hA (c13 _ _ _ _) (fun _ hA hk => ⟨_, rfl, hk, ?_⟩)
  refine at_call hA (c14 _ _ _ _) (fun _ hA hk => ⟨_, rfl, hk, ?_⟩)
  refine ⟨fun hne => by simp at hne, fun _ => ?_⟩
  refine at_calll hA (c15 _ (hs.call hA.below) (by omega)) (by simp) fun ga gc w18 hA hk hb ho hsg => ⟨_, _, _, rfl, hk, ?_⟩
  have hat : ∀ {W : World} {i : Nat} {x : ShT}, At w [n1, n2] W → l[i]? = some x → ∃ ad, Gives Try.prog (Instr.indexAt 26 (.slice la l.length c) (.int .i64 (i : Int))) (.pointer (some ad)) ∧ Elt W ad (shE x) := fun hA hx => by
    obtain ⟨ad, g, e, _⟩ := elt_at (P := Try.prog) (k := .i64) (t := 26) (hs.call hA.below) hx (e := 25) (by kernel_rfl) (by kernel_rfl)
    exact ⟨ad, g, e⟩
  have rd1 : ∀ {W : World} {ad : Addr} {x : ShT}, Elt W ad (shE x) → Reads Try.prog [] (Instr.loadAt 23 (.pointer (some ad))) W (.agg #[.int .i64 x.1, .int .i64 x.2.1]) := fun e => Elt.agg 2 e (by kernel_rfl) (by kernel_rfl) (by simp) no_ds
  have rd2 : ∀ {W : World} {ad : Addr} {x : ShT}, Elt W ad (shE x) → Reads Try.prog [] (Instr.loadAt 2 (.pointer (some (Addr.mk ad.block (ad.off + 2) none)))) W (.int .i64 x.2.2) := fun e => (e.sub (o := 2) (by decide)).one (by kernel_rfl) no_ds
  have hgot := least_lst l
  refine ⟨fun s W => At w [n1, n2] W ∧ OwnL w [n1, n2] W 3 1 one (.slice ga (least l).length gc) (least l) ∧ ∃ k : Nat, s.2.1 = k ∧ k ≤ l.length ∧ s.1 = (((List.range k).filter (isL l l.length)).length : Nat), fun s _ => l.length - s.2.1.toNat, ⟨hA, ho, 0, rfl, Nat.zero_le _, rfl⟩, ?_⟩
  intro m k' W ⟨hA, ho, k, hk1, hkl, hm⟩
  simp only at hk1 hm
  subst hk1 hm
  refine brD (fun hlt => ?_) (fun hge => ?_)
  · obtain ⟨x, hx⟩ : ∃ x, l[k]? = some x := ⟨_, List.getElem?_eq_getElem (by omega)⟩
    obtain ⟨ad, g, e⟩ := hat hA hx
    refine ⟨_, g, _, _, rd1 e, _, g, _, rd2 e, go_below_too hA fun w32 hA hb32 => ?_⟩
    refine at_callq (Q := fun v _ => v = .bool (decide (S x))) hA (fun R h => c14 _ _ _ _ R fun w' hb => h _ w' hb rfl) (fun v w34 hA hk hb34 hv => ?_)
    subst hv
    refine ⟨_, rfl, hk, ?_⟩
    refine ⟨fun s W => At w [n1, n2] W ∧ OwnL w [n1, n2] W 3 1 one (.slice ga (least l).length gc) (least l) ∧ ∃ j : Nat, s.2.1 = j ∧ j ≤ l.length ∧ s.1 = (decide (S x) && (l.take j).all fun y => decide (0 ≤ cm y x)), fun s _ => l.length - s.2.1.toNat, ⟨hA, (ho.call hb32).call hb34, 0, rfl, Nat.zero_le _, by simp⟩, ?_⟩
    intro b j' W2 ⟨hA, ho, j, hj1, hjl, hbj⟩
    simp only at hj1 hbj
    subst hj1
    have e1 : IntKind.i64.wrap ((j : Int) + 1) = ((j + 1 : Nat) : Int) := by rw [wrap_i64 (by omega) (by omega)]; rfl
    have e2 : IntKind.i64.wrap ((k : Int) + 1) = ((k + 1 : Nat) : Int) := by rw [wrap_i64 (by omega) (by omega)]; rfl
    rw [e1, e2]
    have hfl : ((List.range k).filter (isL l l.length)).length ≤ k := by
      have := List.length_filter_le (isL l l.length) (List.range k)
      rw [List.length_range] at this
      exact this
    have e3 : IntKind.i64.wrap (((List.range k).filter (isL l l.length)).length + 1 : Int) = ((((List.range k).filter (isL l l.length)).length + 1 : Nat) : Int) := by rw [wrap_i64 (by omega) (by omega)]; rfl
    rw [e3]
    refine brD (fun hjlt => ?_) (fun hjge => ?_)
    · obtain ⟨y, hy⟩ : ∃ y, l[j]? = some y := ⟨_, List.getElem?_eq_getElem (by omega)⟩
      have ht : l.take (j + 1) = l.take j ++ [y] := by rw [List.take_add_one, hy]; rfl
      refine brB (fun hb => ?_) (fun hb => ?_)
      · obtain ⟨ad2, g2, e2⟩ := hat hA hy
        obtain ⟨ad3, g3, e3⟩ := hat hA hx
        refine ⟨_, g2, _, _, rd1 e2, _, g2, _, rd2 e2, _, g3, _, _, rd1 e3, _, g3, _, rd2 e3, go_below_too hA fun w51 hA hb51 => ?_⟩
        refine at_callq (Q := fun v _ => v = .int .i64 (cm y x)) hA (fun R h => c12 _ _ _ _ _ _ _ R fun w' hb => h _ w' hb rfl) (fun v w53 hA hk hb53 hv => ?_)
        subst hv
        refine ⟨_, rfl, hk, ⟨hA, (ho.call hb51).call hb53, j + 1, rfl, by omega, ?_⟩, by show l.length - ((j + 1 : Nat) : Int).toNat < l.length - (j : Int).toNat; omega⟩
        rw [hb] at hbj
        simp only [ht, List.all_append, ← Bool.and_assoc, ← hbj]
        simp
      · refine go_below_too hA fun w55 hA hb55 => ⟨⟨hA, ho.call hb55, j + 1, rfl, by omega, ?_⟩, by show l.length - ((j + 1 : Nat) : Int).toNat < l.length - (j : Int).toNat; omega⟩
        rw [hb] at hbj
        simp only [ht, List.all_append, ← Bool.and_assoc, ← hbj]
        simp
    · have hjl2 : j = l.length := by omega
      subst hjl2
      have hbk : b = isL l l.length k := by rw [hbj, isL, hx]
      have hsucc := filter_range_succ (isL l l.length) k
      rw [← hbk] at hsucc
      refine brB (fun hb => ?_) (fun hb => ?_)
      · rw [hb] at hsucc hbk
        have hp := filter_range_at (p := isL l l.length) (n := l.length) (k := k) (by omega) hbk.symm
        have hp' : (least l)[((List.range k).filter (isL l l.length)).length]? = some (k : Int) := by
          rw [hgot, List.getElem?_map]
          unfold lst
          rw [hp]
          rfl
        have hlt2 := (List.getElem?_eq_some_iff.1 hp').1
        refine brD (fun hge => by omega) (fun _ => ?_)
        obtain ⟨ad2, g2, r2⟩ := rd_one (te := 3) (ds := []) (k := .i64) (t := 31) (P := Try.prog) (e := 3) (ho.sl (by simp)) hp' rfl (by kernel_rfl) (by kernel_rfl) (by kernel_rfl) (fun _ h => by cases h)
        refine ⟨_, g2, _, r2, brN (fun hne => absurd rfl hne) (fun _ => ⟨⟨hA, ho, k + 1, rfl, by omega, ?_⟩, by show l.length - ((k + 1 : Nat) : Int).toNat < l.length - (k : Int).toNat; omega⟩)⟩
        rw [hsucc]
        simp
      · rw [hb] at hsucc
        refine ⟨⟨hA, ho, k + 1, rfl, by omega, ?_⟩, by show l.length - ((k + 1 : Nat) : Int).toNat < l.length - (k : Int).toNat; omega⟩
        rw [hsucc]
        simp
  · have hke : k = l.length := by omega
    subst hke
    refine brE (fun _ => ?_) (fun hne => absurd ?_ hne)
    · exact at_call hA (c16 _) (fun _ hA hk => ⟨_, rfl, hk, leaf h hA rfl⟩)
    · rw [hgot, List.length_map]
      rfl
end Go.Vc.B
