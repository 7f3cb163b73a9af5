/- Own text of this claim: Rq6. -/
import Derived.Test.YtjpmpdckkdhidaaRq5
set_option maxRecDepth 20000
namespace Go.Vc.Q
open Go Go.Vc Go.RowKit Go.Proofs Vca

theorem qsum2 {a b most : Int} (ha : I64 a) (hb : I64 b) : qsum most [a, b] = if most < 0 ∨ a < 0 ∨ b < 0 ∨ a + b > most then (0, false) else (a + b, true) := by
  unfold qsum
  split
  · rw [if_pos (by omega)]
  · simp only [qgo]
    repeat' split
    all_goals first | rfl | (exfalso; omega) | (congr 1; omega)

theorem law8 (a b most : Int) (ha : I64 a) (hb : I64 b) (hm : I64 most) (w : World) : Ret Try.prog 8 #[.int .i64 a, .int .i64 b, .int .i64 most] w (.bool true) := by
  intro R h
  refine f8_calls a b most w R ?_
  unfold f8_vc
  have hA := At.refl w
  have fin : ∀ W, At w [] W → Calls Try.prog 24 #[] W fun e w' => ∃ b, e = .returned (.bool b) ∧ R (.returned (.bool b)) w' := fun W hA => at_call hA (c24 _) (fun _ hA hk => ⟨_, rfl, leaf h hA rfl⟩)
  refine at_call hA (c21 a b most ha hb hm _) (fun _ hA _ => ⟨_, _, rfl, ?_⟩)
  refine at_call hA (c21 b a most hb ha hm _) (fun _ hA _ => ⟨_, _, rfl, ?_⟩)
  refine at_call hA (c29 a b ha _) (fun w10 hA _ => ⟨_, _, rfl, ?_⟩)
  rw [qsum2 ha hb, qsum2 hb ha]
  have hww : ¬ (b < 0 ∨ b > a) → IntKind.i64.wrap (a - b) = a - b := fun hh => wrap_i64 (by omega) (by omega)
  by_cases h1 : most < 0 ∨ a < 0 ∨ b < 0 ∨ a + b > most
  · have h1' : most < 0 ∨ b < 0 ∨ a < 0 ∨ b + a > most := by omega
    rw [if_pos h1, if_pos h1']
    by_cases h2 : b < 0 ∨ b > a
    · rw [if_pos h2]
      by_cases h3 : b ≥ 0
      · have h4 : ¬ b ≤ a := by omega
        simp only [h3, h4, decide_true, decide_false]
        simp
        simpa using fin _ hA
      · simp only [h3, decide_false]
        simp
        simpa using fin _ hA
    · rw [if_neg h2]
      have h3 : b ≥ 0 := by omega
      have h4 : b ≤ a := by omega
      simp only [h3, h4, decide_true, hww h2]
      simp
      simpa using fin _ hA
  · have h1' : ¬ (most < 0 ∨ b < 0 ∨ a < 0 ∨ b + a > most) := by omega
    rw [if_neg h1, if_neg h1', Int.add_comm b a]
    have h3 : b ≥ 0 := by omega
    have tail : Calls Try.prog 29 #[.int .i64 (a + b), .int .i64 b] w10 fun e w37 => ∃ x38 b39, e = .returned (.tuple #[.int .i64 x38, .bool b39]) ∧ (b39 = true → (x38 = a → (a + b ≤ most → (a ≤ a + b → Calls Try.prog 24 #[] w37 fun e w' => ∃ b, e = .returned (.bool b) ∧ R (.returned (.bool b)) w') ∧ (¬ a ≤ a + b → R (.returned (.bool false)) w37)) ∧ (¬ a + b ≤ most → R (.returned (.bool false)) w37)) ∧ (¬ x38 = a → R (.returned (.bool false)) w37)) ∧ (b39 = false → R (.returned (.bool false)) w37) := by
      refine at_call hA (c29 (a + b) b (by omega) _) (fun w37 hA _ => ⟨_, _, rfl, ?_⟩)
      rw [if_neg (by omega)]
      exact ⟨fun _ => ⟨fun _ => ⟨fun _ => ⟨fun _ => fin _ hA, fun hh => by omega⟩, fun hh => by omega⟩, fun hh => by simp only at hh; omega⟩, fun hh => by cases hh⟩
    by_cases h2 : b < 0 ∨ b > a
    · rw [if_pos h2]
      have h4 : ¬ b ≤ a := by omega
      simp only [h3, h4, decide_true, decide_false]
      simp at tail ⊢
      exact tail
    · rw [if_neg h2]
      have h4 : b ≤ a := by omega
      simp only [h3, h4, decide_true, hww h2]
      simp at tail ⊢
      exact tail

theorem law7 (n : Int) (s : ByteArray) (hn : I64 n) (w : World) : Ret Try.prog 7 #[.int .i64 n, .string s] w (.bool true) := by
  intro R h
  refine f7_calls n s w R ?_
  unfold f7_vc
  have hA := At.refl w
  have fin : ∀ W, At w [] W → Calls Try.prog 24 #[] W fun e w' => ∃ b, e = .returned (.bool b) ∧ R (.returned (.bool b)) w' := fun W hA => at_call hA (c24 _) (fun _ hA hk => ⟨_, rfl, leaf h hA rfl⟩)
  refine brD (fun _ => leaf h hA rfl) (fun _ => ?_)
  refine at_call hA (c26 n _ hn) (fun _ hA _ => ⟨_, rfl, ?_⟩)
  have p1 : parse (strOfNums (txtL n)) = if 0 ≤ n ∧ n ≤ 9007199254740992 then (n, true) else (0, false) := by
    split
    · rename_i hr; exact parse_txt hr
    · rename_i hr; rw [txt_not hr]; exact parse_empty
  refine at_call hA (c25 _ _) (fun _ hA _ => ⟨_, _, rfl, ?_⟩)
  refine at_call hA (c25 s _) (fun w9 hA _ => ⟨_, _, rfl, ?_⟩)
  rw [p1]
  have tailT : ∀ {k : Int} {W : World}, parse s = (k, true) → (0 ≤ k ∧ k ≤ 9007199254740992) → strOfNums (txtL k) = s → At w [] W → Calls Try.prog 26 #[.int .i64 k] W fun e w22 => ∃ s23, e = .returned (.string s23) ∧ (s23.toList = s.toList → Calls Try.prog 24 #[] w22 fun e w' => ∃ b, e = .returned (.bool b) ∧ R (.returned (.bool b)) w') ∧ (¬ s23.toList = s.toList → R (.returned (.bool false)) w22) := by
    intro k W hp hk ht hA
    refine at_call hA (c26 k _ (by omega)) (fun _ hA _ => ⟨_, rfl, fun _ => fin _ hA, fun hh => absurd (by rw [ht]) hh⟩)
  by_cases hr : 0 ≤ n ∧ n ≤ 9007199254740992
  · have h1 : n ≥ 0 := hr.1
    have h2 : n ≤ 9007199254740992 := hr.2
    rw [if_pos hr]
    simp only [h1, h2, decide_true]
    refine ⟨fun _ => ?_, fun hh => by cases hh⟩
    refine at_call hA (c27 n _ hn) (fun _ hA _ => ⟨_, rfl, ?_⟩)
    refine at_call hA (c26 n _ hn) (fun _ hA _ => ⟨_, rfl, ?_⟩)
    refine ⟨fun hh => by simp at hh, fun _ => ?_⟩
    refine at_call hA (c28 n _) (fun _ hA _ => ⟨_, rfl, ?_⟩)
    rw [decide_eq_true hr]
    rcases parse_cases s with hp | ⟨k, hp, hk, ht⟩
    · rw [hp]
      simp
      simpa using fin _ hA
    · rw [hp]
      simp
      have := tailT hp hk ht hA
      simpa using this
  · rw [if_neg hr]
    have go : ∀ W, At w [] W → ∀ {F : Bool → World → Prop}, (∀ W, At w [] W → F false W) → Calls Try.prog 27 #[.int .i64 n] W fun e w13 => ∃ s14, e = .returned (.string s14) ∧ Calls Try.prog 26 #[.int .i64 n] w13 fun e w16 => ∃ s17, e = .returned (.string s17) ∧ ((!s14.toList == s17.toList) = true → R (.returned (.bool false)) w16) ∧ ((!s14.toList == s17.toList) = false → Calls Try.prog 28 #[.int .i64 n] w16 fun e w19 => ∃ b20, e = .returned (.bool b20) ∧ F b20 w19) := by
      intro W hA F hF
      refine at_call hA (c27 n _ hn) (fun _ hA _ => ⟨_, rfl, ?_⟩)
      refine at_call hA (c26 n _ hn) (fun _ hA _ => ⟨_, rfl, ?_⟩)
      refine ⟨fun hh => by simp at hh, fun _ => ?_⟩
      refine at_call hA (c28 n _) (fun _ hA _ => ⟨_, rfl, ?_⟩)
      rw [decide_eq_false hr]
      exact hF _ hA
    refine brD (fun h1 => ?_) (fun h1 => ?_)
    · have h2 : ¬ n ≤ 9007199254740992 := fun hh => hr ⟨h1, hh⟩
      simp only [h2, decide_false]
      refine go w9 hA fun W hA => ?_
      rcases parse_cases s with hp | ⟨k, hp, hk, ht⟩
      · rw [hp]
        simp
        simpa using fin _ hA
      · rw [hp]
        simp
        have := tailT hp hk ht hA
        simpa using this
    · refine go w9 hA fun W hA => ?_
      rcases parse_cases s with hp | ⟨k, hp, hk, ht⟩
      · rw [hp]
        simp
        simpa using fin _ hA
      · rw [hp]
        simp
        have := tailT hp hk ht hA
        simpa using this

theorem law6 {most n : Int} {l : List Int} {a : Option Addr} {m c : Nat} (hm : I64 most) (hn : I64 n) (w : World) (hs : SlE w 1 one l a m c) (hI : ∀ x ∈ l, I64 x) : Ret Try.prog 6 #[.int .i64 most, .slice a m c, .int .i64 n] w (.bool true) := by
  intro R h
  refine f6_calls most a m c n w R ?_
  unfold f6_vc
  have hA := At.refl w
  have hlen := hs.len_le
  have hml := hlen.1
  subst hml
  have fin : ∀ W, At w [] W → Calls Try.prog 24 #[] W fun e w' => ∃ b, e = .returned (.bool b) ∧ R (.returned (.bool b)) w' := fun W hA => at_call hA (c24 _) (fun _ hA hk => ⟨_, rfl, leaf h hA rfl⟩)
  refine brD (fun _ => leaf h hA rfl) (fun hle => ?_)
  refine at_call hA (c19 _ hm (hs.call hA.below) hI) (fun _ hA _ => ⟨_, _, rfl, ?_⟩)
  refine at_call hA (c20 _ hm (hs.call hA.below) hI) (fun w6 hA _ => ⟨_, _, rfl, ?_⟩)
  refine ⟨fun hh => by simp at hh, fun _ => ⟨fun hh => by simp at hh, fun _ => ?_⟩⟩
  refine ⟨fun s W => At w [] W ∧ ∃ k : Nat, s.1 = k ∧ k ≤ l.length, fun s _ => l.length - s.1.toNat, ⟨hA, 0, rfl, Nat.zero_le _⟩, ?_⟩
  intro i W ⟨hA, k, hik, hk⟩
  simp only at hik
  subst hik
  refine brD (fun hlt => ?_) (fun hge => fin _ hA)
  obtain ⟨x, hx⟩ : ∃ x, l[k]? = some x := ⟨_, List.getElem?_eq_getElem (by omega)⟩
  have hIx := hI x (List.mem_of_getElem? hx)
  have rd : ∀ {W : World}, At w [] W → ∃ ad, Gives Try.prog (Instr.indexAt 36 (.slice a l.length c) (.int .i64 (k : Int))) (.pointer (some ad)) ∧ Reads Try.prog [] (Instr.loadAt 2 (.pointer (some ad))) W (.int .i64 x) := fun hA =>
    rd_one (te := 2) (ds := []) (k := .i64) (t := 36) (P := Try.prog) (e := 2) (hs.call hA.below) hx rfl (by kernel_rfl) (by kernel_rfl) (by kernel_rfl) (fun _ h => by cases h)
  obtain ⟨a1, g1, r1⟩ := rd hA
  refine ⟨_, g1, _, r1, ?_⟩
  refine at_call hA (c21 x n most hIx hn hm _) (fun _ hA _ => ⟨_, _, rfl, ?_⟩)
  obtain ⟨a2, g2, r2⟩ := rd hA
  refine ⟨_, g2, _, r2, ?_⟩
  refine opw_lit hA (e' := 2) (cs := [x, n].flatMap one) (by kernel_rfl) fun w' hA' hk hbw hc hh => ⟨_, _, _, rfl, ?_⟩
  rename_i w16 _
  have ho : OwnL w [] w' 2 1 one (.slice (some ⟨w16.heap.size, 0, none⟩) 2 2) [x, n] :=
    ⟨⟨rfl, .inr ⟨_, 2, _, rfl, hA.size, hh, Nat.le_refl _, by decide, rfl, rfl⟩⟩, fun _ h => by cases h⟩
  refine at_call hA' (c20 (l := [x, n]) _ hm (ho.sl (by simp)) (by simp; exact ⟨hIx, hn⟩)) (fun _ hA _ => ⟨_, _, rfl, ?_⟩)
  obtain ⟨a3, g3, r3⟩ := rd hA
  refine ⟨_, g3, _, r3, ?_⟩
  refine at_call hA (c22 x n most hn hm _) (fun _ hA _ => ⟨_, _, rfl, ?_⟩)
  obtain ⟨a4, g4, r4⟩ := rd hA
  refine ⟨_, g4, _, r4, ?_⟩
  refine at_call hA (c23 x n most hn hm _) (fun _ hA _ => ⟨_, _, rfl, ?_⟩)
  refine ⟨fun hh => by simp at hh, fun _ => ⟨fun hh => by simp at hh, fun _ => ⟨fun hh => by simp at hh, fun _ => ⟨fun hh => by simp at hh, fun _ => ?_⟩⟩⟩⟩
  rw [wrap_i64 (by omega) (by omega)]
  exact ⟨⟨hA, k + 1, rfl, by omega⟩, by simp only; omega⟩
end Go.Vc.Q
