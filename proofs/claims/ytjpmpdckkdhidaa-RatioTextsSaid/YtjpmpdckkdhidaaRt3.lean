/- Own text of this claim: Rt3. -/
import Derived.Test.YtjpmpdckkdhidaaRt2
import Derived.Test.YtjpmpdckkdhidaaVcStr2
set_option maxRecDepth 20000
namespace Go.Vc.T
open Go Go.Vc Go.RowKit Go.Proofs Vca Go.Vc.Q
open Go.Vc.A (fracV right c14 c15 c16)

/-- A fraction read: at the first slash. -/
def split47 : List Int → List Int → Option (List Int × List Int)
  | _, [] => none
  | p, c :: r => if c = 47 then some (p, r) else split47 (p ++ [c]) r
noncomputable def fparse (s : ByteArray) : (Int × Int) × Bool := match split47 [] (bytesOf s) with
  | none => ((0, 0), false)
  | some (p, r) => if (num p).2 = true ∧ (num r).2 = true ∧ 1 ≤ (num r).1 then (((num p).1, (num r).1), true) else ((0, 0), false)
abbrev fpV (p : (Int × Int) × Bool) : Value := .tuple #[.agg #[.int .i64 p.1.1, .int .i64 p.1.2], .bool p.2]

theorem extract_size (s : ByteArray) (a b : Nat) (h : b ≤ s.size) : (s.extract a b).size ≤ s.size := by
  have := bytesOf_len (s.extract a b)
  rw [bytesOf_extract, List.length_take, List.length_drop, bytesOf_len] at this
  omega

theorem c30 (s : ByteArray) (w : World) (hs : s.size ≤ 9223372036854775807) : Ret Try.prog 30 #[.string s] w (fpV (fparse s)) := by
  intro R h
  refine f30_calls s w R ?_
  unfold f30_vc
  have hA := At.refl w
  have hbl := bytesOf_len s
  refine go_n hA fun n1 h1 => ?_
  refine ⟨fun st W => At w [n1] W ∧ ∃ k : Nat, st.1 = k ∧ k ≤ s.size ∧ split47 ((bytesOf s).take k) ((bytesOf s).drop k) = split47 [] (bytesOf s), fun st _ => s.size - st.1.toNat, ?_, ?_⟩
  · exact go_below hA fun w4 hA => ⟨hA, 0, rfl, Nat.zero_le _, rfl⟩
  intro i y0 y1 W ⟨hA, k, hik, hk, hg⟩
  simp only at hik
  subst hik
  have hev : ∀ {W : World} {F : World → Prop}, At w [n1] W → (∀ W', At w [n1] W' → F W') → ∀ W', Evo [n1] W W' → Under [n1] W' → F W' := fun hA h => go_evo hA (by intro d hd; simp at hd; omega) h
  refine brD (fun hlt => ?_) (fun hge => ?_)
  · have hks : k < s.size := by omega
    obtain ⟨x, hx⟩ : ∃ x, (bytesOf s)[k]? = some x := ⟨_, List.getElem?_eq_getElem (by omega)⟩
    have gx : Gives Try.prog (Instr.index 9 (.string s) (.int .i64 (k : Int))) (.int .u8 x) := by
      have := gives_index_str (P := Try.prog) (t := 9) (s := s) (k := .i64) (i := k) (by kernel_rfl) hks
      rwa [bytes_get hx hks] at this
    rw [drop_cons hx, split47] at hg
    have e1 : IntKind.i64.wrap ((k : Int) + 1) = ((k + 1 : Nat) : Int) := by rw [wrap_i64 (by omega) (by omega)]; rfl
    rw [e1]
    refine ⟨_, gx, brN (fun hne => ?_) (fun he => ?_)⟩
    · rw [if_neg hne] at hg
      refine ⟨⟨hA, k + 1, rfl, by omega, ?_⟩, by simp only; omega⟩
      rw [← hg, List.take_add_one, hx]
      rfl
    · rw [if_pos he] at hg
      refine ⟨_, gives_str_to (by kernel_rfl) (by omega), ?_⟩
      refine at_call hA (c41 _ _ (by have := extract_size s 0 k (by omega); omega)) (fun _ hA hk => ⟨_, _, rfl, hk, ?_⟩)
      refine ⟨_, gives_str_from (by kernel_rfl) (by omega), ?_⟩
      refine at_call hA (c41 _ _ (by have := extract_size s (k + 1) s.size (by omega); omega)) (fun _ hA hk => ⟨_, _, rfl, hk, ?_⟩)
      have b1 : bytesOf (s.extract 0 k) = (bytesOf s).take k := by rw [bytesOf_extract]; rfl
      have b2 : bytesOf (s.extract (k + 1) s.size) = (bytesOf s).drop (k + 1) := by
        rw [bytesOf_extract, List.take_of_length_le]
        rw [List.length_drop]
        omega
      rw [b1, b2]
      have hp : fparse s = if (num ((bytesOf s).take k)).2 = true ∧ (num ((bytesOf s).drop (k + 1))).2 = true ∧ 1 ≤ (num ((bytesOf s).drop (k + 1))).1 then (((num ((bytesOf s).take k)).1, (num ((bytesOf s).drop (k + 1))).1), true) else ((0, 0), false) := by rw [fparse, ← hg]
      rw [hp] at h
      refine ⟨fun q => hev hA fun _ hA => leaf h hA ?_, fun q => ⟨fun q2 => hev hA fun _ hA => leaf h hA ?_, fun q2 => ?_⟩⟩
      · rw [if_neg (by simp at q; simp [q])]
      · rw [if_neg (by simp at q2; simp [q2])]
      · simp at q q2
        refine brD (fun q3 => hev hA fun _ hA => leaf h hA ?_) (fun q3 => hev hA fun _ hA => leaf h hA ?_)
        · rw [if_neg (by omega)]
        · rw [if_pos ⟨q, q2, by omega⟩]
  · refine hev hA fun _ hA => leaf h hA ?_
    rw [List.drop_eq_nil_of_le (by omega)] at hg
    rw [fparse, ← hg]
    rfl

theorem c31 (s : ByteArray) (w : World) (hs : s.size ≤ 9223372036854775807) : Ret Try.prog 31 #[.string s] w (fpV (fparse s)) := by
  intro R h
  refine f31_calls s w R ?_
  unfold f31_vc
  have hA := At.refl w
  have hbl := bytesOf_len s
  refine go_n hA fun n1 h1 => ?_
  refine ⟨fun st W => At w [n1] W ∧ ∃ k : Nat, st.1 = k ∧ k ≤ s.size ∧ split47 ((bytesOf s).take k) ((bytesOf s).drop k) = split47 [] (bytesOf s), fun st _ => s.size - st.1.toNat, ?_, ?_⟩
  · exact go_below hA fun w4 hA => ⟨hA, 0, rfl, Nat.zero_le _, rfl⟩
  intro i y0 y1 W ⟨hA, k, hik, hk, hg⟩
  simp only at hik
  subst hik
  have hev : ∀ {W : World} {F : World → Prop}, At w [n1] W → (∀ W', At w [n1] W' → F W') → ∀ W', Evo [n1] W W' → Under [n1] W' → F W' := fun hA h => go_evo hA (by intro d hd; simp at hd; omega) h
  refine brD (fun hlt => ?_) (fun hge => ?_)
  · have hks : k < s.size := by omega
    obtain ⟨x, hx⟩ : ∃ x, (bytesOf s)[k]? = some x := ⟨_, List.getElem?_eq_getElem (by omega)⟩
    have gx : Gives Try.prog (Instr.index 9 (.string s) (.int .i64 (k : Int))) (.int .u8 x) := by
      have := gives_index_str (P := Try.prog) (t := 9) (s := s) (k := .i64) (i := k) (by kernel_rfl) hks
      rwa [bytes_get hx hks] at this
    rw [drop_cons hx, split47] at hg
    have e1 : IntKind.i64.wrap ((k : Int) + 1) = ((k + 1 : Nat) : Int) := by rw [wrap_i64 (by omega) (by omega)]; rfl
    rw [e1]
    refine ⟨_, gx, brE (fun he => ?_) (fun hne => ?_)⟩
    · rw [if_pos he] at hg
      refine ⟨_, gives_str_to (by kernel_rfl) (by omega), ?_⟩
      refine at_call hA (c42 _ _ (by have := extract_size s 0 k (by omega); omega)) (fun _ hA hk => ⟨_, _, rfl, hk, ?_⟩)
      refine ⟨_, gives_str_from (by kernel_rfl) (by omega), ?_⟩
      refine at_call hA (c42 _ _ (by have := extract_size s (k + 1) s.size (by omega); omega)) (fun _ hA hk => ⟨_, _, rfl, hk, ?_⟩)
      have b1 : bytesOf (s.extract 0 k) = (bytesOf s).take k := by rw [bytesOf_extract]; rfl
      have b2 : bytesOf (s.extract (k + 1) s.size) = (bytesOf s).drop (k + 1) := by
        rw [bytesOf_extract, List.take_of_length_le]
        rw [List.length_drop]
        omega
      rw [b1, b2]
      have hp : fparse s = if (num ((bytesOf s).take k)).2 = true ∧ (num ((bytesOf s).drop (k + 1))).2 = true ∧ 1 ≤ (num ((bytesOf s).drop (k + 1))).1 then (((num ((bytesOf s).take k)).1, (num ((bytesOf s).drop (k + 1))).1), true) else ((0, 0), false) := by rw [fparse, ← hg]
      rw [hp] at h
      refine ⟨fun q => ⟨fun q2 => brD (fun q3 => hev hA fun _ hA => leaf h hA ?_) (fun q3 => hev hA fun _ hA => leaf h hA ?_), fun q2 => hev hA fun _ hA => leaf h hA ?_⟩, fun q => hev hA fun _ hA => leaf h hA ?_⟩
      · rw [if_pos ⟨q, q2, by omega⟩]
      · rw [if_neg (by omega)]
      · rw [if_neg (by simp [q2])]
      · rw [if_neg (by simp [q])]
    · rw [if_neg hne] at hg
      refine ⟨⟨hA, k + 1, rfl, by omega, ?_⟩, by simp only; omega⟩
      rw [← hg, List.take_add_one, hx]
      rfl
  · refine hev hA fun _ hA => leaf h hA ?_
    rw [List.drop_eq_nil_of_le (by omega)] at hg
    rw [fparse, ← hg]
    rfl

noncomputable def ftext (a b : Int) : ByteArray := if right a b then strOfNums (decL a 1) ++ ByteArray.mk #[47] ++ strOfNums (decL b 1) else ByteArray.mk #[]

theorem dec_small {n : Int} (h : 0 ≤ n ∧ n ≤ 9223372036854775807) : (strOfNums (decL n 1)).size ≤ 19 := by
  rw [strOfNums_size]
  exact decL_short 18 n h.1 (by omega)

theorem c32 (a b : Int) (ha : I64 a) (hb : I64 b) (w : World) : Ret Try.prog 32 #[fracV a b] w (.string (ftext a b)) := by
  intro R h
  refine f32_calls a b w R ?_
  unfold f32_vc
  have hA := At.refl w
  refine go_n hA fun n1 h1 => ?_
  refine go_below hA fun w2 hA => ?_
  refine at_call hA (c14 _ _ _) (fun _ hA hk => ⟨_, rfl, hk, ?_⟩)
  refine brND (fun hr => leaf h hA (by rw [ftext, if_neg hr])) (fun hr => ?_)
  have hr1 := hr.1; have hr2 := hr.2
  have d1 := dec_small (n := a) (by omega)
  have d2 := dec_small (n := b) (by omega)
  refine go_below hA fun w6 hA => ?_
  refine at_call hA (c43 _ _ (by omega)) (fun _ hA hk => ⟨_, rfl, hk, ?_⟩)
  have e1 : (ByteArray.mk #[47]).size = 1 := rfl
  refine ⟨_, gives_sadd (by omega), ?_⟩
  refine at_call hA (c43 _ _ (by omega)) (fun _ hA hk => ⟨_, rfl, hk, ?_⟩)
  refine ⟨_, gives_sadd (by rw [ByteArray.size_append]; omega), ?_⟩
  exact leaf h hA (by rw [ftext, if_pos hr])

theorem c33 (a b : Int) (ha : I64 a) (hb : I64 b) (w : World) : Ret Try.prog 33 #[fracV a b] w (.string (ftext a b)) := by
  intro R h
  refine f33_calls a b w R ?_
  unfold f33_vc
  have hA := At.refl w
  refine go_n hA fun n1 h1 => ?_
  refine go_below hA fun w2 hA => ?_
  refine at_call hA (c15 _ _ _) (fun _ hA hk => ⟨_, rfl, hk, ?_⟩)
  refine brND (fun hr => leaf h hA (by rw [ftext, if_neg hr])) (fun hr => ?_)
  have hr1 := hr.1; have hr2 := hr.2
  have d1 := dec_small (n := a) (by omega)
  have d2 := dec_small (n := b) (by omega)
  refine go_below hA fun w6 hA => ?_
  refine at_call hA (c39 _ _ (by omega)) (fun _ hA hk => ⟨_, rfl, hk, ?_⟩)
  have e1 : (ByteArray.mk #[47]).size = 1 := rfl
  refine ⟨_, gives_sadd (by omega), ?_⟩
  refine at_call hA (c39 _ _ (by omega)) (fun _ hA hk => ⟨_, rfl, hk, ?_⟩)
  refine ⟨_, gives_sadd (by rw [ByteArray.size_append]; omega), ?_⟩
  exact leaf h hA (by rw [ftext, if_pos hr])

theorem law9 (a b : Int) (s : ByteArray) (ha : I64 a) (hb : I64 b) (hs : s.size ≤ 9223372036854775807) (w : World) : Ret Try.prog 9 #[fracV a b, .string s] w (.bool true) := by
  intro R h
  refine f9_calls a b s w R ?_
  unfold f9_vc
  have hA := At.refl w
  refine go_n hA fun n1 h1 => ?_
  refine brD (fun _ => go_below hA fun w2 hA => leaf h hA rfl) (fun _ => go_below hA fun w3 hA => ?_)
  refine at_call hA (c30 s _ hs) (fun _ hA hk => ⟨_, _, _, rfl, hk, ?_⟩)
  refine go_n hA fun n9 h9 => ?_
  refine go_evo hA (by intro d hd; simp at hd; omega) fun w10 hA => ?_
  refine at_call hA (c31 s _ hs) (fun _ hA hk => ⟨_, _, _, rfl, hk, ?_⟩)
  refine go_n hA fun n16 h16 => ?_
  refine go_evo hA (by intro d hd; simp at hd; omega) fun w17 hA => ?_
  refine at_call hA (c32 a b ha hb _) (fun _ hA hk => ⟨_, rfl, hk, ?_⟩)
  refine at_call hA (c33 a b ha hb _) (fun _ hA hk => ⟨_, rfl, hk, ?_⟩)
  refine ⟨fun _ => ⟨fun _ => ⟨fun _ => ?_, fun hh => by simp at hh⟩, fun hh => by simp at hh⟩, fun hh => by simp at hh⟩
  exact at_call hA (c16 _) (fun _ hA hk => ⟨_, rfl, hk, leaf h hA rfl⟩)
end Go.Vc.T
