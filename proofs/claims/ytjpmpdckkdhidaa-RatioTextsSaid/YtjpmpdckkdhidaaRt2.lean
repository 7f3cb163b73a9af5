/- Own text of this claim: Rt2. -/
import Derived.Test.YtjpmpdckkdhidaaRt1
set_option maxRecDepth 20000
namespace Go.Vc.T
open Go Go.Vc Go.RowKit Go.Proofs Vca Go.Vc.Q

/-- Reading digits, while the number is one. -/
def dgo : List Int → Int → Option Int
  | [], n => some n
  | c :: r, n => if c < 48 ∨ c > 57 ∨ n * 10 + (c - 48) > 9223372036854775807 then none else dgo r (n * 10 + (c - 48))
def num (l : List Int) : Int × Bool := if l = [] ∨ (l[0]? = some 48 ∧ 1 < l.length) then (0, false) else match dgo l 0 with
  | some n => (n, true)
  | none => (0, false)

theorem dgo_long : ∀ (l : List Int) (j : Nat) (n : Int), j ≤ 18 → (10 : Int) ^ j ≤ n → 19 ≤ l.length + j → dgo l n = none
  | [], j, n, hj, hn, hl => by simp at hl; omega
  | c :: r, j, n, hj, hn, hl => by
    rw [dgo]
    split
    · rfl
    · rename_i hc
      have e : (10 : Int) ^ (j + 1) = 10 ^ j * 10 := Int.pow_succ ..
      rcases Nat.lt_or_ge j 18 with h18 | h18
      · refine dgo_long r (j + 1) _ (by omega) (by rw [e]; omega) (by simp at hl; omega)
      · have : j = 18 := by omega
        subst this
        omega

theorem num_long {l : List Int} (h : 19 < l.length) : num l = (0, false) := by
  rw [num]
  split
  · rfl
  · rename_i hh
    cases l with
    | nil => simp at h
    | cons c r =>
      have hc : c ≠ 48 := fun e => hh (.inr ⟨by simp [e], by omega⟩)
      have hd : dgo (c :: r) 0 = none := by
        rw [dgo]
        split
        · rfl
        · exact dgo_long r 0 _ (by omega) (by simp; omega) (by simp at h; omega)
      rw [hd]

abbrev dpair (o : Option Int) : Int × Bool := match o with
  | some n => (n, true)
  | none => (0, false)

theorem bytes_get {s : ByteArray} {i : Nat} {x : Int} (hx : (bytesOf s)[i]? = some x) (hi : i < s.size) : ((s[i]'hi).toNat : Int) = x := by
  simp only [bytesOf, List.getElem?_map] at hx
  have : s.data.toList[i]? = some (s[i]'hi) := by
    rw [Array.getElem?_toList]
    exact Array.getElem?_eq_getElem hi
  rw [this] at hx
  simpa using hx

theorem nil_iff (s : ByteArray) : (s.toList == (ByteArray.mk #[]).toList) = decide (bytesOf s = []) := by
  rw [toList_beq]
  apply decide_eq_decide.2
  constructor
  · rintro rfl; rfl
  · intro h
    rw [← strOfNums_bytesOf s, h]
    rfl

theorem c41 (s : ByteArray) (w : World) (hs : s.size ≤ 9223372036854775807) : Ret Try.prog 41 #[.string s] w (pairV (num (bytesOf s))) := by
  intro R h
  refine f41_calls s w R ?_
  unfold f41_vc
  have hA := At.refl w
  have hbl := bytesOf_len s
  rw [nil_iff]
  refine ⟨fun _ W => At w [] W ∧ num (bytesOf s) = dpair (dgo (bytesOf s) 0), ⟨?_, ?_⟩⟩
  · refine brD (fun h0 => leaf h hA (by rw [num, if_pos (.inl h0)])) (fun h0 => ?_)
    have hpos : 0 < s.size := by
      rw [← hbl]
      exact List.length_pos_iff.2 h0
    obtain ⟨x, hx⟩ : ∃ x, (bytesOf s)[0]? = some x := ⟨_, List.getElem?_eq_getElem (by omega)⟩
    refine ⟨_, gives_index_str (i := 0) (by kernel_rfl) hpos, ?_⟩
    rw [bytes_get hx hpos]
    refine brE (fun h48 => brD (fun h1 => leaf h hA ?_) (fun h1 => ⟨hA, ?_⟩)) (fun h48 => ⟨hA, ?_⟩)
    · rw [num, if_pos (.inr ⟨by rw [hx, h48], by omega⟩)]
    · rw [num, if_neg (by rintro (h | ⟨_, h⟩) <;> first | exact h0 h | omega)]
    · rw [num, if_neg (by rintro (h | ⟨h, _⟩) <;> first | exact h0 h | (rw [hx] at h; exact h48 (Option.some.inj h)))]
  intro w3 ⟨hA, hnum⟩
  rw [hnum] at h
  refine opw_s2b hA (e := 5) (by kernel_rfl) (by kernel_rfl) (by kernel_rfl) (by simp only [maxLen]; omega) fun a c w5 hA hk hb hsl => ⟨_, _, _, rfl, ?_⟩
  refine ⟨fun st W => At w [] W ∧ Below w5.heap.size w5 W ∧ ∃ k : Nat, st.2.1 = k ∧ k ≤ s.size ∧ (0 ≤ st.1 ∧ st.1 ≤ 9223372036854775807) ∧ dgo ((bytesOf s).drop k) st.1 = dgo (bytesOf s) 0, fun st _ => s.size - st.2.1.toNat, ⟨hA, Below.refl _ _, 0, rfl, Nat.zero_le _, by decide, rfl⟩, ?_⟩
  intro n i W ⟨hA, hbW, k, hik, hk, hn, hg⟩
  simp only at hik hn hg
  subst hik
  refine brD (fun hlt => ?_) (fun hge => ?_)
  · obtain ⟨x, hx⟩ : ∃ x, (bytesOf s)[k]? = some x := ⟨_, List.getElem?_eq_getElem (by omega)⟩
    have hxr := bytesOf_range (List.mem_of_getElem? hx)
    obtain ⟨ad, g1, r1⟩ := rd_one (te := 5) (ds := []) (k := .i64) (t := 61) (P := Try.prog) (e := 5) (hsl.call hbW) hx rfl (by kernel_rfl) (by kernel_rfl) (by kernel_rfl) (fun _ h => by cases h)
    rw [drop_cons hx, dgo] at hg
    have fail : (x < 48 ∨ x > 57 ∨ n * 10 + (x - 48) > 9223372036854775807) → R (.returned (pairV (0, false))) W := by
      intro hc
      rw [if_pos hc] at hg
      exact leaf h hA (by rw [← hg])
    refine ⟨_, g1, _, r1, ?_⟩
    refine brD (fun h1 => fail (.inl h1)) (fun h1 => brD (fun h2 => fail (.inr (.inl h2))) (fun h2 => ?_))
    have e1 : IntKind.u8.wrap (x - 48) = x - 48 := by rw [wrap_u8]; omega
    rw [e1, wrap_i64 (x := x - 48) (by omega) (by omega), wrap_i64 (x := 9223372036854775807 - (x - 48)) (by omega) (by omega), Int.tdiv_eq_ediv_of_nonneg (by omega), wrap_i64 (x := (9223372036854775807 - (x - 48)) / 10) (by omega) (by omega)]
    refine brD (fun h3 => fail (.inr (.inr (by omega)))) (fun h3 => ?_)
    rw [if_neg (by omega)] at hg
    rw [wrap_i64 (x := n * 10) (by omega) (by omega), wrap_i64 (x := n * 10 + (x - 48)) (by omega) (by omega), wrap_i64 (x := (k : Int) + 1) (by omega) (by omega)]
    exact ⟨⟨hA, hbW, k + 1, rfl, by omega, by show 0 ≤ n * 10 + (x - 48) ∧ n * 10 + (x - 48) ≤ 9223372036854775807; omega, hg⟩, by simp only; omega⟩
  · have hke : k = (bytesOf s).length := by omega
    subst hke
    rw [List.drop_length, dgo] at hg
    exact leaf h hA (by rw [← hg])

theorem c42 (s : ByteArray) (w : World) (hs : s.size ≤ 9223372036854775807) : Ret Try.prog 42 #[.string s] w (pairV (num (bytesOf s))) := by
  intro R h
  refine f42_calls s w R ?_
  unfold f42_vc
  have hA := At.refl w
  have hbl := bytesOf_len s
  refine ⟨fun _ W => At w [] W ∧ num (bytesOf s) = dpair (dgo (bytesOf s) 0), ⟨?_, ?_⟩⟩
  · refine brD (fun h0 => leaf h hA ?_) (fun h0 => ?_)
    · rw [num, if_pos (.inl (List.eq_nil_of_length_eq_zero (by omega)))]
    have hpos : 0 < s.size := by omega
    have hne : bytesOf s ≠ [] := fun e => by rw [e] at hbl; simp at hbl; omega
    refine brD (fun h19 => leaf h hA (by rw [num_long (by omega)])) (fun h19 => ?_)
    obtain ⟨x, hx⟩ : ∃ x, (bytesOf s)[0]? = some x := ⟨_, List.getElem?_eq_getElem (by omega)⟩
    refine ⟨_, gives_index_str (i := 0) (by kernel_rfl) hpos, ?_⟩
    rw [bytes_get hx hpos]
    refine brE (fun h48 => brD (fun h1 => leaf h hA ?_) (fun h1 => ⟨hA, ?_⟩)) (fun h48 => ⟨hA, ?_⟩)
    · rw [num, if_pos (.inr ⟨by rw [hx, h48], by omega⟩)]
    · rw [num, if_neg (by rintro (h | ⟨_, h⟩) <;> first | exact hne h | omega)]
    · rw [num, if_neg (by rintro (h | ⟨h, _⟩) <;> first | exact hne h | (rw [hx] at h; exact h48 (Option.some.inj h)))]
  intro w3 ⟨hA, hnum⟩
  rw [hnum] at h
  refine ⟨fun st W => At w [] W ∧ ∃ k : Nat, st.2.1 = k ∧ k ≤ s.size ∧ (0 ≤ st.1 ∧ st.1 ≤ 9223372036854775807) ∧ dgo ((bytesOf s).drop k) st.1 = dgo (bytesOf s) 0, fun st _ => s.size - st.2.1.toNat, ⟨hA, 0, rfl, Nat.zero_le _, by decide, rfl⟩, ?_⟩
  intro n i W ⟨hA, k, hik, hk, hn, hg⟩
  simp only at hik hn hg
  subst hik
  refine brD (fun hlt => ?_) (fun hge => ?_)
  · have hks : k < s.size := by omega
    obtain ⟨x, hx⟩ : ∃ x, (bytesOf s)[k]? = some x := ⟨_, List.getElem?_eq_getElem (by omega)⟩
    have hxr := bytesOf_range (List.mem_of_getElem? hx)
    have gx : Gives Try.prog (Instr.index 9 (.string s) (.int .i64 (k : Int))) (.int .u8 x) := by
      have := gives_index_str (P := Try.prog) (t := 9) (s := s) (k := .i64) (i := k) (by kernel_rfl) hks
      rwa [bytes_get hx hks] at this
    rw [drop_cons hx, dgo] at hg
    have fail : (x < 48 ∨ x > 57 ∨ n * 10 + (x - 48) > 9223372036854775807) → R (.returned (pairV (0, false))) W := by
      intro hc
      rw [if_pos hc] at hg
      exact leaf h hA (by rw [← hg])
    refine ⟨_, gx, ?_⟩
    refine brD (fun h1 => fail (.inl h1)) (fun h1 => ⟨_, gx, brD (fun h2 => fail (.inr (.inl h2))) (fun h2 => ⟨_, gx, ?_⟩)⟩)
    rw [wrap_i64 (x := x) (by omega) (by omega), wrap_i64 (x := x - 48) (by omega) (by omega), wrap_i64 (x := (k : Int) + 1) (by omega) (by omega)]
    refine brD (fun h3 => fail (.inr (.inr (by omega)))) (fun h3 => ?_)
    refine brE (fun h4 => brD (fun h5 => fail (.inr (.inr (by omega)))) (fun h5 => ?_)) (fun h4 => ?_)
    all_goals
      rw [if_neg (by omega)] at hg
      rw [wrap_i64 (x := n * 10) (by omega) (by omega), wrap_i64 (x := n * 10 + (x - 48)) (by omega) (by omega)]
      exact ⟨⟨hA, k + 1, rfl, by omega, by show 0 ≤ n * 10 + (x - 48) ∧ n * 10 + (x - 48) ≤ 9223372036854775807; omega, hg⟩, by simp only; omega⟩
  · have hke : k = (bytesOf s).length := by omega
    subst hke
    rw [List.drop_length, dgo] at hg
    exact leaf h hA (by rw [← hg])
end Go.Vc.T
