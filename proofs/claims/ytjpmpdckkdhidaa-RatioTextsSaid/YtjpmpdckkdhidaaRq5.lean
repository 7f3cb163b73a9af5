/- Own text of this claim: Rq5. -/
import Derived.Test.YtjpmpdckkdhidaaRq4
set_option maxRecDepth 20000
namespace Go.Vc.Q
open Go Go.Vc Go.RowKit Go.Proofs Vca

/-- The same over a list of signs of one byte each. -/
def plist : List Int → Int → Int → Option (Int × Int)
  | [], n, sc => some (n, sc)
  | c :: r, n, sc => match pstep c n sc with
    | some x => plist r x.1 x.2
    | none => none

theorem strOfNums_get {l : List Int} {i : Nat} {x : Int} (hx : l[i]? = some x) (hi : i < (strOfNums l).size) : (strOfNums l)[i]'hi = UInt8.ofNat x.toNat := by
  have h1 : (strOfNums l)[i]'hi = (strOfNums l).data[i]'hi := rfl
  rw [h1]
  simp only [strOfNums, List.getElem_toArray, List.getElem_map]
  rw [(List.getElem?_eq_some_iff.1 hx).2]

theorem decode_list {l : List Int} {i : Nat} {x : Int} (hx : l[i]? = some x) (h0 : 0 ≤ x ∧ x < 128) : Utf8.decode (strOfNums l) i = (x.toNat, 1) := by
  have hi := (List.getElem?_eq_some_iff.1 hx).1
  have hsz : i < (strOfNums l).size := by rw [strOfNums_size]; exact hi
  have hg := strOfNums_get hx hsz
  have hn : ((strOfNums l)[i]'hsz).toNat = x.toNat := by
    rw [hg]
    simp
    omega
  rw [decode_ascii _ _ hsz (by rw [hn]; omega), hn]

theorem pgo_list {l : List Int} (hl : ∀ x ∈ l, 0 ≤ x ∧ x < 128) : ∀ (f pos : Nat) (n sc : Int), l.length - pos ≤ f → pgo (strOfNums l) f pos n sc = plist (l.drop pos) n sc
  | 0, pos, n, sc, h => by
    rw [List.drop_eq_nil_of_le (by omega)]
    rfl
  | f + 1, pos, n, sc, h => by
    rw [pgo, strOfNums_size]
    by_cases hp : pos < l.length
    · have hx : l[pos]? = some l[pos] := List.getElem?_eq_getElem hp
      have hb := hl _ (List.mem_of_getElem? hx)
      rw [if_pos hp, drop_cons hx, plist, decode_list hx hb]
      have e : ((l[pos].toNat : Nat) : Int) = l[pos] := by omega
      simp only [e]
      cases pstep l[pos] n sc with
      | none => rfl
      | some x => exact pgo_list hl f (pos + 1) _ _ (by omega)
    · rw [if_neg hp, List.drop_eq_nil_of_le (by omega)]
      rfl

theorem plist_dec (m least : Int) (hm : 0 ≤ m ∧ m ≤ 9007199254740992) (rest : List Int) : plist (decL m least ++ rest) 0 0 = plist rest m 0 := by
  rw [decL]
  have hs : ∀ q : Int, 0 ≤ q → q * 10 + m % 10 ≤ 9007199254740992 → pstep (48 + m % 10) q 0 = some (q * 10 + m % 10, 0) := by
    intro q hq hle
    rw [pstep, if_neg (by omega), if_neg (by omega), if_neg (by omega)]
    congr 2
    omega
  split
  · rw [List.append_assoc, plist_dec (m / 10) (least - 1) (by omega)]
    rw [List.singleton_append, plist, hs (m / 10) (by omega) (by omega)]
    simp only
    rw [show m / 10 * 10 + m % 10 = m by omega]
  · rw [List.singleton_append, plist, hs 0 (by omega) (by omega)]
    simp only
    rw [show 0 * 10 + m % 10 = m by omega]
termination_by m.toNat + least.toNat
decreasing_by
  all_goals omega

theorem pstep_digit {d n sc : Int} (hd : 0 ≤ d ∧ d ≤ 9) (hsc : sc ≠ 1) (hle : n * 10 + d ≤ 9007199254740992) : pstep (48 + d) n sc = some (n * 10 + d, sc / 10) := by
  rw [pstep, if_neg (by omega), if_neg (by omega), if_neg (by omega)]
  congr 2
  omega

theorem parse_txt {n : Int} (h : 0 ≤ n ∧ n ≤ 9007199254740992) : parse (strOfNums (txtL n)) = (n, true) := by
  have hby : ∀ x ∈ txtL n, 0 ≤ x ∧ x < 128 := by
    intro x hx
    rw [txtL, if_pos h] at hx
    split at hx
    · have := decL_byte _ _ (by omega) x hx
      omega
    · rw [strip3 _ (by omega)] at hx
      rcases List.mem_append.1 hx with hx | hx
      · rcases List.mem_append.1 hx with hx | hx
        · have := decL_byte _ _ (by omega) x hx
          omega
        · simp at hx
          omega
      · rw [frac3] at hx
        repeat' split at hx
        all_goals (simp at hx; omega)
  have hgo : ∃ p, pgo (strOfNums (txtL n)) (strOfNums (txtL n)).size 0 0 0 = some p ∧ fin p.1 p.2 = (n, true) := by
    rw [pgo_list hby _ _ _ _ (by rw [strOfNums_size]; omega), List.drop_zero, txtL, if_pos h]
    have hfin : ∀ m sc k : Int, k = (if sc = 0 then 1000 else sc) → 0 ≤ m → 1 ≤ k → m * k = n → k = 1 ∨ k = 10 ∨ k = 100 ∨ k = 1000 → fin m sc = (n, true) := by
      intro m sc k hk hm hk1 hmk hk4
      rw [fin, ← hk, qtimes, if_neg, hmk]
      rintro (h1 | h1 | h1 | ⟨h1, h2⟩)
      · omega
      · omega
      · omega
      · have hd : 9007199254740992 / m < k := h2
        rw [Int.ediv_lt_iff_lt_mul h1] at hd
        rw [Int.mul_comm] at hmk
        omega
    split
    · rename_i h0
      refine ⟨(n / 1000, 0), ?_, hfin (n / 1000) 0 1000 rfl (by omega) (by omega) (by omega) (by omega)⟩
      have := plist_dec (n / 1000) 1 (by omega) []
      rw [List.append_nil] at this
      rw [this]
      rfl
    · rename_i h0
      rw [strip3 _ (by omega), List.append_assoc, plist_dec (n / 1000) 1 (by omega)]
      have h46 : pstep 46 (n / 1000) 0 = some (n / 1000, 1000) := by rw [pstep, if_pos ⟨rfl, rfl⟩]
      rw [List.singleton_append, plist, h46]
      simp only
      generalize hr : n % 1000 = r at *
      generalize hq : n / 1000 = q at *
      have s1 : pstep (48 + r / 100) q 1000 = some (q * 10 + r / 100, 100) := pstep_digit (by omega) (by omega) (by omega)
      have s2 : pstep (48 + r / 10 % 10) (q * 10 + r / 100) 100 = some ((q * 10 + r / 100) * 10 + r / 10 % 10, 10) := pstep_digit (by omega) (by omega) (by omega)
      have s3 : pstep (48 + r % 10) ((q * 10 + r / 100) * 10 + r / 10 % 10) 10 = some (((q * 10 + r / 100) * 10 + r / 10 % 10) * 10 + r % 10, 1) := pstep_digit (by omega) (by omega) (by omega)
      rw [frac3]
      split
      · split
        · exact ⟨_, by rw [plist, s1]; rfl, hfin (q * 10 + r / 100) 100 100 rfl (by omega) (by omega) (by omega) (by omega)⟩
        · exact ⟨_, by rw [plist, s1]; simp only; rw [plist, s2]; rfl, hfin ((q * 10 + r / 100) * 10 + r / 10 % 10) 10 10 rfl (by omega) (by omega) (by omega) (by omega)⟩
      · exact ⟨_, by rw [plist, s1]; simp only; rw [plist, s2]; simp only; rw [plist, s3]; rfl, hfin (((q * 10 + r / 100) * 10 + r / 10 % 10) * 10 + r % 10) 1 1 rfl (by omega) (by omega) (by omega) (by omega)⟩
  obtain ⟨p, hp, hf⟩ := hgo
  rw [parse, hp]
  simp only
  rw [hf, if_pos ⟨rfl, rfl⟩]

theorem fin_right {n sc : Int} (hn : 0 ≤ n) (h : (fin n sc).2 = true) : 0 ≤ (fin n sc).1 ∧ (fin n sc).1 ≤ 9007199254740992 := by
  unfold fin at *
  generalize (if sc = 0 then 1000 else sc) = k at *
  unfold qtimes at *
  split at h
  · cases h
  · rename_i hno
    rw [if_neg hno]
    refine ⟨Int.mul_nonneg hn (by omega), ?_⟩
    rcases Int.lt_or_eq_of_le hn with ha | ha
    · have h1 : k ≤ 9007199254740992 / n := by omega
      have h2 : n * k ≤ n * (9007199254740992 / n) := Int.mul_le_mul_of_nonneg_left h1 (by omega)
      have h3 := Int.mul_ediv_self_le (x := 9007199254740992) (k := n) (by omega)
      simp only
      omega
    · subst ha
      simp

theorem pgo_nonneg (s : ByteArray) : ∀ (f pos : Nat) (n sc : Int) (x : Int × Int), 0 ≤ n → pgo s f pos n sc = some x → 0 ≤ x.1
  | 0, _, n, sc, x, hn, h => by cases h; exact hn
  | f + 1, pos, n, sc, x, hn, h => by
    rw [pgo] at h
    split at h
    · split at h
      · rename_i y hy
        refine pgo_nonneg s f _ _ _ x ?_ h
        rw [pstep] at hy
        split at hy
        · cases hy; exact hn
        · split at hy
          · cases hy
          · split at hy
            · cases hy
            · cases hy
              simp only
              omega
      · cases h
    · cases h
      exact hn

theorem parse_cases (s : ByteArray) : parse s = (0, false) ∨ ∃ k : Int, parse s = (k, true) ∧ (0 ≤ k ∧ k ≤ 9007199254740992) ∧ strOfNums (txtL k) = s := by
  rw [parse]
  cases hp : pgo s s.size 0 0 0 with
  | none => exact .inl rfl
  | some x =>
    simp only
    split
    · rename_i hc
      exact .inr ⟨_, rfl, fin_right (pgo_nonneg s _ _ _ _ _ (Int.le_refl 0) hp) hc.1, hc.2⟩
    · exact .inl rfl

theorem txt_not {n : Int} (h : ¬ (0 ≤ n ∧ n ≤ 9007199254740992)) : strOfNums (txtL n) = strOfNums [] := by rw [txtL, if_neg h]
theorem parse_empty : parse (strOfNums []) = (0, false) := by
  rcases parse_cases (strOfNums []) with h | ⟨k, h, hk, ht⟩
  · exact h
  · have hl := congrArg ByteArray.size ht
    rw [strOfNums_size, strOfNums_size, txtL, if_pos hk] at hl
    split at hl
    · rw [decL] at hl
      split at hl <;> simp at hl
    · rw [strip3 _ (by omega)] at hl
      simp at hl

theorem c24 (w : World) : Ret Try.prog 24 #[] w (.bool true) := by
  intro R h
  refine f24_calls w R ?_
  unfold f24_vc
  have hA := At.refl w
  have e25 : parse (ByteArray.mk #[48, 46, 48, 50, 53]) = (25, true) := by
    have ht : strOfNums (txtL 25) = ByteArray.mk #[48, 46, 48, 50, 53] := by
      rw [txtL, if_pos (by decide), if_neg (by decide), strip3 _ (by decide), digit1 (by decide)]
      rfl
    rw [← ht]
    exact parse_txt (by decide)
  have e15 : strOfNums (txtL 1500) = ByteArray.mk #[49, 46, 53] := by
    rw [txtL, if_pos (by decide), if_neg (by decide), strip3 _ (by decide), show (1500 : Int) / 1000 = 1 from rfl, digit1 (by decide)]
    rfl
  refine at_call hA (c21 _ _ _ (by decide) (by decide) (by decide) _) (fun _ hA hk => ⟨_, _, rfl, ?_⟩)
  refine at_call hA (c21 _ _ _ (by decide) (by decide) (by decide) _) (fun _ hA hk => ⟨_, _, rfl, ?_⟩)
  refine at_call hA (e25 ▸ c25 _ _) (fun _ hA hk => ⟨_, _, rfl, ?_⟩)
  refine ⟨fun _ => ⟨fun _ => ⟨fun _ => ?_, fun h => by cases h⟩, fun h => by cases h⟩, fun h => by cases h⟩
  refine at_call hA (e15 ▸ c27 _ _ (by decide)) (fun _ hA hk => ⟨_, rfl, ?_⟩)
  exact ⟨fun _ => ⟨fun _ => leaf h hA rfl, fun h => by cases h⟩, fun h => by simp at h⟩
end Go.Vc.Q
