/- Decimal digits, and strings as lists of bytes. -/
import Derived.Test.YtjpmpdckkdhidaaDoorVcArr
import Derived.Test.YtjpmpdckkdhidaaDoorVcMath
import Derived.Test.YtjpmpdckkdhidaaDoorVcKeys
namespace Go.Vc
open Go Go.RowKit
def decL (n least : Int) : List Int := if 10 ≤ n ∨ (1 < least ∧ 0 ≤ n) then decL (n / 10) (least - 1) ++ [48 + n % 10] else [48 + n % 10]
termination_by n.toNat + least.toNat
decreasing_by
  rename_i h
  rcases h with h | h <;> omega

theorem decL_len (n least : Int) : (decL n least).length ≤ n.toNat + least.toNat + 1 := by
  rw [decL]
  split
  · rename_i h
    have := decL_len (n / 10) (least - 1)
    rw [List.length_append, List.length_singleton]
    rcases h with h | h <;> omega
  · simp
termination_by n.toNat + least.toNat
decreasing_by
  rename_i h
  rcases h with h | h <;> omega

theorem decL_byte (n least : Int) (hn : 0 ≤ n) : ∀ x ∈ decL n least, 48 ≤ x ∧ x ≤ 57 := by
  rw [decL]
  split
  · rename_i h
    intro x hx
    rcases List.mem_append.1 hx with hx | hx
    · exact decL_byte (n / 10) (least - 1) (by omega) x hx
    · simp at hx
      omega
  · intro x hx
    simp at hx
    omega
termination_by n.toNat + least.toNat
decreasing_by
  all_goals omega

theorem decL_one (n least : Int) (h : least ≤ 1) : decL n least = decL n 1 := by
  rw [decL, decL.eq_def n 1]
  by_cases hn : 10 ≤ n
  · rw [if_pos (.inl hn), if_pos (.inl hn), decL_one (n / 10) (least - 1) (by omega), decL_one (n / 10) (1 - 1) (by omega)]
  · rw [if_neg (by omega), if_neg (by omega)]
termination_by n.toNat
decreasing_by
  all_goals omega

theorem strOfNums_append (a b : List Int) : strOfNums a ++ strOfNums b = strOfNums (a ++ b) := by
  show (⟨_⟩ : ByteArray) ++ ⟨_⟩ = ⟨_⟩
  rw [ByteArray.mk_append_mk, List.map_append]

theorem decL_short : ∀ (k : Nat) (n : Int), 0 ≤ n → n < 10 ^ (k + 1) → (decL n 1).length ≤ k + 1
  | 0, n, h0, h => by
    rw [decL, if_neg (by omega)]
    simp
  | k + 1, n, h0, h => by
    rw [decL]
    split
    · rw [decL_one _ (1 - 1) (by omega), List.length_append, List.length_singleton]
      have e : (10 : Int) ^ (k + 1 + 1) = 10 ^ (k + 1) * 10 := Int.pow_succ ..
      have := decL_short k (n / 10) (by omega) (by rw [e] at h; omega)
      omega
    · simp

/-- Digits by the reference: put in front, one by one. -/
theorem digit1 {d : Int} (h : 0 ≤ d ∧ d < 10) : decL d 1 = [48 + d] := by
  rw [decL, if_neg (by omega), Int.emod_eq_of_lt h.1 h.2]
theorem dec_small {n : Int} (h : 0 ≤ n ∧ n ≤ 9223372036854775807) : (strOfNums (decL n 1)).size ≤ 19 := by
  rw [strOfNums_size]
  exact decL_short 18 n h.1 (by omega)

theorem bytesOf_strOfNums {l : List Int} (h : ∀ x ∈ l, 0 ≤ x ∧ x < 256) : bytesOf (strOfNums l) = l := by
  show (((l.map fun n => UInt8.ofNat n.toNat).toArray).toList.map fun b => (b.toNat : Int)) = l
  rw [List.toList_toArray, List.map_map]
  conv => rhs; rw [← List.map_id l]
  apply List.map_congr_left
  intro x hx
  have := h x hx
  simp
  omega
theorem bytes_ext {a b : ByteArray} (h : bytesOf a = bytesOf b) : a = b := by
  rw [← strOfNums_bytesOf a, h, strOfNums_bytesOf]

theorem append_sep {k : Int} : ∀ {a b x y : List Int}, k ∉ a → k ∉ b → a ++ k :: x = b ++ k :: y → a = b ∧ x = y
  | [], [], x, y, _, _, h => ⟨rfl, by simpa using h⟩
  | [], c :: b, x, y, _, hb, h => by
    simp at h
    exact absurd (h.1 ▸ List.mem_cons_self ..) hb
  | c :: a, [], x, y, ha, _, h => by
    simp at h
    exact absurd (h.1 ▸ List.mem_cons_self ..) ha
  | c :: a, d :: b, x, y, ha, hb, h => by
    simp only [List.cons_append, List.cons.injEq] at h
    obtain ⟨rfl, h⟩ := h
    obtain ⟨rfl, rfl⟩ := append_sep (fun hk => ha (List.mem_cons_of_mem _ hk)) (fun hk => hb (List.mem_cons_of_mem _ hk)) h
    exact ⟨rfl, rfl⟩

theorem decL_inj (n m : Int) (hn : 0 ≤ n) (hm : 0 ≤ m) (h : decL n 1 = decL m 1) : n = m := by
  rw [decL.eq_def n, decL.eq_def m] at h
  have l1 : ∀ k : Int, 0 < (decL k (1 - 1)).length := fun k => by rw [decL]; split <;> simp
  split at h <;> split at h
  · obtain ⟨h1, h2⟩ := List.append_inj' h rfl
    rw [decL_one _ (1 - 1) (by omega), decL_one (m / 10) (1 - 1) (by omega)] at h1
    have := decL_inj (n / 10) (m / 10) (by omega) (by omega) h1
    simp at h2
    omega
  · have hlen := congrArg List.length h
    rw [List.length_append, List.length_singleton, List.length_singleton] at hlen
    have := l1 (n / 10)
    omega
  · have hlen := congrArg List.length h
    rw [List.length_append, List.length_singleton, List.length_singleton] at hlen
    have := l1 (m / 10)
    omega
  · simp at h
    omega
termination_by n.toNat
decreasing_by
  all_goals omega

theorem decL_no {n : Int} (hn : 0 ≤ n) {k : Int} (hk : k < 48 ∨ 57 < k) : k ∉ decL n 1 := fun h => by
  have := decL_byte n 1 hn k h
  omega


/-- A string of bytes written out. -/
theorem opw_bytes0 {P : Program} {M : Nat → Prop} {w W : World} {t e td : TypeId} {len : Nat} {parts : Array (Nat × Value)} {l : List Int} {K : ByteArray → World → Prop} (hA : AtF w M [] W) (hl : len = l.length) (hm : len ≤ maxLen) (hc : sliceCells P t len parts = some (e, l.flatMap u8e))
    (hs : P.underlying t = some (.slice e)) (he : P.underlying e = some (.int .u8)) (hd : P.underlying td = some .string)
    (h : ∀ w', AtF w M [] w' → Below W.heap.size W w' → K (strOfNums l) w') :
    OpW P (valueS (Instr.buildSlice t len parts)) W fun v1 w1 => ∃ a n c, v1 = .slice a n c ∧ OpW P (valueS (convert t td (.slice a n c))) w1 fun v2 w2 => ∃ s, v2 = .string s ∧ K s w2 := by
  refine opw_litL (f := u8e) (size := 1) hA hl (fun _ _ => rfl) hm hc fun g w' _ hA' _ hb ho => ⟨_, _, _, rfl, ?_⟩
  exact opw_b2s hs he hd (ho.sl (by simp)) ⟨_, rfl, h w' hA' hb⟩
end Go.Vc
