/- Own text of this claim: Sl4. -/
import Derived.Test.YtjpmpdckkdhidaaDoorSl3
import Derived.Test.YtjpmpdckkdhidaaDoorVcStr2
set_option maxRecDepth 20000
namespace Go.Vc.D
open Go Go.Vc Go.RowKit Go.Proofs Vcd

/-! ### The index of a byte -/
theorem idx_list (c : UInt8) : ∀ l : List UInt8, (Lib.indexByte l c = -1 ∧ c ∉ l) ∨ ∃ a b, l = a ++ c :: b ∧ c ∉ a ∧ Lib.indexByte l c = (a.length : Int)
  | [] => .inl ⟨rfl, by simp⟩
  | x :: l => by
    unfold Lib.indexByte
    by_cases h : x = c
    · subst h
      exact .inr ⟨[], l, rfl, by simp, by simp⟩
    · have hb : (x == c) = false := by simpa using h
      rw [hb]
      simp only [Bool.false_eq_true, if_false]
      rcases idx_list c l with ⟨h1, h2⟩ | ⟨a, b, rfl, h2, h3⟩
      · rw [h1]
        exact .inl ⟨by simp, by simp [h2]; exact fun e => h e.symm⟩
      · rw [h3]
        refine .inr ⟨x :: a, b, rfl, by simp [h2]; exact fun e => h e.symm, ?_⟩
        have : ((a.length : Int) == -1) = false := by
          rw [beq_eq_false_iff_ne]; omega
        rw [this]
        simp

/-- A string parted at the first '('. -/
def pcut (s : ByteArray) : ByteArray × ByteArray × Bool :=
  if 0 ≤ Lib.indexByte s.data.toList 40 then (s.extract 0 (Lib.indexByte s.data.toList 40).toNat, s.extract ((Lib.indexByte s.data.toList 40).toNat + 1) s.size, true) else (s, ByteArray.mk #[], false)
theorem idx_lt (s : ByteArray) : Lib.indexByte s.data.toList 40 < s.size := by
  have hs : s.size = s.data.toList.length := by rw [Array.length_toList]; rfl
  rcases idx_list 40 s.data.toList with ⟨h1, _⟩ | ⟨a, b, h1, _, h3⟩
  · rw [h1]; omega
  · rw [h3, hs]
    have := congrArg List.length h1
    simp at this ⊢
    omega

theorem c24 (s : ByteArray) (w : World) : Ret Tryd.prog 24 #[.string s, .string (ByteArray.mk #[40])] w (.int .i64 (Lib.indexByte s.data.toList 40)) := fun R h =>
  (Tryd.stringslite_Index_one s 40 w).mono fun e w' ⟨he, hw⟩ => by subst he hw; exact h _ (Below.refl _ _)

theorem c23 (s : ByteArray) (hs : s.size ≤ 9223372036854775807) (w : World) : Ret Tryd.prog 23 #[.string s, .string (ByteArray.mk #[40])] w (.tuple #[.string (pcut s).1, .string (pcut s).2.1, .bool (pcut s).2.2]) := by
  intro R h
  refine f23_calls s (ByteArray.mk #[40]) w R ?_
  unfold f23_vc
  have hA := At.refl w
  refine at_call hA (c24 _ _) (fun _ hA hk => ?_)
  first | refine ⟨_, rfl, ?_⟩ | refine ⟨_, _, rfl, ?_⟩ | refine ⟨_, _, _, rfl, ?_⟩ | refine ⟨_, _, _, _, rfl, ?_⟩ | refine ⟨_, _, _, _, _, rfl, ?_⟩ | refine ⟨_, _, _, _, _, _, rfl, ?_⟩ | refine ⟨_, _, _, _, _, _, _, rfl, ?_⟩ | refine ⟨_, _, _, _, _, _, _, _, rfl, ?_⟩
  have hlt := idx_lt s
  refine brD (fun hge => ?_) (fun hn => leaf h hA (by rw [pcut, if_neg hn]))
  obtain ⟨i, hi⟩ : ∃ i : Nat, Lib.indexByte s.data.toList 40 = i := ⟨_, (Int.toNat_of_nonneg hge).symm⟩
  have hp : pcut s = (s.extract 0 i, s.extract (i + 1) s.size, true) := by
    rw [pcut, if_pos hge, hi, Int.toNat_natCast]
  rw [hp] at h
  rw [hi] at hlt ⊢
  have e1 : IntKind.i64.wrap ((i : Int) + ((ByteArray.mk #[40]).size : Int)) = ((i + 1 : Nat) : Int) := by
    have : (ByteArray.mk #[40]).size = 1 := rfl
    rw [this, wrap_i64 (by omega) (by omega)]; rfl
  rw [e1]
  refine ⟨_, gives_str_to (by kernel_rfl) (by omega), _, gives_str_from (by kernel_rfl) (by omega), ?_⟩
  refine go_below0 hA fun _ hA => leaf h hA rfl

theorem c21 (s : ByteArray) (hs : s.size ≤ 9223372036854775807) (w : World) : Ret Tryd.prog 21 #[.string s, .string (ByteArray.mk #[40])] w (.tuple #[.string (pcut s).1, .string (pcut s).2.1, .bool (pcut s).2.2]) := by
  intro R h
  refine f21_calls s (ByteArray.mk #[40]) w R ?_
  unfold f21_vc
  have hA := At.refl w
  refine at_call hA (c23 _ hs _) (fun _ hA hk => ?_)
  first | refine ⟨_, rfl, ?_⟩ | refine ⟨_, _, rfl, ?_⟩ | refine ⟨_, _, _, rfl, ?_⟩ | refine ⟨_, _, _, _, rfl, ?_⟩ | refine ⟨_, _, _, _, _, rfl, ?_⟩ | refine ⟨_, _, _, _, _, _, rfl, ?_⟩ | refine ⟨_, _, _, _, _, _, _, rfl, ?_⟩ | refine ⟨_, _, _, _, _, _, _, _, rfl, ?_⟩
  exact leaf h hA rfl

/-! ### Reading a slot -/
def rstep (r c : Int) : Int := if 48 ≤ c ∧ c ≤ 57 ∧ r ≤ 32 then r * 10 + (c - 48) else r
def parseR (l : List Int) : Int := l.foldl rstep 0
theorem rstep_range {r c : Int} (h : 0 ≤ r ∧ r ≤ 329) : 0 ≤ rstep r c ∧ rstep r c ≤ 329 := by
  unfold rstep
  split <;> omega
theorem parseR_range (l : List Int) : 0 ≤ parseR l ∧ parseR l ≤ 329 := by
  have : ∀ (l : List Int) (r : Int), 0 ≤ r ∧ r ≤ 329 → 0 ≤ l.foldl rstep r ∧ l.foldl rstep r ≤ 329 := by
    intro l
    induction l with
    | nil => intro r h; exact h
    | cons c l ih => intro r h; exact ih _ (rstep_range h)
  exact this l 0 (by omega)
theorem parseR_snoc (l : List Int) (c : Int) : parseR (l ++ [c]) = rstep (parseR l) c := by
  unfold parseR
  rw [List.foldl_append]
  rfl

noncomputable def parse (s : ByteArray) : Int × Int × Bool :=
  if (kindOf (pcut s).1).2 = true then (if stext (kindOf (pcut s).1).1 (parseR (bytesOf (pcut s).2.1)) = s then ((kindOf (pcut s).1).1, parseR (bytesOf (pcut s).2.1), true) else (0, 0, false)) else (0, 0, false)

theorem pcut_small (s : ByteArray) : (pcut s).2.1.size ≤ s.size := by
  unfold pcut
  split
  · simp only [ByteArray.size_extract]; omega
  · exact Nat.zero_le _

theorem c16 (s : ByteArray) (hs : s.size ≤ maxLen) (w : World) (hT : Tab w) : Ret Tryd.prog 16 #[.string s] w (.tuple #[slotV (parse s).1 (parse s).2.1, .bool (parse s).2.2]) := by
  intro R h
  refine f16_calls s w R ?_
  unfold f16_vc
  have hA := At.refl w
  have hs' : s.size ≤ 9223372036854775807 := by unfold maxLen at hs; omega
  refine go_n hA fun n1 h_n1 => ?_
  refine go_below hA fun _ hA => ?_
  refine at_call hA (c21 _ hs' _) (fun _ hA hk => ?_)
  first | refine ⟨_, rfl, hk, ?_⟩ | refine ⟨_, _, rfl, hk, ?_⟩ | refine ⟨_, _, _, rfl, hk, ?_⟩ | refine ⟨_, _, _, _, rfl, hk, ?_⟩ | refine ⟨_, _, _, _, _, rfl, hk, ?_⟩ | refine ⟨_, _, _, _, _, _, rfl, hk, ?_⟩ | refine ⟨_, _, _, _, _, _, _, rfl, hk, ?_⟩ | refine ⟨_, _, _, _, _, _, _, _, rfl, hk, ?_⟩
  refine at_call hA (c10 _ _ (hT.at_ hA)) (fun _ hA hk => ?_)
  first | refine ⟨_, rfl, hk, ?_⟩ | refine ⟨_, _, rfl, hk, ?_⟩ | refine ⟨_, _, _, rfl, hk, ?_⟩ | refine ⟨_, _, _, _, rfl, hk, ?_⟩ | refine ⟨_, _, _, _, _, rfl, hk, ?_⟩ | refine ⟨_, _, _, _, _, _, rfl, hk, ?_⟩ | refine ⟨_, _, _, _, _, _, _, rfl, hk, ?_⟩ | refine ⟨_, _, _, _, _, _, _, _, rfl, hk, ?_⟩
  refine brNB (fun hno => ?_) (fun hok => ?_)
  · refine go_evo hA (by intro d hd; simp at hd; omega) fun _ hA => ?_
    exact leaf h hA (by rw [parse, if_neg (by rw [hno]; decide)])
  rw [parse, if_pos hok] at h
  refine go_n hA fun n13 h_n13 => ?_
  refine go_evo hA (by intro d hd; simp at hd; omega) fun _ hA => ?_
  refine opw_s2bB hA (e := 5) (by kernel_rfl) (by kernel_rfl) (by kernel_rfl) (Nat.le_trans (pcut_small s) hs) fun a c w16 hA16 hk hb hsl hbk => ⟨_, _, _, rfl, hk, ?_⟩
  have hn13 : ∀ b, a = some b → b.block ≠ n13 := fun b hb' => by
    have := hbk b hb'
    have := hA.under n13 (by simp)
    omega
  have hA := hA16
  have hlen := hsl.1
  have hps := pcut_small s
  generalize hrest : (pcut s).2.1 = rest at *
  generalize (kindOf (pcut s).1).1 = kd at *
  refine ⟨fun x W => At w [n1, n13] W ∧ SlE W 1 u8e (bytesOf rest) a rest.size c ∧ ∃ k : Nat, x.1 = k ∧ k ≤ rest.size ∧ x.2.1 = kd ∧ x.2.2.1 = parseR ((bytesOf rest).take k), fun x _ => rest.size - x.1.toNat, ⟨hA, hsl, 0, rfl, by omega, rfl, rfl⟩, ?_⟩
  rintro i kd' rl W ⟨hA, hbw, k, hi, hk, hkd, hrl⟩
  simp only at hi hkd hrl
  subst hi hkd hrl
  have hlr := (bytesOf_len rest)
  have hm : k < rest.size → rest.size - ((k + 1 : Nat) : Int).toNat < rest.size - (k : Int).toNat := fun h => by omega
  refine brD (fun hlt => ?_) (fun hge => ?_)
  · have e1 : IntKind.i64.wrap ((k : Int) + 1) = ((k + 1 : Nat) : Int) := by rw [wrap_i64 (by omega) (by omega)]; rfl
    rw [e1]
    obtain ⟨c0, hc0⟩ : ∃ c0, (bytesOf rest)[k]? = some c0 := ⟨_, List.getElem?_eq_getElem (by omega)⟩
    have hcr := bytesOf_range (List.mem_of_getElem? hc0)
    obtain ⟨ad, g1, r1⟩ := rd_one (te := 5) (ds := []) (k := .i64) (t := 50) (P := Tryd.prog) (e := 5) hbw hc0 rfl (by kernel_rfl) (by kernel_rfl) (by kernel_rfl) (fun _ h => by cases h)
    have ht : (bytesOf rest).take (k + 1) = (bytesOf rest).take k ++ [c0] := by rw [List.take_add_one, hc0]; rfl
    have hr := parseR_range ((bytesOf rest).take k)
    have hstep : parseR ((bytesOf rest).take (k + 1)) = rstep (parseR ((bytesOf rest).take k)) c0 := by rw [ht, parseR_snoc]
    refine ⟨_, g1, _, r1, ?_⟩
    refine brD (fun h1 => brD (fun h2 => brD (fun h3 => ?_) (fun h3 => ?_)) (fun h2 => ?_)) (fun h1 => ?_)
    · refine go_evo_too hA (by intro d hd; simp at hd; omega) fun w28 hA28 hev => ⟨⟨hA28, hbw.chg (Chg.of_evo hev) (fun b hb' hm => hn13 b hb' (by simpa using hm)), k + 1, rfl, by omega, rfl, ?_⟩, hm (by omega)⟩
      show IntKind.i64.wrap _ = _
      rw [hstep, rstep, if_pos ⟨h1, h2, h3⟩, wrap_u8, wrap_i64 (x := parseR ((bytesOf rest).take k) * 10) (by omega) (by omega), wrap_i64 (x := (c0 - 48) % 256) (by omega) (by omega), wrap_i64 (by omega) (by omega)]
      omega
    · exact ⟨⟨hA, hbw, k + 1, rfl, by omega, rfl, by rw [hstep, rstep, if_neg (fun hh => h3 hh.2.2)]⟩, hm (by omega)⟩
    · exact ⟨⟨hA, hbw, k + 1, rfl, by omega, rfl, by rw [hstep, rstep, if_neg (fun hh => h2 hh.2.1)]⟩, hm (by omega)⟩
    · exact ⟨⟨hA, hbw, k + 1, rfl, by omega, rfl, by rw [hstep, rstep, if_neg (fun hh => h1 hh.1)]⟩, hm (by omega)⟩
  · have hke : k = rest.size := by omega
    subst hke
    rw [List.take_of_length_le (by omega)]
    refine at_call hA (c19 _ _ _ (hT.at_ hA)) (fun _ hA hk => ?_)
    first | refine ⟨_, rfl, hk, ?_⟩ | refine ⟨_, _, rfl, hk, ?_⟩ | refine ⟨_, _, _, rfl, hk, ?_⟩ | refine ⟨_, _, _, _, rfl, hk, ?_⟩ | refine ⟨_, _, _, _, _, rfl, hk, ?_⟩ | refine ⟨_, _, _, _, _, _, rfl, hk, ?_⟩ | refine ⟨_, _, _, _, _, _, _, rfl, hk, ?_⟩ | refine ⟨_, _, _, _, _, _, _, _, rfl, hk, ?_⟩
    rw [toList_eq]
    refine brND (fun hne => ?_) (fun heq => ?_)
    · refine go_evo hA (by intro d hd; simp at hd; omega) fun _ hA => ?_
      exact leaf h hA (by rw [if_neg hne])
    · refine go_evo hA (by intro d hd; simp at hd; omega) fun _ hA => ?_
      exact leaf h hA (by rw [if_pos heq])
end Go.Vc.D
