/- Own text of this claim: Sh4. -/
import Derived.Test.YtlapclajdfaajaaSh3
import Derived.Test.YtlapclajdfaajaaVcStr2
set_option maxRecDepth 20000
namespace Go.Vc.B
open Go Go.Vc Go.RowKit Go.Proofs Vcb Go.Vc.BQ Go.Vc.BT

theorem bytesOf_strOfNums {l : List Int} (h : ∀ x ∈ l, 0 ≤ x ∧ x < 256) : bytesOf (strOfNums l) = l := by
  show (((l.map fun n => UInt8.ofNat n.toNat).toArray).toList.map fun b => (b.toNat : Int)) = l
  rw [List.toList_toArray, List.map_map]
  conv => rhs; rw [← List.map_id l]
  apply List.map_congr_left
  intro x hx
  have := h x hx
  simp
  omega
theorem toList_dec (t s : ByteArray) : (t.toList == s.toList) = decide (t = s) := by
  by_cases h : t = s
  · subst h; simp
  · have : t.toList ≠ s.toList := fun e => h (by
      rw [ByteArray.toList_eq, ByteArray.toList_eq] at e
      have := Array.ext' e
      cases t; cases s
      simpa using this)
    simp [h, this]
theorem bytes_ext {a b : ByteArray} (h : bytesOf a = bytesOf b) : a = b := by
  rw [← strOfNums_bytesOf a, h, strOfNums_bytesOf]

theorem append_sep {k : Int} : ∀ {a b x y : List Int}, k ∉ a → k ∉ b → a ++ k :: x = b ++ k :: y → a = b ∧ x = y
  | [], [], x, y, _, _, h => ⟨rfl, by simpa using h⟩
  | [], c :: b, x, y, _, hb, h => by
    simp at h
    exact absurd (h.1 ▸ List.mem_cons_self ..) hb
  | c :: a, [], x, y, ha, _, h => by
    simp at h
    exact absurd (h.1 ▸ List.mem_cons_self ..) ha
  | c :: a, d :: b, x, y, ha, hb, h => by
    simp only [List.cons_append, List.cons.injEq] at h
    obtain ⟨rfl, h⟩ := h
    obtain ⟨rfl, rfl⟩ := append_sep (fun hk => ha (List.mem_cons_of_mem _ hk)) (fun hk => hb (List.mem_cons_of_mem _ hk)) h
    exact ⟨rfl, rfl⟩

theorem decL_inj (n m : Int) (hn : 0 ≤ n) (hm : 0 ≤ m) (h : decL n 1 = decL m 1) : n = m := by
  rw [decL.eq_def n, decL.eq_def m] at h
  have l1 : ∀ k : Int, 0 < (decL k (1 - 1)).length := fun k => by rw [decL]; split <;> simp
  split at h <;> split at h
  · obtain ⟨h1, h2⟩ := List.append_inj' h rfl
    rw [decL_one _ (1 - 1) (by omega), decL_one (m / 10) (1 - 1) (by omega)] at h1
    have := decL_inj (n / 10) (m / 10) (by omega) (by omega) h1
    simp at h2
    omega
  · have hlen := congrArg List.length h
    rw [List.length_append, List.length_singleton, List.length_singleton] at hlen
    have := l1 (n / 10)
    omega
  · have hlen := congrArg List.length h
    rw [List.length_append, List.length_singleton, List.length_singleton] at hlen
    have := l1 (m / 10)
    omega
  · simp at h
    omega
termination_by n.toNat
decreasing_by
  all_goals omega

theorem decL_no {n : Int} (hn : 0 ≤ n) {k : Int} (hk : k < 48 ∨ 57 < k) : k ∉ decL n 1 := fun h => by
  have := decL_byte n 1 hn k h
  omega

theorem ftext_list {a b : Int} (h : right a b) : ftext a b = strOfNums (decL a 1 ++ 47 :: decL b 1) := by
  rw [ftext, if_pos h, show ByteArray.mk #[47] = strOfNums [47] from rfl, strOfNums_append, strOfNums_append, List.append_assoc]
  rfl
theorem sText_list {a b c : Int} (h : sRight a b c) : sText a b c = strOfNums ((decL a 1 ++ 47 :: decL b 1) ++ 58 :: decL c 1) := by
  rw [sText, if_pos h, ftext_list h.1, show ByteArray.mk #[58] = strOfNums [58] from rfl, strOfNums_append, strOfNums_append, List.append_assoc]
  rfl
theorem ftext_bytes {a b : Int} (h : right a b) : ∀ x ∈ decL a 1 ++ 47 :: decL b 1, 47 ≤ x ∧ x ≤ 57 := by
  intro x hx
  have := h.1; have := h.2
  rcases List.mem_append.1 hx with hx | hx
  · have := decL_byte a 1 (by omega) x hx; omega
  · rcases List.mem_cons.1 hx with rfl | hx
    · omega
    · have := decL_byte b 1 (by omega) x hx; omega
theorem sText_bytes {a b c : Int} (h : sRight a b c) : ∀ x ∈ (decL a 1 ++ 47 :: decL b 1) ++ 58 :: decL c 1, 47 ≤ x ∧ x ≤ 58 := by
  intro x hx
  have := h.2.2.2.1
  rcases List.mem_append.1 hx with hx | hx
  · have := ftext_bytes h.1 x hx; omega
  · rcases List.mem_cons.1 hx with rfl | hx
    · omega
    · have := decL_byte c 1 (by omega) x hx; omega

theorem sText_inj {a0 a1 a2 b0 b1 b2 : Int} (ha : sRight a0 a1 a2) (hb : sRight b0 b1 b2) (h : sText a0 a1 a2 = sText b0 b1 b2) : a0 = b0 ∧ a1 = b1 ∧ a2 = b2 := by
  have h' := congrArg bytesOf h
  rw [sText_list ha, sText_list hb, bytesOf_strOfNums (fun x hx => by have := sText_bytes ha x hx; omega), bytesOf_strOfNums (fun x hx => by have := sText_bytes hb x hx; omega)] at h'
  obtain ⟨h1, h2⟩ := append_sep (fun hk => by have := ftext_bytes ha.1 _ hk; omega) (fun hk => by have := ftext_bytes hb.1 _ hk; omega) h'
  have p0 := ha.1.1; have p1 := ha.1.2; have q0 := hb.1.1; have q1 := hb.1.2; have p2 := ha.2.2.2.1; have q2 := hb.2.2.2.1
  obtain ⟨h3, h4⟩ := append_sep (decL_no p0 (by omega)) (decL_no q0 (by omega)) h1
  exact ⟨decL_inj _ _ p0 q0 h3, decL_inj _ _ (by omega) (by omega) h4, decL_inj _ _ (by omega) (by omega) h2⟩

theorem law4 (a0 a1 a2 b0 b1 b2 : Int) (ha : BQ.I64 a0 ∧ BQ.I64 a1) (hb : BQ.I64 b0 ∧ BQ.I64 b1) (w : World) : Ret Try.prog 4 #[shV a0 a1 a2, shV b0 b1 b2] w (.bool true) := by
  intro R h
  refine f4_calls a0 a1 a2 b0 b1 b2 w R ?_
  unfold f4_vc
  have hA := At.refl w
  refine go_n hA fun n1 h1 => ?_
  refine go_n hA fun n2 h2 => ?_
  refine go_below hA fun w3 hA => ?_
  have fin : ∀ W, At w [n1, n2] W → Calls Try.prog 16 #[] W fun e w' => ∃ b, e = Ending.returned (Value.bool b) ∧ Keeps [n1, n2] W w' ∧ R (Ending.returned (Value.bool b)) w' := fun W hA =>
    at_call hA (c16 _) (fun _ hA hk => ⟨_, rfl, hk, leaf h hA rfl⟩)
  have hno : ∀ {a b c : Int}, ¬ sRight a b c → sText a b c = ByteArray.mk #[] := fun hr => by rw [sText, if_neg hr]
  refine at_call hA (c13 _ _ _ _) (fun _ hA hk => ⟨_, rfl, hk, ?_⟩)
  -- where one of the two may not be
  refine brND (fun hra => ?_) (fun hra => ?_)
  · refine at_call hA (c13 _ _ _ _) (fun _ hA hk => ⟨_, rfl, hk, brD (fun hh => absurd hh hra) (fun _ => ?_)⟩)
    refine at_call hA (c17 _ _ _ ha.1 ha.2 _) (fun _ hA hk => ⟨_, rfl, hk, ?_⟩)
    refine ⟨fun _ => ?_, fun hh => by rw [hno hra] at hh; simp at hh⟩
    refine at_call hA (c13 _ _ _ _) (fun _ hA hk => ⟨_, rfl, hk, brD (fun _ => fin _ hA) (fun hrb => ?_)⟩)
    refine at_call hA (c17 _ _ _ hb.1 hb.2 _) (fun _ hA hk => ⟨_, rfl, hk, ?_⟩)
    exact ⟨fun _ => fin _ hA, fun hh => by rw [hno hrb] at hh; simp at hh⟩
  refine at_call hA (c13 _ _ _ _) (fun _ hA hk => ⟨_, rfl, hk, ?_⟩)
  refine brND (fun hrb => ?_) (fun hrb => ?_)
  · refine at_call hA (c13 _ _ _ _) (fun _ hA hk => ⟨_, rfl, hk, brD (fun _ => ?_) (fun hh => absurd hra hh)⟩)
    refine at_call hA (c13 _ _ _ _) (fun _ hA hk => ⟨_, rfl, hk, brD (fun hh => absurd hh hrb) (fun _ => ?_)⟩)
    refine at_call hA (c17 _ _ _ hb.1 hb.2 _) (fun _ hA hk => ⟨_, rfl, hk, ?_⟩)
    exact ⟨fun _ => fin _ hA, fun hh => by rw [hno hrb] at hh; simp at hh⟩
  refine at_call hA (c18 _ _ ha.1 ha.2 _) (fun _ hA hk => ⟨_, rfl, hk, ?_⟩)
  refine at_call hA (c17 _ _ _ ha.1 ha.2 _) (fun w74 hA hk => ⟨_, rfl, hk, ?_⟩)
  have hfs : (ftext a0 a1).size = (decL a0 1 ++ 47 :: decL a1 1).length := by rw [ftext_list hra.1, strOfNums_size]
  have hss : (sText a0 a1 a2).size = (decL a0 1 ++ 47 :: decL a1 1).length + ((decL a2 1).length + 1) := by
    rw [sText_list hra, strOfNums_size, List.length_append]
    rfl
  have hpos : 0 < (decL a2 1).length := by rw [decL]; split <;> simp
  have hle := ftext_size (a := a0) (b := a1) (by omega) (by omega)
  rw [wrap_i64 (x := ((ftext a0 a1).size : Int) + 2) (by omega) (by omega)]
  refine brD (fun hh => by omega) (fun _ => ?_)
  refine ⟨_, gives_str_to (by kernel_rfl) (by omega), ?_⟩
  have hbs := sText_bytes hra
  have hbt : bytesOf (sText a0 a1 a2) = (decL a0 1 ++ 47 :: decL a1 1) ++ 58 :: decL a2 1 := by rw [sText_list hra, bytesOf_strOfNums (fun x hx => by have := hbs x hx; omega)]
  have hex : (sText a0 a1 a2).extract 0 (ftext a0 a1).size = ftext a0 a1 := by
    apply bytes_ext
    rw [bytesOf_extract, hbt, hfs, List.drop_zero, Nat.sub_zero, List.take_left, ftext_list hra.1, bytesOf_strOfNums (fun x hx => by have := ftext_bytes hra.1 x hx; omega)]
  rw [hex]
  refine ⟨fun hh => by simp at hh, fun _ => ?_⟩
  have hlt : (ftext a0 a1).size < (sText a0 a1 a2).size := by omega
  have hx : (bytesOf (sText a0 a1 a2))[(ftext a0 a1).size]? = some 58 := by
    rw [hbt, hfs, List.getElem?_append_right (Nat.le_refl _)]
    simp
  have hgx := gives_index_str (P := Try.prog) (t := 9) (s := sText a0 a1 a2) (k := .i64) (i := (ftext a0 a1).size) (by kernel_rfl) hlt
  have hb58 : (((sText a0 a1 a2)[(ftext a0 a1).size]'hlt).toNat : Int) = 58 := by
    simp only [bytesOf, List.getElem?_map] at hx
    have : (sText a0 a1 a2).data.toList[(ftext a0 a1).size]? = some ((sText a0 a1 a2)[(ftext a0 a1).size]'hlt) := by
      rw [Array.getElem?_toList]
      exact Array.getElem?_eq_getElem hlt
    rw [this] at hx
    simpa using hx
  rw [hb58] at hgx
  refine ⟨_, hgx, ⟨fun hh => by simp at hh, fun _ => go_below hA fun w78 hA => ?_⟩⟩
  refine at_call hA (c17 _ _ _ hb.1 hb.2 _) (fun _ hA hk => ⟨_, rfl, hk, ?_⟩)
  refine ⟨fun _ => fin _ hA, fun hh => absurd hh ?_⟩
  rw [toList_dec]
  by_cases he : a0 = b0 ∧ a1 = b1 ∧ a2 = b2
  · obtain ⟨rfl, rfl, rfl⟩ := he
    simp
  · rw [decide_eq_false (fun hh => he (sText_inj hra hrb hh))]
    simp
    omega
end Go.Vc.B
