/- Own text of this claim: Sl5. -/
import Derived.Test.YtjpmpdckkdhidaaDoorSl4
set_option maxRecDepth 20000
namespace Go.Vc.D
open Go Go.Vc Go.RowKit Go.Proofs Vcd

abbrev slE (x : Int × Int) : List Value := [.int .i64 x.1, .int .i64 x.2]
def allR (k : Nat) (n : Nat) : List (Int × Int) := (List.range n).map fun r : Nat => ((k : Int), (r : Int))
def allS : Nat → List (Int × Int)
  | 0 => []
  | k + 1 => allS k ++ allR k 33
theorem allR_len (k n : Nat) : (allR k n).length = n := by simp [allR]
theorem allS_len : ∀ k, (allS k).length = 33 * k
  | 0 => rfl
  | k + 1 => by rw [allS, List.length_append, allS_len k, allR_len]; omega
theorem allS_mem : ∀ {k : Nat} {x : Int × Int}, x ∈ allS k ↔ (0 ≤ x.1 ∧ x.1 < k ∧ 0 ≤ x.2 ∧ x.2 ≤ 32)
  | 0, x => by simp [allS]; omega
  | k + 1, x => by
    rw [allS, List.mem_append, allS_mem (k := k)]
    have : x ∈ allR k 33 ↔ (x.1 = k ∧ 0 ≤ x.2 ∧ x.2 ≤ 32) := by
      unfold allR
      rw [List.mem_map]
      constructor
      · rintro ⟨r, hr, rfl⟩
        have := List.mem_range.1 hr
        exact ⟨rfl, by simp only; omega, by simp only; omega⟩
      · rintro ⟨h1, h2, h3⟩
        refine ⟨x.2.toNat, List.mem_range.2 (by omega), ?_⟩
        obtain ⟨x1, x2⟩ := x
        simp only at h1 h2 h3 ⊢
        rw [h1, Int.toNat_of_nonneg h2]
    rw [this]
    omega
theorem all_mem {x : Int × Int} : x ∈ allS 4 ↔ slotR x.1 x.2 := by
  rw [allS_mem]
  unfold slotR
  omega

theorem c17 (w : World) : RetL Tryd.prog 17 #[] w 23 2 slE (allS 4) := by
  intro R h
  refine f17_calls w R ?_
  unfold f17_vc
  have hA := At.refl w
  refine ⟨fun s W => At w [] W ∧ ∃ k : Nat, s.2.1 = k ∧ k ≤ 4 ∧ OwnL w [] W 23 2 slE (.slice s.1.1 s.1.2.1 s.1.2.2) (allS k), fun s _ => 4 - s.2.1.toNat, ⟨hA, 0, rfl, by omega, OwnL.nil⟩, ?_⟩
  rintro a3 n4 n5 i W ⟨hA, k, hi, hk, ho⟩
  simp only at hi ho
  subst hi
  refine brD (fun hlt => ?_) (fun hge => ?_)
  · have e1 : IntKind.i64.wrap ((k : Int) + 1) = ((k + 1 : Nat) : Int) := by rw [wrap_i64 (by omega) (by omega)]; rfl
    rw [e1]
    refine ⟨fun s W => At w [] W ∧ ∃ r : Nat, s.2.1 = r ∧ r ≤ 33 ∧ OwnL w [] W 23 2 slE (.slice s.1.1 s.1.2.1 s.1.2.2) (allS k ++ allR k r), fun s _ => 33 - s.2.1.toNat, ⟨hA, 0, rfl, by omega, by simpa [allR] using ho⟩, ?_⟩
    rintro a10 n11 n12 j W ⟨hA, r, hj, hr, ho⟩
    simp only at hj ho
    subst hj
    have hlen := allS_len k
    refine brD (fun hlt2 => ?_) (fun hge2 => ?_)
    · have e2 : IntKind.i64.wrap ((r : Int) + 1) = ((r + 1 : Nat) : Int) := by rw [wrap_i64 (by omega) (by omega)]; rfl
      rw [e2]
      refine opw_push0 (e' := 23) (bytes := 16) hA ho ((k : Int), (r : Int)) (by kernel_rfl) (by kernel_rfl) rfl (fun _ _ => rfl) (fun u hu => by simp at hu; rcases hu with rfl | rfl <;> rfl) (by rw [List.length_append, hlen, allR_len]; omega) (by decide) fun a2 c2 w21 hA ho _ _ => ⟨⟨hA, r + 1, rfl, by omega, ?_⟩, by show 33 - ((r + 1 : Nat) : Int).toNat < 33 - (r : Int).toNat; omega⟩
      have : allR k (r + 1) = allR k r ++ [((k : Int), (r : Int))] := by unfold allR; rw [List.range_succ, List.map_append]; rfl
      rw [this, ← List.append_assoc]
      exact ho
    · have hr33 : r = 33 := by omega
      subst hr33
      exact ⟨⟨hA, k + 1, rfl, by omega, ho⟩, by show 4 - ((k + 1 : Nat) : Int).toNat < 4 - (k : Int).toNat; omega⟩
  · have hk4 : k = 4 := by omega
    subst hk4
    exact leafl h hA ho rfl

/-! ### What is read -/
theorem bytesOf_append (a b : ByteArray) : bytesOf (a ++ b) = bytesOf a ++ bytesOf b := by
  unfold bytesOf
  rw [ByteArray.data_append, Array.toList_append, List.map_append]
theorem nm_no40 (k : Int) : ∀ x ∈ bytesOf (nmOf k), x ≠ 40 ∧ x ≠ 41 := by
  unfold nmOf
  split
  · rename_i h
    have hc : k = 0 ∨ k = 1 ∨ k = 2 ∨ k = 3 := by omega
    rcases hc with rfl | rfl | rfl | rfl <;> decide
  · decide
theorem kind_nm {k : Int} (h : 0 ≤ k ∧ k < 4) : kindOf (nmOf k) = (k, true) := by
  have hc : k = 0 ∨ k = 1 ∨ k = 2 ∨ k = 3 := by omega
  rcases hc with rfl | rfl | rfl | rfl <;> decide
theorem kind_right {s : ByteArray} (h : (kindOf s).2 = true) : 0 ≤ (kindOf s).1 ∧ (kindOf s).1 < 4 := by
  unfold kindOf at h ⊢
  by_cases h0 : s = sCpus
  · simp [h0]
  · by_cases h1 : s = sMem
    · subst h1; simp [h0]
    · by_cases h2 : s = sDisk
      · subst h2; simp [h0, h1]
      · by_cases h3 : s = sGpus
        · subst h3; simp [h0, h1, h2]
        · simp [h0, h1, h2, h3] at h
theorem mem_bytes {s : ByteArray} {c : UInt8} (h : (c.toNat : Int) ∉ bytesOf s) : c ∉ s.data.toList := fun hm => h (List.mem_map.2 ⟨c, hm, rfl⟩)
theorem pcut_none {s : ByteArray} (h : (40 : Int) ∉ bytesOf s) : pcut s = (s, ByteArray.mk #[], false) := by
  rcases idx_list 40 s.data.toList with ⟨h1, _⟩ | ⟨a, b, h1, _, _⟩
  · rw [pcut, h1, if_neg (by decide)]
  · exact absurd (by rw [h1]; simp) (mem_bytes (c := 40) h)
theorem pcut_at {s a b : ByteArray} (ha : (40 : Int) ∉ bytesOf a) (hs : bytesOf s = bytesOf a ++ 40 :: bytesOf b) : pcut s = (a, b, true) := by
  have hidx : Lib.indexByte s.data.toList 40 = (a.size : Int) := by
    have hl : s.data.toList.map (fun b => (b.toNat : Int)) = a.data.toList.map (fun b => (b.toNat : Int)) ++ 40 :: b.data.toList.map (fun b => (b.toNat : Int)) := hs
    have hlen : a.size = a.data.toList.length := by rw [Array.length_toList]; rfl
    rw [hlen]
    have key : ∀ (l x y : List UInt8), l.map (fun b => (b.toNat : Int)) = x.map (fun b => (b.toNat : Int)) ++ 40 :: y.map (fun b => (b.toNat : Int)) → (40 : UInt8) ∉ x → Lib.indexByte l 40 = (x.length : Int) := by
      intro l
      induction l with
      | nil => intro x y h _; simp at h
      | cons c l ih =>
        intro x y h hx
        cases x with
        | nil =>
          simp only [List.map_nil, List.nil_append, List.map_cons, List.cons.injEq] at h
          have : c = 40 := by
            apply UInt8.toNat_inj.1
            have := h.1
            have e : (40 : UInt8).toNat = 40 := rfl
            omega
          subst this
          rfl
        | cons d x =>
          simp only [List.map_cons, List.cons_append, List.cons.injEq] at h
          have hcd : c = d := by
            apply UInt8.toNat_inj.1
            have := h.1
            omega
          subst hcd
          have hne : ¬ c = 40 := fun e => hx (by rw [e]; simp)
          have := ih x y h.2 (fun hm => hx (List.mem_cons_of_mem _ hm))
          unfold Lib.indexByte
          have hb : (c == 40) = false := by simpa using hne
          rw [hb, this]
          simp only [Bool.false_eq_true, if_false]
          have h2 : ((x.length : Int) == -1) = false := by rw [beq_eq_false_iff_ne]; omega
          rw [h2]
          simp
    exact key _ _ _ hl (mem_bytes (c := 40) ha)
  have hsz : s.size = a.size + (b.size + 1) := by
    have := congrArg List.length hs
    rw [bytesOf_len, List.length_append, List.length_cons, bytesOf_len, bytesOf_len] at this
    exact this
  rw [pcut, hidx, if_pos (by omega)]
  have e1 : s.extract 0 a.size = a := bytes_ext (by
    rw [bytesOf_extract, hs, List.drop_zero, Nat.sub_zero, ← bytesOf_len a, List.take_left])
  have e2 : s.extract (a.size + 1) s.size = b := bytes_ext (by
    rw [bytesOf_extract, hs, hsz, ← bytesOf_len a]
    rw [show (bytesOf a).length + 1 = (bytesOf a ++ [40]).length by simp, show bytesOf a ++ 40 :: bytesOf b = (bytesOf a ++ [40]) ++ bytesOf b by simp, List.drop_left]
    apply List.take_of_length_le
    rw [bytesOf_len]
    simp
    omega)
  simp only [Int.toNat_natCast, e1, e2]

theorem dec_bytes {n : Int} (h : 0 ≤ n) : bytesOf (strOfNums (decL n 1)) = decL n 1 := bytesOf_strOfNums fun x hx => by
  have := decL_byte n 1 h x hx
  omega
theorem parseR_dec {r : Int} (h : 1 ≤ r ∧ r ≤ 32) : parseR (decL r 1 ++ [41]) = r := by
  rw [parseR_snoc]
  have h41 : ∀ x, rstep x 41 = x := fun x => by unfold rstep; rw [if_neg (by omega)]
  rw [h41]
  by_cases h10 : r < 10
  · rw [digit1 (by omega)]
    show rstep 0 (48 + r) = r
    unfold rstep
    rw [if_pos (by omega)]
    omega
  · rw [dec2 (by omega) (by omega)]
    show rstep (rstep 0 (48 + r / 10)) (48 + r % 10) = r
    unfold rstep
    rw [if_pos (by omega), if_pos (by omega)]
    omega

/-- A right slot's text is read as that slot. -/
theorem parse_text {k r : Int} (h : slotR k r) : parse (stext k r) = (k, r, true) := by
  have h' := h
  unfold slotR at h'
  have hk := kind_nm (k := k) (by omega)
  by_cases h0 : r = 0
  · have ht : stext k r = nmOf k := by rw [stext, if_pos h, if_pos h0]
    have hc := pcut_none (s := nmOf k) (fun hm => (nm_no40 k 40 hm).1 rfl)
    have hp : parseR (bytesOf (ByteArray.mk #[])) = 0 := rfl
    rw [parse, ht, hc]
    simp only [hk, if_true, hp]
    rw [if_pos (by rw [← h0]; exact ht), h0]
  · have ht : stext k r = nmOf k ++ ByteArray.mk #[40] ++ strOfNums (decL r 1) ++ ByteArray.mk #[41] := by rw [stext, if_pos h, if_neg h0]
    have hb : bytesOf (stext k r) = bytesOf (nmOf k) ++ 40 :: bytesOf (strOfNums (decL r 1) ++ ByteArray.mk #[41]) := by
      rw [ht, bytesOf_append, bytesOf_append, bytesOf_append, bytesOf_append]
      have e40 : bytesOf (ByteArray.mk #[40]) = [40] := rfl
      have e41 : bytesOf (ByteArray.mk #[41]) = [41] := rfl
      rw [e40, e41]
      simp
    have hc := pcut_at (fun hm => (nm_no40 k 40 hm).1 rfl) hb
    have hp : parseR (bytesOf (strOfNums (decL r 1) ++ ByteArray.mk #[41])) = r := by
      rw [bytesOf_append, dec_bytes (by omega), show bytesOf (ByteArray.mk #[41]) = [41] from rfl]
      exact parseR_dec (by omega)
    rw [parse, hc]
    simp only [hk, if_true, hp]
/-- What is read is a right slot, with that text. -/
theorem parse_ok {s : ByteArray} (h : (parse s).2.2 = true) : slotR (parse s).1 (parse s).2.1 ∧ stext (parse s).1 (parse s).2.1 = s := by
  unfold parse at h ⊢
  by_cases hk : (kindOf (pcut s).1).2 = true
  · rw [if_pos hk] at h ⊢
    by_cases ht : stext (kindOf (pcut s).1).1 (parseR (bytesOf (pcut s).2.1)) = s
    · rw [if_pos ht] at h ⊢
      refine ⟨?_, ht⟩
      by_cases hs : slotR (kindOf (pcut s).1).1 (parseR (bytesOf (pcut s).2.1))
      · exact hs
      · exfalso
        rw [stext, if_neg hs] at ht
        subst ht
        revert hk
        decide
    · rw [if_neg ht] at h
      cases h
  · rw [if_neg hk] at h
    cases h
theorem parse_no {s : ByteArray} (h : (parse s).2.2 = false) : (parse s).1 = 0 ∧ (parse s).2.1 = 0 := by
  unfold parse at h ⊢
  by_cases hk : (kindOf (pcut s).1).2 = true
  · rw [if_pos hk] at h ⊢
    by_cases ht : stext (kindOf (pcut s).1).1 (parseR (bytesOf (pcut s).2.1)) = s
    · rw [if_pos ht] at h
      cases h
    · rw [if_neg ht]
      exact ⟨rfl, rfl⟩
  · rw [if_neg hk]
    exact ⟨rfl, rfl⟩

theorem law5 (a b : Int) (s : ByteArray) (hs : s.size ≤ maxLen) (w : World) (hT : Tab w) : Ret Tryd.prog 5 #[slotV a b, .string s] w (.bool true) := by
  intro R h
  refine f5_calls a b s w R ?_
  unfold f5_vc
  have hA := At.refl w
  refine go_n hA fun n1 h_n1 => ?_
  refine go_below hA fun _ hA => ?_
  refine at_call hA (c16 _ hs _ (hT.at_ hA)) (fun _ hA hk => ?_)
  first | refine ⟨_, rfl, hk, ?_⟩ | refine ⟨_, _, rfl, hk, ?_⟩ | refine ⟨_, _, _, rfl, hk, ?_⟩ | refine ⟨_, _, _, _, rfl, hk, ?_⟩ | refine ⟨_, _, _, _, _, rfl, hk, ?_⟩ | refine ⟨_, _, _, _, _, _, rfl, hk, ?_⟩ | refine ⟨_, _, _, _, _, _, _, rfl, hk, ?_⟩ | refine ⟨_, _, _, _, _, _, _, _, rfl, hk, ?_⟩
  refine go_n hA fun n8 h_n8 => ?_
  refine go_evo hA (by intro d hd; simp at hd; omega) fun _ hA => ?_
  refine at_calll hA (c17 _) (fun _ _ => rfl) fun la lc w11 hA hk hb ho hsl => ⟨_, _, _, rfl, hk, fun n15 hn15 => ?_⟩
  have hl := allS_len 4
  have hsz := hA.size
  refine ⟨fun x W => At w [n1, n8, n15] W ∧ OwnL w [n1, n8, n15] W 23 2 slE (.slice la (allS 4).length lc) (allS 4) ∧ ∃ k : Nat, x.2.1 = k ∧ k ≤ 132 ∧ (x.1 = true → parse s = (x.2.2.1, x.2.2.2.1, true)) ∧ (x.1 = false → x.2.2.1 = 0 ∧ x.2.2.2.1 = 0 ∧ ∀ y ∈ (allS 4).take k, stext y.1 y.2 ≠ s), fun x _ => 132 - x.2.1.toNat, ?_, ?_⟩
  · refine go_evo_too hA (by intro d hd; simp at hd; omega) fun w18 hA hev => ⟨hA, ?_, 0, rfl, by omega, fun hf => (by cases hf), fun _ => ⟨rfl, rfl, fun y hy => by simp at hy⟩⟩
    exact (ho.more (gs' := [n1, n8, n15]) (by intro g h1 h2; simp at h1 h2; omega)).evo (by intro d hd h2; simp at hd h2; omega) hev
  rintro b19 i x21 x22 W ⟨hA, ho, k, hi, hk, hyes, hno⟩
  simp only at hi hyes hno
  subst hi
  refine brD (fun hlt => ?_) (fun hge => ?_)
  · obtain ⟨y, hy⟩ : ∃ y, (allS 4)[k]? = some y := ⟨_, List.getElem?_eq_getElem (by omega)⟩
    have hyR := all_mem.1 (List.mem_of_getElem? hy)
    have ht : (allS 4).take (k + 1) = (allS 4).take k ++ [y] := by rw [List.take_add_one, hy]; rfl
    have e1 : IntKind.i64.wrap ((k : Int) + 1) = ((k + 1 : Nat) : Int) := by rw [wrap_i64 (by omega) (by omega)]; rfl
    rw [e1]
    have hm : 132 - ((k + 1 : Nat) : Int).toNat < 132 - (k : Int).toNat := by omega
    have rd : ∀ {W : World}, OwnL w [n1, n8, n15] W 23 2 slE (.slice la (allS 4).length lc) (allS 4) → ∃ ad, Gives Tryd.prog (Instr.indexAt 40 (.slice la (allS 4).length lc) (.int .i64 (k : Int))) (.pointer (some ad)) ∧ Reads Tryd.prog [] (Instr.loadAt 23 (.pointer (some ad))) W (slotV y.1 y.2) := fun ho =>
      rd_agg (f := slE) (ho.sl (fun _ _ => rfl)) hy (e := 23) (by kernel_rfl) (by kernel_rfl) (by kernel_rfl) (by kernel_rfl) (fun _ h => by cases h)
    obtain ⟨ad, g1, r1⟩ := rd ho
    refine ⟨_, g1, _, _, r1, ?_⟩
    refine at_callb hA (c18 _ _ _) (fun w28 hA hk2 hb2 => ⟨_, rfl, hk2, ?_⟩)
    have ho := ho.call hb2
    rw [toList_eq]
    refine brD (fun he => ?_) (fun hne => ?_)
    · obtain ⟨ad2, g2, r2⟩ := rd ho
      refine ⟨_, g2, _, _, r2, ?_⟩
      have hsz := hA.size
      refine go_evo_too hA (by intro d hd; simp at hd; omega) fun w33 hA hev => ⟨⟨hA, ho.evo (by intro d hd h2; simp at hd h2; omega) hev, k + 1, rfl, by omega, fun _ => ?_, fun hf => (by cases hf)⟩, hm⟩
      rw [← he]
      exact parse_text hyR
    · refine ⟨⟨hA, ho, k + 1, rfl, by omega, hyes, fun hf => ?_⟩, hm⟩
      obtain ⟨h1, h2, h3⟩ := hno hf
      refine ⟨h1, h2, fun z hz => ?_⟩
      rw [ht] at hz
      rcases List.mem_append.1 hz with hz | hz
      · exact h3 z hz
      · simp at hz
        subst hz
        exact hne
  have hk132 : k = 132 := by omega
  subst hk132
  have hfin : (parse s).1 = x21 ∧ (parse s).2.1 = x22 ∧ (parse s).2.2 = b19 := by
    cases hb19 : b19 with
    | true =>
      rw [hyes hb19]
      exact ⟨rfl, rfl, rfl⟩
    | false =>
      obtain ⟨h1, h2, h3⟩ := hno hb19
      have hn : (parse s).2.2 = false := by
        cases hp : (parse s).2.2 with
        | false => rfl
        | true =>
          obtain ⟨hR, ht⟩ := parse_ok hp
          exact absurd ht (h3 ((parse s).1, (parse s).2.1) (by rw [List.take_of_length_le (by omega)]; exact all_mem.2 hR))
      obtain ⟨p1, p2⟩ := parse_no hn
      exact ⟨by rw [p1, h1], by rw [p2, h2], hn⟩
  obtain ⟨f1, f2, f3⟩ := hfin
  refine go_below hA fun _ hA => ?_
  refine at_call hA (c19 _ _ _ (hT.at_ hA)) (fun _ hA hk => ?_)
  first | refine ⟨_, rfl, hk, ?_⟩ | refine ⟨_, _, rfl, hk, ?_⟩ | refine ⟨_, _, _, rfl, hk, ?_⟩ | refine ⟨_, _, _, _, rfl, hk, ?_⟩ | refine ⟨_, _, _, _, _, rfl, hk, ?_⟩ | refine ⟨_, _, _, _, _, _, rfl, hk, ?_⟩ | refine ⟨_, _, _, _, _, _, _, rfl, hk, ?_⟩ | refine ⟨_, _, _, _, _, _, _, _, rfl, hk, ?_⟩
  refine at_call hA (c18 _ _ _) (fun _ hA hk => ?_)
  first | refine ⟨_, rfl, hk, ?_⟩ | refine ⟨_, _, rfl, hk, ?_⟩ | refine ⟨_, _, _, rfl, hk, ?_⟩ | refine ⟨_, _, _, _, rfl, hk, ?_⟩ | refine ⟨_, _, _, _, _, rfl, hk, ?_⟩ | refine ⟨_, _, _, _, _, _, rfl, hk, ?_⟩ | refine ⟨_, _, _, _, _, _, _, rfl, hk, ?_⟩ | refine ⟨_, _, _, _, _, _, _, _, rfl, hk, ?_⟩
  rw [toList_eq, f1, f2, f3]
  refine ⟨fun _ => ⟨fun _ => ⟨fun _ => ?_, fun hf => by simp at hf⟩, fun hf => by simp at hf⟩, fun hf => by simp at hf⟩
  refine at_call hA (c9 _ (hT.at_ hA)) (fun _ hA hk => ?_)
  first | refine ⟨_, rfl, hk, ?_⟩ | refine ⟨_, _, rfl, hk, ?_⟩ | refine ⟨_, _, _, rfl, hk, ?_⟩ | refine ⟨_, _, _, _, rfl, hk, ?_⟩ | refine ⟨_, _, _, _, _, rfl, hk, ?_⟩ | refine ⟨_, _, _, _, _, _, rfl, hk, ?_⟩ | refine ⟨_, _, _, _, _, _, _, rfl, hk, ?_⟩ | refine ⟨_, _, _, _, _, _, _, _, rfl, hk, ?_⟩
  exact leaf h hA rfl
end Go.Vc.D
