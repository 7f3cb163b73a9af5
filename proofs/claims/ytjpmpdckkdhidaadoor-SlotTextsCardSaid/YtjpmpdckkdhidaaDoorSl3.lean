/- Own text of this claim: Sl3. -/
import Derived.Test.YtjpmpdckkdhidaaDoorSl2
set_option maxRecDepth 20000
namespace Go.Vc.D
open Go Go.Vc Go.RowKit Go.Proofs Vcd

theorem pack_range (k r : Int) : 0 ≤ pack k r ∧ pack k r ≤ 131 := by
  unfold pack
  split
  · rename_i h
    unfold slotR at h
    omega
  · omega
theorem pack_inj {a b c d : Int} (h1 : slotR a b) (h2 : slotR c d) : (pack a b = pack c d) ↔ (a = c ∧ b = d) := by
  rw [pack, pack, if_pos h1, if_pos h2]
  unfold slotR at h1 h2
  omega

theorem law3 (a b c d n : Int) (hn : 0 ≤ n ∧ n < 65536) (w : World) (hT : Tab w) : Ret Tryd.prog 3 #[slotV a b, slotV c d, .int .u16 n] w (.bool true) := by
  intro R h
  refine f3_calls a b c d n w R ?_
  unfold f3_vc
  have hA := At.refl w
  refine go_n hA fun n1 h_n1 => ?_
  refine go_n hA fun n2 h_n2 => ?_
  refine go_below hA fun _ hA => ?_
  refine at_call hA (c6 _ _ _) (fun _ hA hk => ?_)
  first | refine ⟨_, rfl, hk, ?_⟩ | refine ⟨_, _, rfl, hk, ?_⟩ | refine ⟨_, _, _, rfl, hk, ?_⟩ | refine ⟨_, _, _, _, rfl, hk, ?_⟩ | refine ⟨_, _, _, _, _, rfl, hk, ?_⟩ | refine ⟨_, _, _, _, _, _, rfl, hk, ?_⟩ | refine ⟨_, _, _, _, _, _, _, rfl, hk, ?_⟩ | refine ⟨_, _, _, _, _, _, _, _, rfl, hk, ?_⟩
  refine at_call hA (c6 _ _ _) (fun _ hA hk => ?_)
  first | refine ⟨_, rfl, hk, ?_⟩ | refine ⟨_, _, rfl, hk, ?_⟩ | refine ⟨_, _, _, rfl, hk, ?_⟩ | refine ⟨_, _, _, _, rfl, hk, ?_⟩ | refine ⟨_, _, _, _, _, rfl, hk, ?_⟩ | refine ⟨_, _, _, _, _, _, rfl, hk, ?_⟩ | refine ⟨_, _, _, _, _, _, _, rfl, hk, ?_⟩ | refine ⟨_, _, _, _, _, _, _, _, rfl, hk, ?_⟩
  refine ⟨fun s W => At w [n1, n2] W ∧ s.1 = false, ?_, ?_⟩
  · refine at_call hA (c7 _ _ _) (fun w14 hA hk => ⟨_, rfl, hk, ?_⟩)
    by_cases ha : slotR a b
    · have hp : pack a b = 4 * b + a := if_pos ha
      have hi : IntKind.i64.wrap (pack a b) = IntKind.i64.wrap (IntKind.i64.wrap (4 * b) + a) := by
        have ha' := ha
        unfold slotR at ha'
        rw [hp, wrap_i64 (x := 4 * b) (by omega) (by omega)]
      by_cases hc : slotR c d
      · have he : (pack a b == pack c d) = (a == c && (b == d && true)) := by
          rw [Bool.eq_iff_iff]
          simp [pack_inj ha hc]
        simp [ha, hc, hi, he, hA]
      · simp [ha, hc, hi, hA]
    · have hp : pack a b = 0 := if_neg ha
      simp [ha, hp, hA]
  rintro b16 W ⟨hA, hb⟩
  simp only at hb
  subst hb
  refine brB (fun hf => by cases hf) (fun _ => ?_)
  have c8' : ∀ (m : Int), 0 ≤ m → m < 65536 → ∀ W, Ret Tryd.prog 8 #[.int .u16 m] W (.tuple #[slotV (if m ≤ 131 then m % 4 else 0) (if m ≤ 131 then m / 4 else 0), .bool (decide (m ≤ 131))]) := by
    intro m h0 h1 W
    have := c8 m h0 h1 W
    by_cases hm : m ≤ 131
    · simp only [if_pos hm, decide_eq_true hm] at this ⊢
      exact this
    · simp only [if_neg hm, decide_eq_false hm] at this ⊢
      exact this
  have hpr := pack_range a b
  refine ⟨fun _ W => At w [n1, n2] W, brD (fun ha => ?_) (fun ha => hA), ?_⟩
  · refine at_call hA (c8' _ hpr.1 (by omega) _) (fun w20 hA hk => ⟨_, _, _, rfl, hk, ?_⟩)
    rw [if_pos hpr.2, if_pos hpr.2, decide_eq_true hpr.2]
    refine go_n hA fun n24 h_n24 => ?_
    refine ⟨fun hf => (by cases hf), fun _ => ⟨fun hf => ?_, fun _ => go_evo hA (by intro d hd; simp at hd; omega) fun _ hA => hA.sub (by simp)⟩⟩
    exfalso
    have ha' := ha
    unfold slotR at ha'
    rw [pack, if_pos ha] at hf
    simp at hf
    omega
  intro W hA
  refine at_call hA (c8' n hn.1 hn.2 _) (fun w30 hA hk => ⟨_, _, _, rfl, hk, ?_⟩)
  refine go_n hA fun n34 h_n34 => ?_
  refine brD (fun hle => ?_) (fun hgt => brD (fun _ => ?_) (fun hf => by omega))
  · refine go_evo hA (by intro d hd; simp at hd; omega) fun _ hA => ?_
    have hs : slotR (n % 4) (n / 4) := ⟨by omega, by omega, by omega, by omega⟩
    rw [if_pos hle, if_pos hle]
    refine at_call hA (c6 _ _ _) (fun _ hA hk => ?_)
    first | refine ⟨_, rfl, hk, ?_⟩ | refine ⟨_, _, rfl, hk, ?_⟩ | refine ⟨_, _, _, rfl, hk, ?_⟩ | refine ⟨_, _, _, _, rfl, hk, ?_⟩ | refine ⟨_, _, _, _, _, rfl, hk, ?_⟩ | refine ⟨_, _, _, _, _, _, rfl, hk, ?_⟩ | refine ⟨_, _, _, _, _, _, _, rfl, hk, ?_⟩ | refine ⟨_, _, _, _, _, _, _, _, rfl, hk, ?_⟩
    have hpk : pack (n % 4) (n / 4) = n := by rw [pack, if_pos hs]; omega
    refine brD (fun _ => brE (fun _ => ?_) (fun hne => absurd hpk hne)) (fun hf => absurd hs hf)
    refine at_call hA (c9 _ (hT.at_ hA)) (fun _ hA hk => ?_)
    first | refine ⟨_, rfl, hk, ?_⟩ | refine ⟨_, _, rfl, hk, ?_⟩ | refine ⟨_, _, _, rfl, hk, ?_⟩ | refine ⟨_, _, _, _, rfl, hk, ?_⟩ | refine ⟨_, _, _, _, _, rfl, hk, ?_⟩ | refine ⟨_, _, _, _, _, _, rfl, hk, ?_⟩ | refine ⟨_, _, _, _, _, _, _, rfl, hk, ?_⟩ | refine ⟨_, _, _, _, _, _, _, _, rfl, hk, ?_⟩
    exact leaf h hA rfl
  · rw [if_neg hgt, if_neg hgt]
    refine ⟨fun _ => ?_, fun hf => by simp at hf⟩
    refine go_evo hA (by intro d hd; simp at hd; omega) fun _ hA => ?_
    refine at_call hA (c9 _ (hT.at_ hA)) (fun _ hA hk => ?_)
    first | refine ⟨_, rfl, hk, ?_⟩ | refine ⟨_, _, rfl, hk, ?_⟩ | refine ⟨_, _, _, rfl, hk, ?_⟩ | refine ⟨_, _, _, _, rfl, hk, ?_⟩ | refine ⟨_, _, _, _, _, rfl, hk, ?_⟩ | refine ⟨_, _, _, _, _, _, rfl, hk, ?_⟩ | refine ⟨_, _, _, _, _, _, _, rfl, hk, ?_⟩ | refine ⟨_, _, _, _, _, _, _, _, rfl, hk, ?_⟩
    exact leaf h hA rfl

/-- What the first names say of a name. -/
def wantK (s : ByteArray) (k : Nat) : Int × Bool := ((List.range k).foldl (fun (p : Int × Bool) (i : Nat) => if nms[i]? = some s then ((i : Int), true) else p) (0, false))
theorem want_all (s : ByteArray) : wantK s 4 = kindOf s := by
  have e : wantK s 4 = (if nms[3]? = some s then ((3 : Int), true) else if nms[2]? = some s then (2, true) else if nms[1]? = some s then (1, true) else if nms[0]? = some s then (0, true) else (0, false)) := rfl
  rw [e]
  have n01 : sCpus ≠ sMem := by decide
  have n02 : sCpus ≠ sDisk := by decide
  have n03 : sCpus ≠ sGpus := by decide
  have n12 : sMem ≠ sDisk := by decide
  have n13 : sMem ≠ sGpus := by decide
  have n23 : sDisk ≠ sGpus := by decide
  have e0 : nms[0]? = some sCpus := rfl
  have e1 : nms[1]? = some sMem := rfl
  have e2 : nms[2]? = some sDisk := rfl
  have e3 : nms[3]? = some sGpus := rfl
  rw [e0, e1, e2, e3]
  unfold kindOf
  simp only [Option.some.injEq]
  by_cases h0 : s = sCpus
  · subst h0
    simp [n01.symm, n02.symm, n03.symm]
  · by_cases h1 : s = sMem
    · subst h1
      simp [n01.symm, n12.symm, n13.symm]
    · by_cases h2 : s = sDisk
      · subst h2
        simp [n02.symm, n12.symm, n23.symm]
      · by_cases h3 : s = sGpus
        · subst h3
          simp [n03.symm, n13.symm, n23.symm]
        · rw [if_neg (Ne.symm h3), if_neg (Ne.symm h2), if_neg (Ne.symm h1), if_neg (Ne.symm h0), if_neg h0, if_neg h1, if_neg h2, if_neg h3]
theorem want_succ (s : ByteArray) (k : Nat) : wantK s (k + 1) = if nms[k]? = some s then ((k : Int), true) else wantK s k := by
  unfold wantK
  rw [List.range_succ, List.foldl_append]
  rfl

theorem law4 (a b c d : Int) (s : ByteArray) (w : World) (hT : Tab w) : Ret Tryd.prog 4 #[slotV a b, slotV c d, .string s] w (.bool true) := by
  intro R h
  refine f4_calls a b c d s w R ?_
  unfold f4_vc
  have hA := At.refl w
  refine go_n hA fun n1 h_n1 => ?_
  refine go_n hA fun n2 h_n2 => ?_
  refine go_below hA fun _ hA => ?_
  refine at_call hA (c10 _ _ (hT.at_ hA)) (fun _ hA hk => ?_)
  first | refine ⟨_, rfl, hk, ?_⟩ | refine ⟨_, _, rfl, hk, ?_⟩ | refine ⟨_, _, _, rfl, hk, ?_⟩ | refine ⟨_, _, _, _, rfl, hk, ?_⟩ | refine ⟨_, _, _, _, _, rfl, hk, ?_⟩ | refine ⟨_, _, _, _, _, _, rfl, hk, ?_⟩ | refine ⟨_, _, _, _, _, _, _, rfl, hk, ?_⟩ | refine ⟨_, _, _, _, _, _, _, _, rfl, hk, ?_⟩
  refine at_calll hA (c11 _) (fun _ _ => rfl) fun la lc w9 hA hk hb ho hsl => ⟨_, _, _, rfl, hk, ?_⟩
  refine ⟨fun x W => At w [n1, n2] W ∧ OwnL w [n1, n2] W 9 1 strE (.slice la nms.length lc) nms ∧ ∃ k : Nat, x.2.2.2.1 = k ∧ k ≤ 4 ∧ (x.1, x.2.1) = wantK s k ∧ x.2.2.1 = (if 0 ≤ a ∧ a < k then nmOf a else ByteArray.mk #[]), fun x _ => 4 - x.2.2.2.1.toNat,
    ⟨hA, ho, 0, rfl, by omega, rfl, by rw [if_neg (by omega)]⟩, ?_⟩
  rintro x15 b16 s17 i W ⟨hA, ho, k, hi, hk4, hw, hn⟩
  simp only at hi hw hn
  subst hi
  have hl4 : nms.length = 4 := rfl
  refine brD (fun hlt => ?_) (fun hge => ?_)
  · have hk3 : k < 4 := by omega
    obtain ⟨ad, g1, r1⟩ := rd_one (te := 9) (ds := []) (k := .i64) (t := 34) (P := Tryd.prog) (e := 9) (ho.sl (fun _ _ => rfl)) (nm_at hk3) rfl (by kernel_rfl) (by kernel_rfl) (by kernel_rfl) (fun _ h => by cases h)
    have e1 : IntKind.i64.wrap ((k : Int) + 1) = ((k + 1 : Nat) : Int) := by rw [wrap_i64 (by omega) (by omega)]; rfl
    rw [e1]
    have hm : 4 - ((k + 1 : Nat) : Int).toNat < 4 - (k : Int).toNat := by omega
    have own1 : (k : Int) = a → nmOf k = (if 0 ≤ a ∧ a < ((k + 1 : Nat) : Int) then nmOf a else ByteArray.mk #[]) := fun he => by rw [if_pos (by omega), he]
    have own2 : (k : Int) ≠ a → s17 = (if 0 ≤ a ∧ a < ((k + 1 : Nat) : Int) then nmOf a else ByteArray.mk #[]) := fun he => by
      rw [hn]
      by_cases hc : 0 ≤ a ∧ a < (k : Int)
      · rw [if_pos hc, if_pos (by omega)]
      · rw [if_neg hc, if_neg (by omega)]
    have ws := want_succ s k
    rw [nm_at hk3] at ws
    refine ⟨_, g1, _, r1, ?_⟩
    rw [toList_eq]
    refine brD (fun he => ?_) (fun he => ?_)
    · rw [if_pos (by rw [he])] at ws
      refine brE (fun ha => ⟨_, g1, _, r1, ⟨hA, ho, k + 1, rfl, by omega, ws.symm, own1 ha⟩, hm⟩) (fun ha => ⟨⟨hA, ho, k + 1, rfl, by omega, ws.symm, own2 ha⟩, hm⟩)
    · rw [if_neg (fun hh => he (Option.some.inj hh))] at ws
      refine brE (fun ha => ⟨_, g1, _, r1, ⟨hA, ho, k + 1, rfl, by omega, by rw [ws]; exact hw, own1 ha⟩, hm⟩) (fun ha => ⟨⟨hA, ho, k + 1, rfl, by omega, by rw [ws]; exact hw, own2 ha⟩, hm⟩)
  have hk : k = 4 := by omega
  subst hk
  rw [want_all] at hw
  have hnm : s17 = nmOf a := by
    have hn' : s17 = if 0 ≤ a ∧ a < 4 then nmOf a else ByteArray.mk #[] := hn
    rw [hn']
    by_cases hc : 0 ≤ a ∧ a < 4
    · rw [if_pos hc]
    · rw [if_neg hc, nmOf, if_neg hc]
  refine go_below hA fun _ hA => ?_
  refine at_call hA (c12 _ _ _ _ _) (fun _ hA hk => ?_)
  first | refine ⟨_, rfl, hk, ?_⟩ | refine ⟨_, _, rfl, hk, ?_⟩ | refine ⟨_, _, _, rfl, hk, ?_⟩ | refine ⟨_, _, _, _, rfl, hk, ?_⟩ | refine ⟨_, _, _, _, _, rfl, hk, ?_⟩ | refine ⟨_, _, _, _, _, _, rfl, hk, ?_⟩ | refine ⟨_, _, _, _, _, _, _, rfl, hk, ?_⟩ | refine ⟨_, _, _, _, _, _, _, _, rfl, hk, ?_⟩
  refine at_call hA (c13 _ _ _ _ _) (fun _ hA hk => ?_)
  first | refine ⟨_, rfl, hk, ?_⟩ | refine ⟨_, _, rfl, hk, ?_⟩ | refine ⟨_, _, _, rfl, hk, ?_⟩ | refine ⟨_, _, _, _, rfl, hk, ?_⟩ | refine ⟨_, _, _, _, _, rfl, hk, ?_⟩ | refine ⟨_, _, _, _, _, _, rfl, hk, ?_⟩ | refine ⟨_, _, _, _, _, _, _, rfl, hk, ?_⟩ | refine ⟨_, _, _, _, _, _, _, _, rfl, hk, ?_⟩
  refine brE (fun _ => ?_) (fun hne => absurd rfl hne)
  refine at_call hA (c7 _ _ _) (fun _ hA hk => ?_)
  first | refine ⟨_, rfl, hk, ?_⟩ | refine ⟨_, _, rfl, hk, ?_⟩ | refine ⟨_, _, _, rfl, hk, ?_⟩ | refine ⟨_, _, _, _, rfl, hk, ?_⟩ | refine ⟨_, _, _, _, _, rfl, hk, ?_⟩ | refine ⟨_, _, _, _, _, _, rfl, hk, ?_⟩ | refine ⟨_, _, _, _, _, _, _, rfl, hk, ?_⟩ | refine ⟨_, _, _, _, _, _, _, _, rfl, hk, ?_⟩
  refine at_call hA (c14 _ _ _) (fun _ hA hk => ?_)
  first | refine ⟨_, rfl, hk, ?_⟩ | refine ⟨_, _, rfl, hk, ?_⟩ | refine ⟨_, _, _, rfl, hk, ?_⟩ | refine ⟨_, _, _, _, rfl, hk, ?_⟩ | refine ⟨_, _, _, _, _, rfl, hk, ?_⟩ | refine ⟨_, _, _, _, _, _, rfl, hk, ?_⟩ | refine ⟨_, _, _, _, _, _, _, rfl, hk, ?_⟩ | refine ⟨_, _, _, _, _, _, _, _, rfl, hk, ?_⟩
  refine brE (fun _ => ?_) (fun hne => absurd rfl hne)
  refine at_call hA (c15 _ _ (hT.at_ hA)) (fun _ hA hk => ?_)
  first | refine ⟨_, rfl, hk, ?_⟩ | refine ⟨_, _, rfl, hk, ?_⟩ | refine ⟨_, _, _, rfl, hk, ?_⟩ | refine ⟨_, _, _, _, rfl, hk, ?_⟩ | refine ⟨_, _, _, _, _, rfl, hk, ?_⟩ | refine ⟨_, _, _, _, _, _, rfl, hk, ?_⟩ | refine ⟨_, _, _, _, _, _, _, rfl, hk, ?_⟩ | refine ⟨_, _, _, _, _, _, _, _, rfl, hk, ?_⟩
  rw [toList_eq]
  refine brD (fun _ => brE (fun _ => brE (fun _ => ?_) (fun hne => absurd ?_ hne)) (fun hne => absurd ?_ hne)) (fun hne => absurd hnm.symm hne)
  · refine at_call hA (c9 _ (hT.at_ hA)) (fun _ hA hk => ?_)
    first | refine ⟨_, rfl, hk, ?_⟩ | refine ⟨_, _, rfl, hk, ?_⟩ | refine ⟨_, _, _, rfl, hk, ?_⟩ | refine ⟨_, _, _, _, rfl, hk, ?_⟩ | refine ⟨_, _, _, _, _, rfl, hk, ?_⟩ | refine ⟨_, _, _, _, _, _, rfl, hk, ?_⟩ | refine ⟨_, _, _, _, _, _, _, rfl, hk, ?_⟩ | refine ⟨_, _, _, _, _, _, _, _, rfl, hk, ?_⟩
    exact leaf h hA rfl
  · rw [← hw]
  · rw [← hw]
end Go.Vc.D
