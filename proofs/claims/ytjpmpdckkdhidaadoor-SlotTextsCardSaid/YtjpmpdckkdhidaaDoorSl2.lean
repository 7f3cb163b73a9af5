/- Own text of this claim: Sl2. -/
import Derived.Test.YtjpmpdckkdhidaaDoorSl1
set_option maxRecDepth 20000
namespace Go.Vc.D
open Go Go.Vc Go.RowKit Go.Proofs Vcd

abbrev strE (s : ByteArray) : List Value := [.string s]

theorem c11 (w : World) : RetL Tryd.prog 11 #[] w 9 1 strE nms := by
  intro R h
  refine f11_calls w R ?_
  unfold f11_vc
  have hA := At.refl w
  refine opw_litL (e' := 9) (f := strE) (l := nms) (size := 1) hA rfl (fun _ _ => rfl) (by decide) (by kernel_rfl) fun g w' _ hA _ _ ho => ⟨_, _, _, rfl, ?_⟩
  exact leafl h hA ho rfl

def nmOf (k : Int) : ByteArray := if 0 ≤ k ∧ k < 4 then (nms[k.toNat]?).getD (ByteArray.mk #[]) else ByteArray.mk #[]
theorem nm_at {k : Nat} (h : k < 4) : nms[k]? = some (nmOf k) := by
  unfold nmOf
  rw [if_pos (by omega)]
  have hc : k = 0 ∨ k = 1 ∨ k = 2 ∨ k = 3 := by omega
  rcases hc with rfl | rfl | rfl | rfl <;> rfl
theorem nm_small (k : Int) : (nmOf k).size ≤ 4 := by
  unfold nmOf
  split
  · rename_i h
    have hc : k = 0 ∨ k = 1 ∨ k = 2 ∨ k = 3 := by omega
    rcases hc with rfl | rfl | rfl | rfl <;> decide
  · decide

theorem c15 (k : Int) (w : World) (hT : Tab w) : Ret Tryd.prog 15 #[.int .i64 k] w (.string (nmOf k)) := by
  intro R h
  refine f15_calls k w R ?_
  unfold f15_vc
  have hA := At.refl w
  refine at_call hA (c20 _ hT) (fun w2 hA hk => ⟨_, _, _, _, rfl, ?_⟩)
  refine opw_allocArr (n := 1) (size := 4) (f := fun x : ByteArray × ByteArray × ByteArray × ByteArray => [.string x.1, .string x.2.1, .string x.2.2.1, .string x.2.2.2]) (z := (ByteArray.mk #[], ByteArray.mk #[], ByteArray.mk #[], ByteArray.mk #[])) hA (zv := .agg #[.string (ByteArray.mk #[]), .string (ByteArray.mk #[]), .string (ByteArray.mk #[]), .string (ByteArray.mk #[])]) (by kernel_rfl) rfl rfl (by decide) fun w8 hA hk ho => ⟨_, rfl, ?_⟩
  generalize hg : w2.heap.size = g at ho ⊢
  refine opw_store (y := (sCpus, sMem, sDisk, sGpus)) (i := 0) hA ho (fun _ _ => rfl) (by simp) rfl rfl rfl (by kernel_rfl) (fun w11 hA _ _ ho => ?_) (fun g' hg' => by cases hg'; simp)
  refine brD (fun hlt => leaf h hA ?_) (fun hge => brD (fun hgt => leaf h hA ?_) (fun hle => ?_))
  · rw [nmOf, if_neg (by omega)]
  · rw [nmOf, if_neg (by omega)]
  obtain ⟨q, rfl⟩ : ∃ q : Nat, k = q := ⟨k.toNat, by omega⟩
  obtain ⟨b, cs, hb, hl, hcs, rfl⟩ := (ho.sl (fun _ _ => rfl)).at_ (i := 0) rfl
  cases hb
  have hcell : w11.cell? (Addr.add ⟨g, 0, none⟩ (q * 1)) = some (.string (nmOf q)) := by
    have hx : [Value.string sCpus, .string sMem, .string sDisk, .string sGpus][q]? = some (.string (nmOf q)) := by
      have := nm_at (k := q) (by omega)
      have h2 := congrArg (Option.map Value.string) this
      rw [← List.getElem?_map] at h2
      exact h2
    have := hcs q _ hx
    rw [Nat.zero_mul, addr_add0] at this
    rwa [Nat.mul_one]
  exact ⟨_, gives_index_arr (e := 9) (n := 1) (by kernel_rfl) (by kernel_rfl) (by omega : q < 4), _, reads_one (by kernel_rfl) no_ds hcell, leaf h hA rfl⟩

theorem c22 (n : Int) (h0 : 0 ≤ n) (h1 : n ≤ 9223372036854775807) (w : World) : Ret Tryd.prog 22 #[.int .i64 n] w (.string (strOfNums (decL n 1))) := by
  intro R h
  refine f22_calls n w R ?_
  unfold f22_vc
  have hA := At.refl w
  refine brD (fun hlt => ?_) (fun hge => ?_)
  · have e : IntKind.u8.wrap (IntKind.i64.wrap (48 + n)) = 48 + n := by
      rw [wrap_i64 (by omega) (by omega), wrap_u8]
      omega
    rw [e]
    refine opw_bytes0 (e := 5) (l := [48 + n]) hA rfl (by decide) (by kernel_rfl) (by kernel_rfl) (by kernel_rfl) (by kernel_rfl) fun w' hA _ => leaf h hA (by rw [digit1 ⟨h0, by omega⟩])
  · rw [Int.tdiv_eq_ediv_of_nonneg h0, Int.tmod_eq_emod_of_nonneg h0, wrap_i64 (x := n / 10) (by omega) (by omega)]
    refine at_call hA (c22 (n / 10) (by omega) (by omega) _) (fun _ hA hk => ⟨_, rfl, ?_⟩)
    refine at_call hA (c22 (n % 10) (by omega) (by omega) _) (fun _ hA hk => ⟨_, rfl, ?_⟩)
    have d1 := dec_small (n := n / 10) (by omega)
    have d2 := dec_small (n := n % 10) (by omega)
    refine ⟨_, gives_sadd (by omega), ?_⟩
    refine leaf h hA ?_
    rw [strOfNums_append, digit1 (d := n % 10) (by omega), decL.eq_def n 1, if_pos (.inl (by omega)), decL_one _ (1 - 1) (by omega)]
termination_by n.toNat
decreasing_by
  all_goals omega

noncomputable def stext (k r : Int) : ByteArray := if slotR k r then (if r = 0 then nmOf k else nmOf k ++ ByteArray.mk #[40] ++ strOfNums (decL r 1) ++ ByteArray.mk #[41]) else ByteArray.mk #[]

theorem c19 (k r : Int) (w : World) (hT : Tab w) : Ret Tryd.prog 19 #[slotV k r] w (.string (stext k r)) := by
  intro R h
  refine f19_calls k r w R ?_
  unfold f19_vc
  have hA := At.refl w
  refine go_n hA fun n1 h_n1 => ?_
  refine go_below hA fun _ hA => ?_
  refine at_call hA (c7 _ _ _) (fun _ hA hk => ?_)
  first | refine ⟨_, rfl, hk, ?_⟩ | refine ⟨_, _, rfl, hk, ?_⟩ | refine ⟨_, _, _, rfl, hk, ?_⟩ | refine ⟨_, _, _, _, rfl, hk, ?_⟩ | refine ⟨_, _, _, _, _, rfl, hk, ?_⟩ | refine ⟨_, _, _, _, _, _, rfl, hk, ?_⟩ | refine ⟨_, _, _, _, _, _, _, rfl, hk, ?_⟩ | refine ⟨_, _, _, _, _, _, _, _, rfl, hk, ?_⟩
  refine brND (fun hn => leaf h hA (by rw [stext, if_neg hn])) (fun hs => ?_)
  have hs' := hs
  unfold slotR at hs'
  refine brE (fun h0 => ?_) (fun h0 => ?_)
  · refine at_call hA (c15 _ _ (hT.at_ hA)) (fun _ hA hk => ?_)
    first | refine ⟨_, rfl, hk, ?_⟩ | refine ⟨_, _, rfl, hk, ?_⟩ | refine ⟨_, _, _, rfl, hk, ?_⟩ | refine ⟨_, _, _, _, rfl, hk, ?_⟩ | refine ⟨_, _, _, _, _, rfl, hk, ?_⟩ | refine ⟨_, _, _, _, _, _, rfl, hk, ?_⟩ | refine ⟨_, _, _, _, _, _, _, rfl, hk, ?_⟩ | refine ⟨_, _, _, _, _, _, _, _, rfl, hk, ?_⟩
    exact leaf h hA (by rw [stext, if_pos hs, if_pos h0])
  refine go_below hA fun _ hA => ?_
  refine at_call hA (c15 _ _ (hT.at_ hA)) (fun _ hA hk => ?_)
  first | refine ⟨_, rfl, hk, ?_⟩ | refine ⟨_, _, rfl, hk, ?_⟩ | refine ⟨_, _, _, rfl, hk, ?_⟩ | refine ⟨_, _, _, _, rfl, hk, ?_⟩ | refine ⟨_, _, _, _, _, rfl, hk, ?_⟩ | refine ⟨_, _, _, _, _, _, rfl, hk, ?_⟩ | refine ⟨_, _, _, _, _, _, _, rfl, hk, ?_⟩ | refine ⟨_, _, _, _, _, _, _, _, rfl, hk, ?_⟩
  have s1 := nm_small k
  have s2 : (ByteArray.mk #[40]).size = 1 := rfl
  have s3 : (ByteArray.mk #[41]).size = 1 := rfl
  have d1 := dec_small (n := r) (by omega)
  refine ⟨_, gives_sadd (by omega), ?_⟩
  refine at_call hA (c22 r (by omega) (by omega) _) (fun _ hA hk => ?_)
  first | refine ⟨_, rfl, hk, ?_⟩ | refine ⟨_, _, rfl, hk, ?_⟩ | refine ⟨_, _, _, rfl, hk, ?_⟩ | refine ⟨_, _, _, _, rfl, hk, ?_⟩ | refine ⟨_, _, _, _, _, rfl, hk, ?_⟩ | refine ⟨_, _, _, _, _, _, rfl, hk, ?_⟩ | refine ⟨_, _, _, _, _, _, _, rfl, hk, ?_⟩ | refine ⟨_, _, _, _, _, _, _, _, rfl, hk, ?_⟩
  refine ⟨_, gives_sadd (by rw [ByteArray.size_append]; omega), _, gives_sadd (by rw [ByteArray.size_append, ByteArray.size_append]; omega), ?_⟩
  exact leaf h hA (by rw [stext, if_pos hs, if_neg h0])

theorem dec2 {r : Int} (h1 : 10 ≤ r) (h2 : r < 100) : decL r 1 = [48 + r / 10, 48 + r % 10] := by
  rw [decL, if_pos (.inl h1), decL_one _ _ (by omega), digit1 (by omega)]
  rfl

theorem c18 (k r : Int) (w : World) : Ret Tryd.prog 18 #[slotV k r] w (.string (stext k r)) := by
  intro R h
  refine f18_calls k r w R ?_
  unfold f18_vc
  have hA := At.refl w
  refine go_n hA fun n1 h_n1 => ?_
  refine go_below hA fun _ hA => ?_
  refine at_call hA (c14 _ _ _) (fun _ hA hk => ?_)
  first | refine ⟨_, rfl, hk, ?_⟩ | refine ⟨_, _, rfl, hk, ?_⟩ | refine ⟨_, _, _, rfl, hk, ?_⟩ | refine ⟨_, _, _, _, rfl, hk, ?_⟩ | refine ⟨_, _, _, _, _, rfl, hk, ?_⟩ | refine ⟨_, _, _, _, _, _, rfl, hk, ?_⟩ | refine ⟨_, _, _, _, _, _, _, rfl, hk, ?_⟩ | refine ⟨_, _, _, _, _, _, _, _, rfl, hk, ?_⟩
  refine brND (fun hn => leaf h hA (by rw [stext, if_neg hn])) (fun hs => ?_)
  have hs' := hs
  unfold slotR at hs'
  refine go_below hA fun _ hA => ?_
  refine at_calll hA (c11 _) (fun _ _ => rfl) fun a c w8 hA hk hb ho hsl => ⟨_, _, _, rfl, hk, ?_⟩
  obtain ⟨q, rfl⟩ : ∃ q : Nat, k = q := ⟨k.toNat, by omega⟩
  obtain ⟨ad, g1, r1⟩ := rd_one (te := 9) (ds := []) (k := .i64) (t := 34) (P := Tryd.prog) (e := 9) hsl (nm_at (k := q) (by omega)) rfl (by kernel_rfl) (by kernel_rfl) (by kernel_rfl) (fun _ h => by cases h)
  refine ⟨_, g1, _, r1, brE (fun h0 => leaf h hA (by rw [stext, if_pos hs, if_pos h0])) (fun h0 => ?_)⟩
  have s1 := nm_small q
  have s2 : (ByteArray.mk #[40]).size = 1 := rfl
  have s3 : (ByteArray.mk #[41]).size = 1 := rfl
  have d1 := dec_small (n := r) (by omega)
  have fin : ∀ {l : List Int} W, decL r 1 = l → At w [n1] W → ∃ s, Gives Tryd.prog (binOpS .add 9 (.tmp 0) (.tmp 0) (.string (nmOf q ++ ByteArray.mk #[40])) (.string (strOfNums l))) (.string s) ∧ ∃ s2, Gives Tryd.prog (binOpS .add 9 (.tmp 0) (.const (.string (ByteArray.mk #[41]))) (.string s) (.string (ByteArray.mk #[41]))) (.string s2) ∧ R (.returned (.string s2)) W := by
    intro l W hl hA
    subst hl
    exact ⟨_, gives_sadd (by rw [ByteArray.size_append]; omega), _, gives_sadd (by rw [ByteArray.size_append, ByteArray.size_append]; omega), leaf h hA (by rw [stext, if_pos hs, if_neg h0])⟩
  refine brD (fun hlt => ?_) (fun hge => ?_)
  · have e : IntKind.u8.wrap (IntKind.i64.wrap (48 + r)) = 48 + r := by
      rw [wrap_i64 (by omega) (by omega), wrap_u8]
      omega
    rw [e]
    refine ⟨_, gives_sadd (by omega), ?_⟩
    refine opw_litL (f := u8e) (l := [48 + r]) (size := 1) (e' := 5) hA rfl (fun _ _ => rfl) (by decide) (by kernel_rfl) fun g w' _ hA hk _ ho => ⟨_, _, _, rfl, hk, ?_⟩
    refine opw_b2s (e := 5) (by kernel_rfl) (by kernel_rfl) (by kernel_rfl) (ho.sl (by simp)) ⟨_, rfl, fun _ _ => rfl, ?_⟩
    obtain ⟨s, g1, s2, g2, hr⟩ := fin w' (digit1 (d := r) (by omega)) hA
    exact ⟨s, g1, s2, g2, hr⟩
  · rw [Int.tdiv_eq_ediv_of_nonneg (by omega), Int.tmod_eq_emod_of_nonneg (by omega)]
    have e : IntKind.u8.wrap (IntKind.i64.wrap (48 + IntKind.i64.wrap (r / 10))) = 48 + r / 10 := by
      rw [wrap_i64 (x := r / 10) (by omega) (by omega), wrap_i64 (by omega) (by omega), wrap_u8]
      omega
    have e2 : IntKind.u8.wrap (IntKind.i64.wrap (48 + r % 10)) = 48 + r % 10 := by
      rw [wrap_i64 (by omega) (by omega), wrap_u8]
      omega
    rw [e, e2]
    refine ⟨_, gives_sadd (by omega), ?_⟩
    refine opw_litL (f := u8e) (l := [48 + r / 10, 48 + r % 10]) (size := 1) (e' := 5) hA rfl (fun _ _ => rfl) (by decide) (by kernel_rfl) fun g w' _ hA hk _ ho => ⟨_, _, _, rfl, hk, ?_⟩
    refine opw_b2s (e := 5) (by kernel_rfl) (by kernel_rfl) (by kernel_rfl) (ho.sl (by simp)) ⟨_, rfl, fun _ _ => rfl, ?_⟩
    obtain ⟨s, g1, s2, g2, hr⟩ := fin w' (dec2 (r := r) (by omega) (by omega)) hA
    exact ⟨s, g1, s2, g2, hr⟩

theorem pack_num : ∀ (k : Fin 4) (r : Fin 33), IntKind.u16.wrap (↑(BitVec.ofInt 16 (IntKind.u16.wrap (IntKind.u16.wrap (r.val : Int) * 4)) ||| BitVec.ofInt 16 (IntKind.u16.wrap (k.val : Int))).toNat : Int) = 4 * (r.val : Int) + k.val := by decide +kernel
def pack (k r : Int) : Int := if slotR k r then 4 * r + k else 0
theorem c6 (k r : Int) (w : World) : Ret Tryd.prog 6 #[slotV k r] w (.tuple #[.int .u16 (pack k r), .bool (decide (slotR k r))]) := by
  intro R h
  refine f6_calls k r w R ?_
  unfold f6_vc
  have hA := At.refl w
  refine go_n hA fun n1 h_n1 => ?_
  refine go_below hA fun _ hA => ?_
  refine at_call hA (c7 _ _ _) (fun _ hA hk => ?_)
  first | refine ⟨_, rfl, hk, ?_⟩ | refine ⟨_, _, rfl, hk, ?_⟩ | refine ⟨_, _, _, rfl, hk, ?_⟩ | refine ⟨_, _, _, _, rfl, hk, ?_⟩ | refine ⟨_, _, _, _, _, rfl, hk, ?_⟩ | refine ⟨_, _, _, _, _, _, rfl, hk, ?_⟩ | refine ⟨_, _, _, _, _, _, _, rfl, hk, ?_⟩ | refine ⟨_, _, _, _, _, _, _, _, rfl, hk, ?_⟩
  refine brND (fun hn => leaf h hA (by rw [pack, if_neg hn, decide_eq_false hn])) (fun hs => ?_)
  have hs' := hs
  unfold slotR at hs'
  have := pack_num ⟨k.toNat, by omega⟩ ⟨r.toNat, by omega⟩
  rw [show ((⟨k.toNat, by omega⟩ : Fin 4).val : Int) = k by simp; omega, show ((⟨r.toNat, by omega⟩ : Fin 33).val : Int) = r by simp; omega] at this
  rw [this]
  exact leaf h hA (by rw [pack, if_pos hs, decide_eq_true hs])

theorem and3 {n : Int} (h0 : 0 ≤ n) (h1 : n < 65536) : ((BitVec.ofInt 16 n &&& BitVec.ofInt 16 3).toNat : Int) = n % 4 := by
  obtain ⟨m, rfl⟩ : ∃ m : Nat, n = m := ⟨n.toNat, by omega⟩
  have e3 : (BitVec.ofInt 16 3 : BitVec 16) = BitVec.ofNat 16 3 := rfl
  have em : (BitVec.ofInt 16 (m : Int) : BitVec 16) = BitVec.ofNat 16 m := by simp
  rw [e3, em, BitVec.toNat_and, BitVec.toNat_ofNat, BitVec.toNat_ofNat, Nat.mod_eq_of_lt (by omega : m < 2 ^ 16)]
  have := Nat.and_two_pow_sub_one_eq_mod m 2
  rw [show (3 % 2 ^ 16 : Nat) = 2 ^ 2 - 1 by decide, this]
  omega
theorem c8 (n : Int) (h0 : 0 ≤ n) (h1 : n < 65536) (w : World) : Ret Tryd.prog 8 #[.int .u16 n] w (if n ≤ 131 then .tuple #[slotV (n % 4) (n / 4), .bool true] else .tuple #[slotV 0 0, .bool false]) := by
  intro R h
  refine f8_calls n w R ?_
  unfold f8_vc
  have hA := At.refl w
  rw [and3 h0 h1, wrap_u16, fdiv_pos _ (by decide), wrap_i64 (x := n / 4) (by omega) (by omega), wrap_i64 (by omega) (by omega), show n % 4 % 65536 = n % 4 by omega]
  refine go_n hA fun n1 h_n1 => ?_
  refine go_n hA fun n2 h_n2 => ?_
  refine go_evo hA (by intro d hd; simp at hd; omega) fun _ hA => ?_
  refine at_call hA (c7 _ _ _) (fun _ hA hk => ?_)
  first | refine ⟨_, rfl, hk, ?_⟩ | refine ⟨_, _, rfl, hk, ?_⟩ | refine ⟨_, _, _, rfl, hk, ?_⟩ | refine ⟨_, _, _, _, rfl, hk, ?_⟩ | refine ⟨_, _, _, _, _, rfl, hk, ?_⟩ | refine ⟨_, _, _, _, _, _, rfl, hk, ?_⟩ | refine ⟨_, _, _, _, _, _, _, rfl, hk, ?_⟩ | refine ⟨_, _, _, _, _, _, _, _, rfl, hk, ?_⟩
  refine brND (fun hn => ?_) (fun hs => ?_)
  · refine go_evo hA (by intro d hd; simp at hd; omega) fun _ hA => ?_
    exact leaf h hA (by rw [if_neg (fun hh => hn ⟨by omega, by omega, by omega, by omega⟩)])
  · refine go_evo hA (by intro d hd; simp at hd; omega) fun _ hA => ?_
    exact leaf h hA (by rw [if_pos (by have := hs.2.2.2; omega)])

theorem c9 (w : World) (hT : Tab w) : Ret Tryd.prog 9 #[] w (.bool true) := by
  intro R h
  refine f9_calls w R ?_
  unfold f9_vc
  have hA := At.refl w
  refine at_call hA (c6 _ _ _) (fun _ hA hk => ?_)
  first | refine ⟨_, rfl, ?_⟩ | refine ⟨_, _, rfl, ?_⟩ | refine ⟨_, _, _, rfl, ?_⟩ | refine ⟨_, _, _, _, rfl, ?_⟩ | refine ⟨_, _, _, _, _, rfl, ?_⟩ | refine ⟨_, _, _, _, _, _, rfl, ?_⟩ | refine ⟨_, _, _, _, _, _, _, rfl, ?_⟩ | refine ⟨_, _, _, _, _, _, _, _, rfl, ?_⟩
  refine at_call hA (c10 _ _ (hT.at_ hA)) (fun _ hA hk => ?_)
  first | refine ⟨_, rfl, ?_⟩ | refine ⟨_, _, rfl, ?_⟩ | refine ⟨_, _, _, rfl, ?_⟩ | refine ⟨_, _, _, _, rfl, ?_⟩ | refine ⟨_, _, _, _, _, rfl, ?_⟩ | refine ⟨_, _, _, _, _, _, rfl, ?_⟩ | refine ⟨_, _, _, _, _, _, _, rfl, ?_⟩ | refine ⟨_, _, _, _, _, _, _, _, rfl, ?_⟩
  have hp : pack 1 3 = 13 := by decide
  have hk : kindOf (ByteArray.mk #[100, 105, 115, 107]) = (2, true) := by decide
  rw [hp, hk]
  refine ⟨fun _ => ⟨fun _ => ⟨fun _ => ⟨fun _ => ?_, fun hf => by simp at hf⟩, fun hf => by simp at hf⟩, fun hf => by simp [slotR] at hf⟩, fun hf => by simp at hf⟩
  refine at_call hA (c19 _ _ _ (hT.at_ hA)) (fun _ hA hk => ?_)
  first | refine ⟨_, rfl, ?_⟩ | refine ⟨_, _, rfl, ?_⟩ | refine ⟨_, _, _, rfl, ?_⟩ | refine ⟨_, _, _, _, rfl, ?_⟩ | refine ⟨_, _, _, _, _, rfl, ?_⟩ | refine ⟨_, _, _, _, _, _, rfl, ?_⟩ | refine ⟨_, _, _, _, _, _, _, rfl, ?_⟩ | refine ⟨_, _, _, _, _, _, _, _, rfl, ?_⟩
  have ht : stext 1 3 = ByteArray.mk #[109, 101, 109, 40, 51, 41] := by
    rw [stext, if_pos (by decide), if_neg (by decide), digit1 (by decide)]
    rfl
  rw [ht]
  exact leaf h hA (by simp)
end Go.Vc.D
