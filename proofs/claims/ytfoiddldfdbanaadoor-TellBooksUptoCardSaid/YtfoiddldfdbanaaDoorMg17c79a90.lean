/- Own texts of this claim, laid together: QE2, QE3, QShelf, VcMap2, VcRange, QE4, QE8a, QE8b, QE8, QG1a, QG1b, VcStr2, QG3, QPl, QG9, QF2, QF3, QT1, QT2. -/
import Derived.Test.YtfoiddldfdbanaaDoorMg76b42987
import Derived.Shelf.Strings.OnBuilder
import Derived.Shelf.LaysM
import Derived.Shelf.Strconv.Itoa4
import Derived.Test.YtfoiddldfdbanaaDoorProg
import Derived.Maps.RangeRun
import Derived.Lib.SmallJoins
import Derived.Lib.ItoaMem
import Derived.Lib.ItoaLen

/- Own text of this claim: QE2. -/
set_option maxRecDepth 20000
namespace Go.Vc.Q
open Go Go.Vc Go.Vc.V Go.RowKit Go.Proofs Vcq

theorem u8_digit {x : Int} (h : 0 ≤ x) : IntKind.u8.wrap (IntKind.i64.wrap (48 + x.tmod 10)) = 48 + x % 10 := by
  rw [Int.tmod_eq_emod_of_nonneg h, wrap_i64 (by omega) (by omega), wrap_u8]
  omega

theorem c63 {w0 : World} {gs : List Nat} (n least : Int) (h0 : 0 ≤ n) (h1 : n ≤ 9223372036854775807) (h2 : least ≤ 1000) (h3 : -4611686018427387904 ≤ least - n) {W : World} {a : Option Addr} {m c : Nat} {l : List Int} (hA : At w0 gs W) (ho : OwnL w0 gs W 5 1 u8e (.slice a m c) l) (hb : l.length + n.toNat + least.toNat + 1 ≤ 70368744177664)
    (R : Ending → World → Prop) (h : ∀ a' c' w', At w0 gs w' → Keeps gs W w' → OwnL w0 gs w' 5 1 u8e (.slice a' (l ++ decL n least).length c') (l ++ decL n least) → R (.returned (.slice a' (l ++ decL n least).length c')) w') :
    Calls Tryd.prog 63 #[.slice a m c, .int .i64 n, .int .i64 least] W R := by
  refine f63_calls a m c n least W R ?_
  unfold f63_vc
  rw [u8_digit h0]
  have fin : ∀ {W : World} {a : Option Addr} {m c : Nat} {l' : List Int}, At w0 gs W → OwnL w0 gs W 5 1 u8e (.slice a m c) l' → l'.length + 1 ≤ 70368744177664 → ∀ {K : Value → World → Prop}, (∀ a' c' w', At w0 gs w' → Keeps gs W w' → OwnL w0 gs w' 5 1 u8e (.slice a' (l' ++ [48 + n % 10]).length c') (l' ++ [48 + n % 10]) → K (.slice a' (l' ++ [48 + n % 10]).length c') w') → OpW Tryd.prog (valueS (Instr.buildSlice 67 1 #[(0, .int .u8 (48 + n % 10))])) W fun v w' => ∃ a1 n1 cc1, v = .slice a1 n1 cc1 ∧ OpW Tryd.prog (builtin .append #[67, 67] 67 #[false, false] #[.slice a m c, .slice a1 n1 cc1]) w' K := by
    intro W a m c l' hA ho hlen K hK
    refine opw_lit hA (e' := 5) (cs := u8e (48 + n % 10)) (by kernel_rfl) fun w' hA hk hb hc _ => ⟨_, _, _, rfl, ?_⟩
    refine opw_append1 (bytes := 1) (by kernel_rfl) hA (ho.call hb) (x := 48 + n % 10) rfl hc (by simp [Value.oneCell']) hlen (.inl rfl) fun v' w'' hA hk2 hg ho' _ => ?_
    obtain ⟨a', c', rfl, _⟩ := ho'.slice (by simp)
    exact hK a' c' w'' hA (fun g hg => (hk2 g hg).trans (hk g hg)) ho'
  have hlen := decL_len (n / 10) (least - 1)
  have rec' : (10 ≤ n ∨ (1 < least ∧ 0 ≤ n)) → ∀ (R : Ending → World → Prop), (∀ a' c' w', At w0 gs w' → Keeps gs W w' → OwnL w0 gs w' 5 1 u8e (.slice a' (l ++ decL (n / 10) (least - 1)).length c') (l ++ decL (n / 10) (least - 1)) → R (.returned (.slice a' (l ++ decL (n / 10) (least - 1)).length c')) w') →
      Calls Tryd.prog 63 #[.slice a m c, .int .i64 (IntKind.i64.wrap (n.tdiv 10)), .int .i64 (IntKind.i64.wrap (least - 1))] W R := by
    intro hc R h
    rw [Int.tdiv_eq_ediv_of_nonneg h0, wrap_i64 (by omega) (by omega), wrap_i64 (by omega) (by omega)]
    exact c63 (n / 10) (least - 1) (by omega) (by omega) (by omega) (by omega) hA ho (by rcases hc with hc | hc <;> omega) R h
  have hstep : (10 ≤ n ∨ (1 < least ∧ 0 ≤ n)) → decL n least = decL (n / 10) (least - 1) ++ [48 + n % 10] := fun hc => by rw [decL, if_pos hc]
  have go : (10 ≤ n ∨ (1 < least ∧ 0 ≤ n)) → Calls Tryd.prog 63 #[.slice a m c, .int .i64 (IntKind.i64.wrap (n.tdiv 10)), .int .i64 (IntKind.i64.wrap (least - 1))] W fun e w' => ∃ a3 n4 n5, e = .returned (.slice a3 n4 n5) ∧ OpW Tryd.prog (valueS (Instr.buildSlice 67 1 #[(0, .int .u8 (48 + n % 10))])) w' fun v w' => ∃ a1 n1 cc1, v = .slice a1 n1 cc1 ∧ OpW Tryd.prog (builtin .append #[67, 67] 67 #[false, false] #[.slice a3 n4 n5, .slice a1 n1 cc1]) w' fun v w' => ∃ a1 n1 cc1, v = .slice a1 n1 cc1 ∧ R (.returned (.slice a1 n1 cc1)) w' := by
    intro hc
    refine rec' hc _ fun a' c' w' hA hk ho => ⟨_, _, _, rfl, ?_⟩
    refine fin hA ho (by rw [List.length_append]; rcases hc with hc | hc <;> omega) fun a' c' w'' hA hk2 ho => ⟨_, _, _, rfl, ?_⟩
    have e : l ++ decL (n / 10) (least - 1) ++ [48 + n % 10] = l ++ decL n least := by rw [hstep hc, List.append_assoc]
    rw [e] at ho ⊢
    exact h a' c' w'' hA (fun g hg => (hk2 g hg).trans (hk g hg)) ho
  refine brD (fun h10 => go (.inl h10)) (fun h10 => brD (fun hl => go (.inr ⟨hl, h0⟩)) (fun hl => ?_))
  refine fin hA ho (by omega) fun a' c' w' hA hk ho => ⟨_, _, _, rfl, ?_⟩
  have e : [48 + n % 10] = decL n least := by rw [decL, if_neg (by omega)]
  rw [e] at ho ⊢
  exact h a' c' w' hA hk ho
termination_by n.toNat + least.toNat
decreasing_by
  rcases hc with hc | hc <;> omega

/-! ### Text -/
def strip (l : List Int) : List Int := (l.reverse.dropWhile (· == 48)).reverse
def txtL (n : Int) : List Int := if 0 ≤ n ∧ n ≤ 9007199254740992 then (if n % 1000 = 0 then decL (n / 1000) 1 else strip (decL (n / 1000) 1 ++ [46] ++ decL (n % 1000) 3)) else []

theorem strip_snoc (l : List Int) : strip (l ++ [48]) = strip l := by simp [strip]
theorem strip_keep (l : List Int) {x : Int} (h : x ≠ 48) : strip (l ++ [x]) = l ++ [x] := by
  simp [strip, h]

theorem c53 (n : Int) (w : World) (hn : I64 n) : Ret Tryd.prog 53 #[.int .i64 n] w (.string (strOfNums (txtL n))) := by
  intro R h
  refine f53_calls n w R ?_
  unfold f53_vc
  have hA := At.refl w
  refine at_call hA (c50 _ _) (fun _ hA hk => ⟨_, rfl, ?_⟩)
  refine brND (fun hr => leaf h hA (by rw [txtL, if_neg hr]; rfl)) (fun hr => ?_)
  rw [txtL, if_pos hr] at h
  rw [Int.tdiv_eq_ediv_of_nonneg hr.1, Int.tmod_eq_emod_of_nonneg hr.1, wrap_i64 (by omega) (by omega)]
  refine c63 (n / 1000) 1 (by omega) (by omega) (by omega) (by omega) hA OwnL.nil (by simp; omega) _ fun a' c' w' hA hk ho => ⟨_, _, _, rfl, ?_⟩
  rw [List.nil_append] at ho ⊢
  have hd := decL_len (n / 1000) 1
  refine brE (fun h0 => ?_) (fun h0 => ?_)
  · rw [if_pos h0] at h
    refine opw_b2s (e := 5) (by kernel_rfl) (by kernel_rfl) (by kernel_rfl) (ho.sl (by simp)) ⟨_, rfl, ?_⟩
    exact leaf h hA rfl
  · rw [if_neg h0] at h
    refine opw_lit hA (e' := 5) (cs := u8e 46) (by kernel_rfl) fun w' hA hk hb hc _ => ⟨_, _, _, rfl, ?_⟩
    refine opw_append1 (bytes := 1) (by kernel_rfl) hA (ho.call hb) (x := 46) rfl hc (by simp [Value.oneCell']) (by omega) (.inl rfl) fun v' w'' hA hk2 hg ho' _ => ?_
    obtain ⟨a1, cc1, rfl, _⟩ := ho'.slice (by simp)
    refine ⟨_, _, _, rfl, ?_⟩
    refine c63 (n % 1000) 3 (by omega) (by omega) (by omega) (by omega) hA ho' (by simp; omega) _ fun a' c' w' hA hk ho => ⟨_, _, _, rfl, ?_⟩
    generalize hL : decL (n / 1000) 1 ++ [46] ++ decL (n % 1000) 3 = L at ho h ⊢
    have hne : ∃ x ∈ L, x ≠ 48 := ⟨46, by rw [← hL]; simp, by decide⟩
    have hlen : L.length ≤ 70368744177664 := by
      have := decL_len (n % 1000) 3
      rw [← hL]
      simp
      omega
    have hby : ∀ x ∈ L, 0 ≤ x ∧ x ≤ 57 := by
      rw [← hL]
      intro x hx
      simp at hx
      rcases hx with hx | rfl | hx
      · have := decL_byte _ _ (by omega) x hx; omega
      · omega
      · have := decL_byte _ _ (by omega) x hx; omega
    refine ⟨fun s W => At w [] W ∧ ∃ l : List Int, OwnL w [] W 5 1 u8e (.slice s.1.1 s.1.2.1 s.1.2.2) l ∧ l <+: L ∧ (∃ x ∈ l, x ≠ 48) ∧ strip l = strip L, fun s _ => s.1.2.1, ⟨hA, L, ho, List.prefix_rfl, hne, rfl⟩, ?_⟩
    intro a2 m2 cc2 W ⟨hA, l, ho, hpre, hnz, hst⟩
    have hm := ho.len
    simp only at hm ho
    subst hm
    have hll := hpre.length_le
    have hpos : 0 < l.length := by
      obtain ⟨x, hx, _⟩ := hnz
      exact List.length_pos_of_mem hx
    have hidx : IntKind.i64.wrap ((l.length : Int) - 1) = ((l.length - 1 : Nat) : Int) := by
      rw [wrap_i64 (by omega) (by omega)]
      omega
    rw [hidx]
    obtain ⟨l', x, rfl⟩ : ∃ l' x, l = l' ++ [x] := ⟨l.dropLast, l.getLast (List.length_pos_iff.1 hpos), (List.dropLast_concat_getLast _).symm⟩
    have hx : (l' ++ [x])[(l' ++ [x]).length - 1]? = some x := by simp
    obtain ⟨ad, g1, r1⟩ := rd_one (te := 5) (ds := []) (k := .i64) (t := 67) (P := Tryd.prog) (e := 5) (ho.sl (by simp)) hx rfl (by kernel_rfl) (by kernel_rfl) (by kernel_rfl) (fun _ h => by cases h)
    refine ⟨_, g1, _, r1, brE (fun h48 => ?_) (fun h48 => ?_)⟩
    · subst h48
      obtain ⟨g, cur, _, _, _, hcap, _⟩ := ho.ptr hpos
      refine ⟨_, _, _, gives_front (e := 5) (size := 1) (by kernel_rfl) (by kernel_rfl) (by omega), ⟨hA, l', ?_, ?_, ?_, ?_⟩, ?_⟩
      · have hf := ho.front (by simp) (m := (l' ++ [(48 : Int)]).length - 1) (by omega)
        have e : (l' ++ [(48 : Int)]).take ((l' ++ [(48 : Int)]).length - 1) = l' := by simp
        rw [e] at hf
        exact hf
      · exact (List.prefix_append l' [48]).trans hpre
      · obtain ⟨y, hy, hy48⟩ := hnz
        rcases List.mem_append.1 hy with hy | hy
        · exact ⟨y, hy, hy48⟩
        · simp at hy
          exact absurd hy hy48
      · rw [← hst, strip_snoc]
      · simp only
        omega
    · refine opw_b2s (e := 5) (by kernel_rfl) (by kernel_rfl) (by kernel_rfl) (ho.sl (by simp)) ⟨_, rfl, ?_⟩
      exact leaf h hA (by rw [← hst, strip_keep _ h48])
end Go.Vc.Q

/- Own text of this claim: QE3. -/
set_option maxRecDepth 20000
namespace Go.Vc.Q
open Go Go.Vc Go.Vc.V Go.RowKit Go.Proofs Vcq

abbrev strE (s : ByteArray) : List Value := [.string s]

def nmOf (k : Int) : ByteArray := if 0 ≤ k ∧ k < 4 then (nms[k.toNat]?).getD (ByteArray.mk #[]) else ByteArray.mk #[]
theorem nm_at {k : Nat} (h : k < 4) : nms[k]? = some (nmOf k) := by
  unfold nmOf
  rw [if_pos (by omega)]
  have hc : k = 0 ∨ k = 1 ∨ k = 2 ∨ k = 3 := by omega
  rcases hc with rfl | rfl | rfl | rfl <;> rfl
theorem nm_small (k : Int) : (nmOf k).size ≤ 4 := by
  unfold nmOf
  split
  · rename_i h
    have hc : k = 0 ∨ k = 1 ∨ k = 2 ∨ k = 3 := by omega
    rcases hc with rfl | rfl | rfl | rfl <;> decide
  · decide

theorem c61 (k : Int) (w : World) (hT : Tab w) : Ret Tryd.prog 61 #[.int .i64 k] w (.string (nmOf k)) := by
  intro R h
  refine f61_calls k w R ?_
  unfold f61_vc
  have hA := At.refl w
  refine at_call hA (c71 _ hT) (fun w2 hA hk => ⟨_, _, _, _, rfl, ?_⟩)
  refine opw_allocArr (n := 1) (size := 4) (f := fun x : ByteArray × ByteArray × ByteArray × ByteArray => [.string x.1, .string x.2.1, .string x.2.2.1, .string x.2.2.2]) (z := (ByteArray.mk #[], ByteArray.mk #[], ByteArray.mk #[], ByteArray.mk #[])) hA (zv := .agg #[.string (ByteArray.mk #[]), .string (ByteArray.mk #[]), .string (ByteArray.mk #[]), .string (ByteArray.mk #[])]) (by kernel_rfl) rfl rfl (by decide) fun w8 hA hk ho => ⟨_, rfl, ?_⟩
  generalize hg : w2.heap.size = g at ho ⊢
  refine opw_store (y := (sCpus, sMem, sDisk, sGpus)) (i := 0) hA ho (fun _ _ => rfl) (by simp) rfl rfl rfl (by kernel_rfl) (fun w11 hA _ _ ho => ?_) (fun g' hg' => by cases hg'; simp)
  refine brD (fun hlt => leaf h hA ?_) (fun hge => brD (fun hgt => leaf h hA ?_) (fun hle => ?_))
  · rw [nmOf, if_neg (by omega)]
  · rw [nmOf, if_neg (by omega)]
  obtain ⟨q, rfl⟩ : ∃ q : Nat, k = q := ⟨k.toNat, by omega⟩
  obtain ⟨b, cs, hb, hl, hcs, rfl⟩ := (ho.sl (fun _ _ => rfl)).at_ (i := 0) rfl
  cases hb
  have hcell : w11.cell? (Addr.add ⟨g, 0, none⟩ (q * 1)) = some (.string (nmOf q)) := by
    have hx : [Value.string sCpus, .string sMem, .string sDisk, .string sGpus][q]? = some (.string (nmOf q)) := by
      have := nm_at (k := q) (by omega)
      have h2 := congrArg (Option.map Value.string) this
      rw [← List.getElem?_map] at h2
      exact h2
    have := hcs q _ hx
    rw [Nat.zero_mul, addr_add0] at this
    rwa [Nat.mul_one]
  exact ⟨_, gives_index_arr (e := 9) (n := 1) (by kernel_rfl) (by kernel_rfl) (by omega : q < 4), _, reads_one (by kernel_rfl) no_ds hcell, leaf h hA rfl⟩

theorem c62 (n : Int) (h0 : 0 ≤ n) (h1 : n ≤ 9223372036854775807) (w : World) : Ret Tryd.prog 62 #[.int .i64 n] w (.string (strOfNums (decL n 1))) := by
  intro R h
  refine f62_calls n w R ?_
  unfold f62_vc
  have hA := At.refl w
  refine brD (fun hlt => ?_) (fun hge => ?_)
  · have e : IntKind.u8.wrap (IntKind.i64.wrap (48 + n)) = 48 + n := by
      rw [wrap_i64 (by omega) (by omega), wrap_u8]
      omega
    rw [e]
    refine opw_bytes0 (e := 5) (l := [48 + n]) hA rfl (by decide) (by kernel_rfl) (by kernel_rfl) (by kernel_rfl) (by kernel_rfl) fun w' hA _ => leaf h hA (by rw [digit1 ⟨h0, by omega⟩])
  · rw [Int.tdiv_eq_ediv_of_nonneg h0, Int.tmod_eq_emod_of_nonneg h0, wrap_i64 (x := n / 10) (by omega) (by omega)]
    refine at_call hA (c62 (n / 10) (by omega) (by omega) _) (fun _ hA hk => ⟨_, rfl, ?_⟩)
    refine at_call hA (c62 (n % 10) (by omega) (by omega) _) (fun _ hA hk => ⟨_, rfl, ?_⟩)
    have d1 := dec_small (n := n / 10) (by omega)
    have d2 := dec_small (n := n % 10) (by omega)
    refine ⟨_, gives_sadd (by omega), ?_⟩
    refine leaf h hA ?_
    rw [strOfNums_append, digit1 (d := n % 10) (by omega), decL.eq_def n 1, if_pos (.inl (by omega)), decL_one _ (1 - 1) (by omega)]
termination_by n.toNat
decreasing_by
  all_goals omega

noncomputable def stext (k r : Int) : ByteArray := if slotR k r then (if r = 0 then nmOf k else nmOf k ++ ByteArray.mk #[40] ++ strOfNums (decL r 1) ++ ByteArray.mk #[41]) else ByteArray.mk #[]

theorem c52 (k r : Int) (w : World) (hT : Tab w) : Ret Tryd.prog 52 #[slotV k r] w (.string (stext k r)) := by
  intro R h
  refine f52_calls k r w R ?_
  unfold f52_vc
  have hA := At.refl w
  refine go_n hA fun n1 h_n1 => ?_
  refine go_below hA fun _ hA => ?_
  refine at_call hA (c48 _ _ _) (fun _ hA hk => ?_)
  first | refine ⟨_, rfl, hk, ?_⟩ | refine ⟨_, _, rfl, hk, ?_⟩ | refine ⟨_, _, _, rfl, hk, ?_⟩ | refine ⟨_, _, _, _, rfl, hk, ?_⟩ | refine ⟨_, _, _, _, _, rfl, hk, ?_⟩ | refine ⟨_, _, _, _, _, _, rfl, hk, ?_⟩ | refine ⟨_, _, _, _, _, _, _, rfl, hk, ?_⟩ | refine ⟨_, _, _, _, _, _, _, _, rfl, hk, ?_⟩
  refine brND (fun hn => leaf h hA (by rw [stext, if_neg hn])) (fun hs => ?_)
  have hs' := hs
  unfold slotR at hs'
  refine brE (fun h0 => ?_) (fun h0 => ?_)
  · refine at_call hA (c61 _ _ (hT.at_ hA)) (fun _ hA hk => ?_)
    first | refine ⟨_, rfl, hk, ?_⟩ | refine ⟨_, _, rfl, hk, ?_⟩ | refine ⟨_, _, _, rfl, hk, ?_⟩ | refine ⟨_, _, _, _, rfl, hk, ?_⟩ | refine ⟨_, _, _, _, _, rfl, hk, ?_⟩ | refine ⟨_, _, _, _, _, _, rfl, hk, ?_⟩ | refine ⟨_, _, _, _, _, _, _, rfl, hk, ?_⟩ | refine ⟨_, _, _, _, _, _, _, _, rfl, hk, ?_⟩
    exact leaf h hA (by rw [stext, if_pos hs, if_pos h0])
  refine go_below hA fun _ hA => ?_
  refine at_call hA (c61 _ _ (hT.at_ hA)) (fun _ hA hk => ?_)
  first | refine ⟨_, rfl, hk, ?_⟩ | refine ⟨_, _, rfl, hk, ?_⟩ | refine ⟨_, _, _, rfl, hk, ?_⟩ | refine ⟨_, _, _, _, rfl, hk, ?_⟩ | refine ⟨_, _, _, _, _, rfl, hk, ?_⟩ | refine ⟨_, _, _, _, _, _, rfl, hk, ?_⟩ | refine ⟨_, _, _, _, _, _, _, rfl, hk, ?_⟩ | refine ⟨_, _, _, _, _, _, _, _, rfl, hk, ?_⟩
  have s1 := nm_small k
  have s2 : (ByteArray.mk #[40]).size = 1 := rfl
  have s3 : (ByteArray.mk #[41]).size = 1 := rfl
  have d1 := dec_small (n := r) (by omega)
  refine ⟨_, gives_sadd (by omega), ?_⟩
  refine at_call hA (c62 r (by omega) (by omega) _) (fun _ hA hk => ?_)
  first | refine ⟨_, rfl, hk, ?_⟩ | refine ⟨_, _, rfl, hk, ?_⟩ | refine ⟨_, _, _, rfl, hk, ?_⟩ | refine ⟨_, _, _, _, rfl, hk, ?_⟩ | refine ⟨_, _, _, _, _, rfl, hk, ?_⟩ | refine ⟨_, _, _, _, _, _, rfl, hk, ?_⟩ | refine ⟨_, _, _, _, _, _, _, rfl, hk, ?_⟩ | refine ⟨_, _, _, _, _, _, _, _, rfl, hk, ?_⟩
  refine ⟨_, gives_sadd (by rw [ByteArray.size_append]; omega), _, gives_sadd (by rw [ByteArray.size_append, ByteArray.size_append]; omega), ?_⟩
  exact leaf h hA (by rw [stext, if_pos hs, if_neg h0])

theorem dec2 {r : Int} (h1 : 10 ≤ r) (h2 : r < 100) : decL r 1 = [48 + r / 10, 48 + r % 10] := by
  rw [decL, if_pos (.inl h1), decL_one _ _ (by omega), digit1 (by omega)]
  rfl

theorem pack_num : ∀ (k : Fin 4) (r : Fin 33), IntKind.u16.wrap (↑(BitVec.ofInt 16 (IntKind.u16.wrap (IntKind.u16.wrap (r.val : Int) * 4)) ||| BitVec.ofInt 16 (IntKind.u16.wrap (k.val : Int))).toNat : Int) = 4 * (r.val : Int) + k.val := by decide +kernel
def pack (k r : Int) : Int := if slotR k r then 4 * r + k else 0
theorem and3 {n : Int} (h0 : 0 ≤ n) (h1 : n < 65536) : ((BitVec.ofInt 16 n &&& BitVec.ofInt 16 3).toNat : Int) = n % 4 := by
  obtain ⟨m, rfl⟩ : ∃ m : Nat, n = m := ⟨n.toNat, by omega⟩
  have e3 : (BitVec.ofInt 16 3 : BitVec 16) = BitVec.ofNat 16 3 := rfl
  have em : (BitVec.ofInt 16 (m : Int) : BitVec 16) = BitVec.ofNat 16 m := by simp
  rw [e3, em, BitVec.toNat_and, BitVec.toNat_ofNat, BitVec.toNat_ofNat, Nat.mod_eq_of_lt (by omega : m < 2 ^ 16)]
  have := Nat.and_two_pow_sub_one_eq_mod m 2
  rw [show (3 % 2 ^ 16 : Nat) = 2 ^ 2 - 1 by decide, this]
  omega
end Go.Vc.Q

/-
  DERIVED: THE SHELF's CONTRACTS AT THIS DUMP, IN PLAIN WORDS (tools/lay-plain.mjs out of 'TrydShelfQ.lean', which tools/lay-shelf.mjs wrote): THE SAME DECLARATIONS UNDER THE SAME NAMES: 'import', 'namespace', 'open', 'def', 'theorem' AND NOTHING ELSE: no command of the shelf's: FOR A HAND-IN. Each laying: the table of numbers ('.._ren') and one theorem, a field a fact of the dump's own or the kernel's comparison; each contract: ONE APPLICATION.
-/
namespace Go.Proofs
open Go.Shelf
def Tryd.lays156_ren : Go.Shelf.Ren := ⟨fun | 156 => 38 | 165 => 45 | 166 => 22 | 169 => 28 | 240 => 37 | 241 => 56 | 276 => 44 | 277 => 65 | n => n, fun | 31 => 52 | 9 => 9 | 3 => 3 | 4 => 4 | 0 => 0 | 20 => 20 | 72 => 69 | 76 => 72 | 70 => 66 | 37 => 67 | 75 => 71 | 127 => 92 | 164 => 93 | 5 => 5 | 80 => 81 | n => n, fun | n => n⟩
theorem Tryd.lays156 : Go.Proofs.Lays.n156 Tryd.prog Tryd.lays156_ren := {
  mixed := by kernel_rfl
  f156 := Tryd.func38.trans (congrArg some (by kernel_rfl))
  f165 := Tryd.func45.trans (congrArg some (by kernel_rfl))
  f166 := Tryd.func22.trans (congrArg some (by kernel_rfl))
  f169 := Tryd.func28.trans (congrArg some (by kernel_rfl))
  f240 := Tryd.func37.trans (congrArg some (by kernel_rfl))
  f241 := Tryd.func56.trans (congrArg some (by kernel_rfl))
  f276 := Tryd.func44.trans (congrArg some (by kernel_rfl))
  f277 := Tryd.func65.trans (congrArg some (by kernel_rfl))
  t0 := Tryd.underlying0
  a0 := Tryd.isAgg0
  z0 := Tryd.sizeOf0
  v0 := Tryd.zeroValue0
  t3 := Tryd.underlying3
  a3 := Tryd.isAgg3
  z3 := Tryd.sizeOf3
  v3 := Tryd.zeroValue3
  t4 := Tryd.underlying4
  a4 := Tryd.isAgg4
  z4 := Tryd.sizeOf4
  v4 := Tryd.zeroValue4
  t9 := Tryd.underlying9
  a9 := Tryd.isAgg9
  z9 := Tryd.sizeOf9
  v9 := Tryd.zeroValue9
  t20 := Tryd.underlying20
  a20 := Tryd.isAgg20
  z20 := Tryd.sizeOf20
  v20 := Tryd.zeroValue20
  t31 := Tryd.underlying52
  a31 := Tryd.isAgg52
  z31 := Tryd.sizeOf52
  v31 := Tryd.zeroValue52
  t37 := Tryd.underlying67
  a37 := Tryd.isAgg67
  z37 := Tryd.sizeOf67
  v37 := Tryd.zeroValue67
  t70 := Tryd.underlying66
  a70 := Tryd.isAgg66
  z70 := Tryd.sizeOf66
  v70 := Tryd.zeroValue66
  t72 := Tryd.underlying69
  a72 := Tryd.isAgg69
  z72 := Tryd.sizeOf69
  v72 := Tryd.zeroValue69
  t75 := Tryd.underlying71
  a75 := Tryd.isAgg71
  z75 := Tryd.sizeOf71
  v75 := Tryd.zeroValue71
  t76 := Tryd.underlying72
  a76 := Tryd.isAgg72
  z76 := Tryd.sizeOf72
  v76 := Tryd.zeroValue72
  t127 := Tryd.underlying92
  a127 := Tryd.isAgg92
  z127 := Tryd.sizeOf92
  v127 := Tryd.zeroValue92
  t164 := Tryd.underlying93
  a164 := Tryd.isAgg93
  z164 := Tryd.sizeOf93
  v164 := Tryd.zeroValue93 }
theorem Tryd.Builder_Extra_156 : Builder.Extra Tryd.prog Tryd.lays156_ren := {
  sizeBuilder := by kernel_rfl
  liesBuilder := by kernel_rfl
  t5 := Tryd.underlying5
  a5 := Tryd.isAgg5
  z5 := Tryd.sizeOf5
  v5 := Tryd.zeroValue5
  infoByte := by kernel_rfl
  cellsByte := by kernel_rfl
  sizeByte := by kernel_rfl
  neB5 := by decide }
open Go.RowKit in
/-- No element: the empty string; the world is as it was. (Whatever the slice's address and capacity: a nil slice too.) (LAID: no walk: one application.) -/
theorem Tryd.strings_Join_none (a : Option Addr) (c : Nat) (sep : ByteArray) (w : World) :
    Calls Tryd.prog 38 #[.slice a 0 c, .string sep] w fun e w' => e = .returned (.string ⟨#[]⟩) ∧ w' = w := Any.strings_Join_none Tryd.lays156 Tryd.Builder_Extra_156 a c sep w
open Go.RowKit in
/-- strings.Join: "Join concatenates the elements of its first argument to create a single string. The separator string sep is placed between elements in the resulting string.": HOWEVER MANY ELEMENTS. Below the heap's end the world is as it was. (LAID: no walk: one application.) -/
theorem Tryd.strings_Join (bk o c : Nat) (xs : List ByteArray) (sep : ByteArray) (w : World) (hcells : ∀ (j : Nat) x, xs[j]? = some x → w.cell? ⟨bk, o + j, none⟩ = some (.string x)) (hbk : bk < w.heap.size) (hN : xs.length ≤ 140737488355328) (hcap : xs.length ≤ c) (hlen : (Lib.join (xs.map (·.data.toList)) sep.data.toList).length ≤ 140737488355328) :
    Calls Tryd.prog 38 #[.slice (some ⟨bk, o, none⟩) xs.length c, .string sep] w fun e w' => e = .returned (.string ⟨(Lib.join (xs.map (·.data.toList)) sep.data.toList).toArray⟩) ∧ Below w.heap.size w w' := Any.strings_Join Tryd.lays156 Tryd.Builder_Extra_156 bk o c xs sep w hcells hbk hN hcap hlen
def Tryd.laysM173_ren : Go.Shelf.Ren := ⟨fun | 173 => 40 | 246 => 47 | 283 => 57 | 284 => 58 | 285 => 59 | 286 => 60 | 129 => 67 | 317 => 66 | 318 => 68 | 319 => 69 | 320 => 70 | 337 => 72 | 338 => 73 | n => n, fun | 2 => 2 | 3 => 3 | 9 => 9 | 4 => 4 | 171 => 100 | 0 => 0 | 53 => 101 | 37 => 67 | 5 => 5 | 173 => 104 | 212 => 111 | 51 => 96 | 20 => 20 | 213 => 112 | 46 => 99 | 232 => 118 | 233 => 119 | n => n, fun | 17 => 2 | 18 => 5 | 19 => 6 | n => n⟩
theorem Tryd.laysM173 : Go.Proofs.LaysM.n173 Tryd.prog Tryd.laysM173_ren := {
  mixed := by kernel_rfl
  f129 := Tryd.func67.trans (congrArg some (by kernel_rfl))
  f173 := Tryd.func40.trans (congrArg some (by kernel_rfl))
  f246 := Tryd.func47.trans (congrArg some (by kernel_rfl))
  f283 := Tryd.func57.trans (congrArg some (by kernel_rfl))
  f284 := Tryd.func58.trans (congrArg some (by kernel_rfl))
  f285 := Tryd.func59.trans (congrArg some (by kernel_rfl))
  f286 := Tryd.func60.trans (congrArg some (by kernel_rfl))
  f317 := Tryd.func66.trans (congrArg some (by kernel_rfl))
  f318 := Tryd.func68.trans (congrArg some (by kernel_rfl))
  f319 := Tryd.func69.trans (congrArg some (by kernel_rfl))
  f320 := Tryd.func70.trans (congrArg some (by kernel_rfl))
  f337 := Tryd.func72.trans (congrArg some (by kernel_rfl))
  f338 := Tryd.func73.trans (congrArg some (by kernel_rfl))
  t0 := Tryd.underlying0
  a0 := Tryd.isAgg0
  z0 := Tryd.sizeOf0
  v0 := Tryd.zeroValue0
  t2 := Tryd.underlying2
  a2 := Tryd.isAgg2
  z2 := Tryd.sizeOf2
  v2 := Tryd.zeroValue2
  t3 := Tryd.underlying3
  a3 := Tryd.isAgg3
  z3 := Tryd.sizeOf3
  v3 := Tryd.zeroValue3
  t4 := Tryd.underlying4
  a4 := Tryd.isAgg4
  z4 := Tryd.sizeOf4
  v4 := Tryd.zeroValue4
  t5 := Tryd.underlying5
  a5 := Tryd.isAgg5
  z5 := Tryd.sizeOf5
  v5 := Tryd.zeroValue5
  t9 := Tryd.underlying9
  a9 := Tryd.isAgg9
  z9 := Tryd.sizeOf9
  v9 := Tryd.zeroValue9
  t20 := Tryd.underlying20
  a20 := Tryd.isAgg20
  z20 := Tryd.sizeOf20
  v20 := Tryd.zeroValue20
  t37 := Tryd.underlying67
  a37 := Tryd.isAgg67
  z37 := Tryd.sizeOf67
  v37 := Tryd.zeroValue67
  t46 := Tryd.underlying99
  a46 := Tryd.isAgg99
  z46 := Tryd.sizeOf99
  v46 := Tryd.zeroValue99
  t51 := Tryd.underlying96
  a51 := Tryd.isAgg96
  z51 := Tryd.sizeOf96
  v51 := Tryd.zeroValue96
  t53 := Tryd.underlying101
  a53 := Tryd.isAgg101
  z53 := Tryd.sizeOf101
  v53 := Tryd.zeroValue101
  t171 := Tryd.underlying100
  a171 := Tryd.isAgg100
  z171 := Tryd.sizeOf100
  v171 := Tryd.zeroValue100
  t173 := Tryd.underlying104
  a173 := Tryd.isAgg104
  z173 := Tryd.sizeOf104
  v173 := Tryd.zeroValue104
  t212 := Tryd.underlying111
  a212 := Tryd.isAgg111
  z212 := Tryd.sizeOf111
  v212 := Tryd.zeroValue111
  t213 := Tryd.underlying112
  a213 := Tryd.isAgg112
  z213 := Tryd.sizeOf112
  t232 := Tryd.underlying118
  a232 := Tryd.isAgg118
  z232 := Tryd.sizeOf118
  v232 := Tryd.zeroValue118
  t233 := Tryd.underlying119
  a233 := Tryd.isAgg119
  z233 := Tryd.sizeOf119
  v233 := Tryd.zeroValue119
  g17 := by kernel_rfl
  g18 := by kernel_rfl
  g19 := by kernel_rfl
  i0 := by kernel_rfl
  i2 := by kernel_rfl
  i3 := by kernel_rfl
  i4 := by kernel_rfl
  i5 := by kernel_rfl
  i9 := by kernel_rfl
  i20 := by kernel_rfl
  i37 := by kernel_rfl
  i46 := by kernel_rfl
  i51 := by kernel_rfl
  i53 := by kernel_rfl
  i171 := by kernel_rfl
  i173 := by kernel_rfl
  i212 := by kernel_rfl
  i232 := by kernel_rfl
  i233 := by kernel_rfl
  m17 := by kernel_rfl
  m18 := by kernel_rfl
  m19 := by kernel_rfl }
open Go.RowKit Go.Sort Go.Lib in
/-- strconv.FormatInt: "FormatInt returns the string representation of i in the given base": AT BASE 10: i's decimal numeral, for every int64. (LAID: no walk: one application.) -/
theorem Tryd.strconv_FormatInt_10 (n : Int) (h0 : -9223372036854775808 ≤ n) (h1 : n ≤ 9223372036854775807) (w : World) (htab : Lib.TabIs Tryd.prog w "internal/strconv.uint64pow10" .u64 Lib.pow10Tab) :
    Calls Tryd.prog 40 #[.int .i64 n, .int .i64 10] w fun e w' => e = .returned (.string ⟨(Lib.itoa n).toArray⟩) ∧ ∃ k os, w' = grow (w.drewN k) os := Any.strconv_FormatInt_10 Tryd.laysM173 n h0 h1 w htab
end Go.Proofs

/- A map's entry made, then filled: two steps that are a set. -/
namespace Go.Vc
open Go Go.RowKit

section
variable {κ α : Type} {P : Program} {w W : World} {M : Nat → Prop} {gs : List Nat} {r : Nat} {kt : TypeId} {kf : κ → Value} {vf : α → Value} {m : List (κ × α)}

/-- An own map with an entry that is to be filled. -/
structure OwnE (w : World) (M : Nat → Prop) (gs : List Nat) (W : World) (r : Nat) (kf : κ → Value) (vf : α → Value) (m : List (κ × α)) (j : Nat) (k : κ) (stamp : Nat) : Prop where
  mine : w.heap.size ≤ r ∨ M r
  apart : r ∉ gs
  obj : ∃ (es : Array MapEntry) (clock : Nat), W.heap[r]? = some (.map es clock) ∧ EntR kf vf es.toList m ∧ (es.toList.map (·.born)).Nodup ∧ (∀ e ∈ es.toList, e.born < clock) ∧ ∃ e, es[j]? = some e ∧ e.born = stamp
  key : ∃ v, m[j]? = some (k, v)
theorem OwnE.lt {j : Nat} {k : κ} {stamp : Nat} (h : OwnE w M gs W r kf vf m j k stamp) : r < W.heap.size := by
  obtain ⟨es, clock, hr, _⟩ := h.obj
  exact (Array.getElem?_eq_some_iff.1 hr).1

theorem opw_mapEntryO [DecidableEq κ] {t et : TypeId} {k : κ} {z : α} {K : Value → World → Prop} (Ko : KeyOk P kt kf) (ht : P.underlying t = some (.map kt et)) (hz : midx k m = none → pureRun P (zeroValue et) = some (vf z)) (hA : AtF w M gs W) (ho : OwnM w M gs W r kf vf m)
    (h : ∀ w' m1 j v0 stamp, AtF w M gs w' → Keeps gs W w' → Chg (fun b => b = r) W w' → OwnE w M gs w' r kf vf m1 j k stamp → (∀ v, m1.set j (k, v) = mset k v m) → K (.tuple #[vf v0, .int .i64 (stamp : Int)]) w') : OpW P (valueS (Instr.mapEntry t (.map (some r)) (kf k))) W K := by
  have hl := ho.lt
  obtain ⟨es, clock, hr, he, hn, hb⟩ := ho.obj
  unfold OpW
  cases hm : midx k m with
  | none =>
    have hrun : (Instr.mapEntry t (.map (some r)) (kf k)).run P W = .ok (.tuple #[vf z, .int .i64 (clock : Int)]) { W with heap := W.heap.setIfInBounds r (.map (es.push { key := kf k, val := vf z, born := clock }) (clock + 1)) } := by
      unfold Instr.mapEntry
      rw [run_bind_ok (run_underlying ht W)]
      simp only
      rw [run_bind_ok (run_getObj_m hr)]
      simp only
      rw [run_bind_ok (Ko.chk false k W), run_bind_ok (findKey_run Ko k W he), hm]
      simp only [Option.bind_none]
      rw [run_bind_ok (pureRun_run (hz hm) W), run_bind_ok (run_setObj_m hr _)]
      rfl
    rw [run_valueS hrun]
    have hlen := EntR.len he
    refine h _ (m ++ [(k, z)]) m.length z clock (hA.setObjF ho.mine) (keeps_setObj ho.apart) chg_setObj ⟨ho.mine, ho.apart, ⟨_, _, setObj_heap hl _, ?_, ?_, ?_, ⟨{ key := kf k, val := vf z, born := clock }, ?_, rfl⟩⟩, ⟨z, by simp⟩⟩ fun v => by rw [mset_new hm]; simp
    · rw [Array.toList_push]
      unfold EntR at he ⊢
      rw [List.map_append, List.map_append, he]
      rfl
    · rw [Array.toList_push, List.map_append]
      refine List.nodup_append.2 ⟨hn, by simp, fun a ha b hb' => ?_⟩
      simp at hb'
      obtain ⟨e, hem, rfl⟩ := List.mem_map.1 ha
      have := hb e hem
      omega
    · intro e hem
      rw [Array.toList_push] at hem
      rcases List.mem_append.1 hem with h1 | h1
      · have := hb e h1; omega
      · simp at h1; subst h1; simp
    · rw [← hlen, Array.length_toList]; simp
  | some j =>
    obtain ⟨v0, hv0⟩ := midx_key hm
    obtain ⟨e0, he0, hk0, hv00⟩ := EntR.at_ he hv0
    have he0' : es[j]? = some e0 := by simpa using he0
    have hks : (Instr.keyThatStays (kf k) (kf k)).run P W = .ok (kf k) W := by
      unfold Instr.keyThatStays
      rw [if_pos (Ko.bits k)]
      rfl
    have hrun : (Instr.mapEntry t (.map (some r)) (kf k)).run P W = .ok (.tuple #[vf v0, .int .i64 (e0.born : Int)]) { W with heap := W.heap.setIfInBounds r (.map (es.modify j fun e => { e with key := kf k }) clock) } := by
      unfold Instr.mapEntry
      rw [run_bind_ok (run_underlying ht W)]
      simp only
      rw [run_bind_ok (run_getObj_m hr)]
      simp only
      rw [run_bind_ok (Ko.chk false k W), run_bind_ok (findKey_run Ko k W he), hm]
      simp only [Option.bind_some, hv0, Option.map_some, he0', Option.getD_some, hk0]
      rw [run_bind_ok hks, run_bind_ok (run_setObj_m hr _)]
      rfl
    have hmod : es.modify j (fun e => { e with key := kf k }) = es := by
      apply Array.ext_getElem?
      intro i
      rw [Array.getElem?_modify]
      split
      · rename_i hij
        subst hij
        rw [he0']
        simp only [Option.map_some, Option.some.injEq]
        rw [← hk0]
      · rfl
    rw [run_valueS hrun, hmod]
    exact h _ m j v0 e0.born (hA.setObjF ho.mine) (keeps_setObj ho.apart) chg_setObj ⟨ho.mine, ho.apart, ⟨_, _, setObj_heap hl _, he, hn, hb, ⟨e0, he0', rfl⟩⟩, ⟨v0, hv0⟩⟩ fun v => (mset_at hm).symm

theorem opw_mapEntry [DecidableEq κ] {t et : TypeId} {k : κ} {z : α} {K : Value → World → Prop} (Ko : KeyOk P kt kf) (ht : P.underlying t = some (.map kt et)) (hz : pureRun P (zeroValue et) = some (vf z)) (hA : AtF w M gs W) (ho : OwnM w M gs W r kf vf m)
    (h : ∀ w' m1 j v0 stamp, AtF w M gs w' → Keeps gs W w' → Chg (fun b => b = r) W w' → OwnE w M gs w' r kf vf m1 j k stamp → (∀ v, m1.set j (k, v) = mset k v m) → K (.tuple #[vf v0, .int .i64 (stamp : Int)]) w') : OpW P (valueS (Instr.mapEntry t (.map (some r)) (kf k))) W K :=
  opw_mapEntryO Ko ht (fun _ => hz) hA ho h
/-- The same, of a key that is there. -/
theorem opw_mapEntryH [DecidableEq κ] {t et : TypeId} {k : κ} {z : α} {K : Value → World → Prop} (Ko : KeyOk P kt kf) (ht : P.underlying t = some (.map kt et)) (hz : mget k m = some z) (hA : AtF w M gs W) (ho : OwnM w M gs W r kf vf m)
    (h : ∀ w' m1 j v0 stamp, AtF w M gs w' → Keeps gs W w' → Chg (fun b => b = r) W w' → OwnE w M gs w' r kf vf m1 j k stamp → (∀ v, m1.set j (k, v) = mset k v m) → K (.tuple #[vf v0, .int .i64 (stamp : Int)]) w') : OpW P (valueS (Instr.mapEntry t (.map (some r)) (kf k))) W K :=
  opw_mapEntryO (z := z) Ko ht (fun e => by rw [mget_idx, e] at hz; cases hz) hA ho h
theorem opw_entryStore {t : TypeId} {k : κ} {j stamp : Nat} {v : α} {K : Value → World → Prop} (hA : AtF w M gs W) (ho : OwnE w M gs W r kf vf m j k stamp)
    (h : ∀ w', AtF w M gs w' → Keeps gs W w' → Chg (fun b => b = r) W w' → OwnM w M gs w' r kf vf (m.set j (k, v)) → K undef w') : OpW P (skipS (Instr.entryStore t (.map (some r)) (.int .i64 (stamp : Int)) (vf v))) W K := by
  have hl := ho.lt
  obtain ⟨es, clock, hr, he, hn, hb, e0, he0, hst⟩ := ho.obj
  obtain ⟨v0, hv0⟩ := ho.key
  obtain ⟨e1, he1, hk1, _⟩ := EntR.at_ he hv0
  have he1' : es[j]? = some e1 := by simpa using he1
  rw [he0] at he1'
  cases he1'
  have hjl := (Array.getElem?_eq_some_iff.1 he0).1
  have hfind : es.findIdx? (fun e => (e.born : Int) == (stamp : Int)) = some j := by
    rw [Array.findIdx?_eq_some_iff_getElem]
    refine ⟨hjl, ?_, fun q hq => ?_⟩
    · have := (Array.getElem?_eq_some_iff.1 he0).2
      simp [this, hst]
    · have hql : q < es.size := by omega
      have h2 : (es.toList.map (·.born))[q]'(by simpa using hql) ≠ (es.toList.map (·.born))[j]'(by simpa using hjl) := (List.pairwise_iff_getElem.1 hn) q j (by simpa using hql) (by simpa using hjl) hq
      have h3 := (Array.getElem?_eq_some_iff.1 he0).2
      simp only [List.getElem_map, Array.getElem_toList, h3, hst] at h2
      simp only [beq_iff_eq]
      intro e
      exact h2 (by omega)
  have hrun : (Instr.entryStore t (.map (some r)) (.int .i64 (stamp : Int)) (vf v)).run P W = .ok () { W with heap := W.heap.setIfInBounds r (.map (es.modify j fun e => { e with val := vf v }) clock) } := by
    unfold Instr.entryStore
    simp only
    rw [run_bind_ok (run_getObj_m hr)]
    simp only
    have hi : (asInt (.int .i64 (stamp : Int))).run P W = .ok (stamp : Int) W := rfl
    rw [run_bind_ok hi]
    simp only [hfind]
    exact run_setObj_m hr _
  unfold OpW skipS
  rw [run_bind_ok hrun]
  refine h _ (hA.setObjF ho.mine) (keeps_setObj ho.apart) chg_setObj ⟨ho.mine, ho.apart, _, clock, setObj_heap hl _, ?_, ?_, ?_⟩
  · unfold EntR at he ⊢
    rw [List.map_set, ← he]
    apply List.ext_getElem?
    intro i
    simp only [List.getElem?_map, Array.getElem?_toList, Array.getElem?_modify, List.getElem?_set, List.length_map, Array.length_toList]
    by_cases hij : j = i
    · subst hij
      have h3 := (Array.getElem?_eq_some_iff.1 he0).2
      simp [hjl, h3, hk1]
    · simp [hij]
  · have : (es.modify j fun e => { e with val := vf v }).toList.map (·.born) = es.toList.map (·.born) := by
      apply List.ext_getElem?
      intro i
      simp only [List.getElem?_map, Array.getElem?_toList, Array.getElem?_modify]
      by_cases hij : j = i
      · subst hij; simp [he0]
      · simp [hij]
    rw [this]
    exact hn
  · intro e hem
    obtain ⟨i, hi⟩ := List.mem_iff_getElem?.1 hem
    simp only [Array.getElem?_toList, Array.getElem?_modify] at hi
    by_cases hij : j = i
    · subst hij
      simp [he0] at hi
      subst hi
      exact hb e0 (List.mem_of_getElem? (i := j) (by simpa using he0))
    · simp [hij] at hi
      exact hb e (List.mem_of_getElem? (i := i) (by simpa using hi))
end
end Go.Vc

/- A range over a map: its iterator, the next round, the entry. -/
namespace Go.Vc
open Go Go.RowKit

theorem EntR_split {κ α : Type} {kf : κ → Value} {vf : α → Value} {A B : List MapEntry} {e : MapEntry} {rest : List (κ × α)} (h : EntR kf vf (A ++ e :: B) rest) :
    ∃ r1 x r2, rest = r1 ++ x :: r2 ∧ EntR kf vf (A ++ B) (r1 ++ r2) ∧ e.key = kf x.1 ∧ e.val = vf x.2 := by
  unfold EntR at h
  rw [List.map_append, List.map_cons] at h
  obtain ⟨r1, r', rfl, h1, h2⟩ := List.map_eq_append_iff.1 h.symm
  obtain ⟨x, r2, rfl, h3, h4⟩ := List.map_eq_cons_iff.1 h2
  refine ⟨r1, x, r2, rfl, ?_, (Prod.mk.inj h3).1.symm, (Prod.mk.inj h3).2.symm⟩
  unfold EntR
  rw [List.map_append, List.map_append, h1, h4]

theorem leftOf_push {es : Array MapEntry} {seen : Array Nat} {A B : List MapEntry} {e : MapEntry} (hn : (es.toList.map (·.born)).Nodup) (h : (leftOf es seen).toList = A ++ e :: B) :
    (leftOf es (seen.push e.born)).toList = A ++ B := by
  have h1 : (leftOf es (seen.push e.born)).toList = ((leftOf es seen).toList).filter (fun x => x.born != e.born) := by
    unfold leftOf
    rw [Array.toList_filter, Array.toList_filter, List.filter_filter]
    congr 1
    funext x
    by_cases hx : x.born = e.born
    · simp [hx]
    · simp [hx]
  have h2 : ((A ++ e :: B).map (·.born)).Nodup := by
    rw [← h]
    unfold leftOf
    rw [Array.toList_filter]
    exact hn.sublist (List.filter_sublist.map _)
  rw [h1, h, List.filter_append, List.filter_cons]
  rw [List.map_append, List.map_cons, List.nodup_append] at h2
  obtain ⟨h3, h4, h5⟩ := h2
  rw [List.nodup_cons] at h4
  have eA : A.filter (fun x => x.born != e.born) = A := List.filter_eq_self.2 fun x hx => by
    have := h5 x.born (List.mem_map.2 ⟨x, hx, rfl⟩) e.born (List.mem_cons_self ..)
    simpa using this
  have eB : B.filter (fun x => x.born != e.born) = B := List.filter_eq_self.2 fun x hx => by
    have : x.born ≠ e.born := fun he => h4.1 (he ▸ List.mem_map.2 ⟨x, hx, rfl⟩)
    simpa using this
  rw [eA, eB]
  simp

section
variable {κ α : Type} {P : Program} {w W W' : World} {M N : Nat → Prop} {gs gs' ds : List Nat} {q r : Nat} {kf : κ → Value} {vf : α → Value} {m rest : List (κ × α)} {cur : Option (κ × α)}

/-- An iterator over a map: what is left to come, and the entry at hand. -/
structure Itr (w : World) (M : Nat → Prop) (gs : List Nat) (W : World) (q r : Nat) (kf : κ → Value) (vf : α → Value) (m rest : List (κ × α)) (cur : Option (κ × α)) : Prop where
  mine : w.heap.size ≤ q ∨ M q
  apart : q ∉ gs
  obj : ∃ (es : Array MapEntry) (clock since c0 : Nat) (seen : Array Nat), W.heap[r]? = some (.map es clock) ∧ EntR kf vf es.toList m ∧ (es.toList.map (·.born)).Nodup ∧ (∀ e ∈ es.toList, e.born < clock) ∧
    W.heap[q]? = some (.mapIter (some r) since seen c0) ∧ (∀ e ∈ es.toList, e.born < since) ∧ since ≤ c0 ∧ since ≤ clock ∧ EntR kf vf (leftOf es seen).toList rest ∧
    (∀ x, cur = some x → c0 = clock ∧ ∃ e ∈ es.toList, seen.back? = some e.born ∧ e.key = kf x.1 ∧ e.val = vf x.2)

theorem Itr.lts (h : Itr w M gs W q r kf vf m rest cur) : q < W.heap.size ∧ r < W.heap.size ∧ q ≠ r := by
  obtain ⟨es, clock, since, c0, seen, h1, _, _, _, h2, _⟩ := h.obj
  refine ⟨(Array.getElem?_eq_some_iff.1 h2).1, (Array.getElem?_eq_some_iff.1 h1).1, fun e => ?_⟩
  subst e
  rw [h1] at h2
  cases h2
theorem Itr.keep (h : Itr w M gs W q r kf vf m rest cur) (hq : W'.heap[q]? = W.heap[q]?) (hr : W'.heap[r]? = W.heap[r]?) : Itr w M gs W' q r kf vf m rest cur := by
  obtain ⟨es, clock, since, c0, seen, h1, h2, h3, h4, h5, h6⟩ := h.obj
  exact ⟨h.mine, h.apart, es, clock, since, c0, seen, by rw [hr]; exact h1, h2, h3, h4, by rw [hq]; exact h5, h6⟩
theorem Itr.chg (h : Itr w M gs W q r kf vf m rest cur) (hc : Chg N W W') (hq : ¬ N q) (hr : ¬ N r) : Itr w M gs W' q r kf vf m rest cur :=
  h.keep (hc.block q h.lts.1 hq) (hc.block r h.lts.2.1 hr)
theorem Itr.call (h : Itr w M gs W q r kf vf m rest cur) (hb : Bel W W') : Itr w M gs W' q r kf vf m rest cur := h.keep (hb.block h.lts.1) (hb.block h.lts.2.1)
theorem Itr.more (h : Itr w M gs W q r kf vf m rest cur) (hg : ∀ g ∈ gs', g ∉ gs → W.heap.size ≤ g) : Itr w M gs' W q r kf vf m rest cur :=
  ⟨h.mine, fun hr => by
    by_cases hk : q ∈ gs
    · exact h.apart hk
    · have := hg q hr hk
      have := h.lts.1
      omega, h.obj⟩
theorem Itr.evo (h : Itr w M gs W q r kf vf m rest cur) (hd : ∀ d ∈ ds, d ≠ q ∧ d ≠ r) (hb : Evo ds W W') : Itr w M gs W' q r kf vf m rest cur :=
  h.chg (Chg.of_evo hb) (fun hm => (hd q hm).1 rfl) (fun hm => (hd r hm).2 rfl)
theorem Itr.ownM (h : Itr w M gs W q r kf vf m rest cur) {w0 : World} {M0 : Nat → Prop} {gs0 : List Nat} (hm : w0.heap.size ≤ r ∨ M0 r) (ha : r ∉ gs0) : OwnM w0 M0 gs0 W r kf vf m := by
  obtain ⟨es, clock, since, c0, seen, h1, h2, h3, h4, _⟩ := h.obj
  exact ⟨hm, ha, es, clock, h1, h2, h3, h4⟩

/-- How many entries are left to come. -/
def itLeft (W : World) (q r : Nat) : Nat := match W.heap[q]?, W.heap[r]? with
  | some (.mapIter _ _ seen _), some (.map es _) => (leftOf es seen).size
  | _, _ => 0
theorem Itr.left (h : Itr w M gs W q r kf vf m rest cur) : itLeft W q r = rest.length := by
  obtain ⟨es, clock, since, c0, seen, h1, h2, h3, h4, h5, _, _, _, h6, _⟩ := h.obj
  unfold itLeft
  rw [h1, h5]
  simp only
  have := congrArg List.length h6
  simpa using this
theorem Itr.base {w' : World} {M' : Nat → Prop} (h : Itr w M gs W q r kf vf m rest cur) (hm : w'.heap.size ≤ q ∨ M' q) (ha : q ∉ gs') : Itr w' M' gs' W q r kf vf m rest cur := ⟨hm, ha, h.obj⟩
theorem Evo.bel (h : Evo ds W W') (hd : ∀ d ∈ ds, W.heap.size ≤ d) : Bel W W' := ⟨⟨h.os, h.tape, h.output, h.size, fun b hb => h.block b hb fun hm => by have := hd b hm; omega⟩, h.drawn⟩

theorem opw_range {t kt et : TypeId} {w0 : World} {M0 : Nat → Prop} {gs0 : List Nat} {K : Value → World → Prop} (ht : P.underlying t = some (.map kt et)) (hA : AtF w M gs W) (ho : OwnM w0 M0 gs0 W r kf vf m)
    (h : ∀ q w', W.heap.size = q → AtF w M gs w' → Keeps gs W w' → Bel W w' → Itr w M gs w' q r kf vf m m none → K (.pointer (some ⟨q, 0, none⟩)) w') : OpW P (valueS (Instr.range t (.map (some r)))) W K := by
  have hl := ho.lt
  obtain ⟨es, clock, hr, he, hn, hb⟩ := ho.obj
  unfold OpW
  rw [run_valueS (run_range_map (P := P) W t kt et r es clock ht hr)]
  refine h _ _ rfl (hA.call (below_alloc _)) (hA.keeps (below_alloc _)) (below_alloc _) ⟨.inl hA.size, fun hm => ?_, es, clock, clock, clock, #[], ?_, he, hn, hb, heap_alloc_new W _, hb, Nat.le_refl _, Nat.le_refl _, ?_, fun x hx => by cases hx⟩
  · have := hA.under _ hm
    omega
  · rw [heap_alloc_old W _ hl, hr]
  · have : leftOf es #[] = es := by unfold leftOf; simp
    rw [this]
    exact he

theorem opw_next {ty : TypeId} {K : Value → World → Prop} (hA : AtF w M gs W) (hi : Itr w M gs W q r kf vf m rest cur) (h0 : rest = [] → K (.tuple #[.bool false]) W)
    (h1 : ∀ x r1 r2 w', rest = r1 ++ x :: r2 → AtF w M gs w' → Keeps gs W w' → Chg (fun b => b = q) W w' → Itr w M gs w' q r kf vf m (r1 ++ r2) (some x) → K (.tuple #[.bool true, kf x.1, vf x.2]) w') :
    OpW P (valueS (Instr.next (.pointer (some ⟨q, 0, none⟩)) false ty)) W K := by
  have hlt := hi.lts
  obtain ⟨es, clock, since, c0, seen, e1, e2, e3, e4, e5, e6, e7, e8, e9, _⟩ := hi.obj
  rcases run_next_at (P := P) W ty q r since c0 seen es clock e5 e1 e6 e7 with ⟨hz, hrun⟩ | ⟨e, hel, w1, hw1, hrun⟩
  · unfold OpW
    rw [run_valueS hrun]
    refine h0 ?_
    have : (leftOf es seen).toList = [] := List.eq_nil_of_length_eq_zero (by simpa using hz)
    rw [this] at e9
    unfold EntR at e9
    exact List.map_eq_nil_iff.1 e9.symm
  · obtain ⟨A, B, hAB⟩ := List.append_of_mem hel
    have hps := leftOf_push e3 hAB
    rw [hAB] at e9
    obtain ⟨x, r1, r2, hr0, he0, hk, hv⟩ : ∃ x r1 r2, rest = r1 ++ x :: r2 ∧ EntR kf vf (A ++ B) (r1 ++ r2) ∧ e.key = kf x.1 ∧ e.val = vf x.2 := by
      obtain ⟨r1, x, r2, a, b, c, d⟩ := EntR_split e9
      exact ⟨x, r1, r2, a, b, c, d⟩
    have hmem : e ∈ es.toList := by
      unfold leftOf at hel
      rw [Array.toList_filter] at hel
      exact (List.mem_filter.1 hel).1
    have hh : w1.heap = W.heap ∧ w1.os = W.os ∧ w1.tape = W.tape ∧ w1.output = W.output ∧ W.drawn ≤ w1.drawn := by
      rcases hw1 with rfl | rfl
      · exact ⟨rfl, rfl, rfl, rfl, Nat.le_refl _⟩
      · exact ⟨rfl, rfl, rfl, rfl, Nat.le_succ _⟩
    obtain ⟨a1, a2, a3, a4, a5⟩ := hh
    have hch : Chg (fun b => b = q) W (Go.ChangeMaps.setBlock w1 q (.mapIter (some r) since (seen.push e.born) clock)) :=
      ⟨a2, a3, a4, by simp [Go.ChangeMaps.setBlock, a1], fun b _ hb => by simp [Go.ChangeMaps.setBlock, a1, Ne.symm hb], a5⟩
    unfold OpW
    rw [run_valueS hrun, hk, hv]
    refine h1 x r1 r2 _ hr0 (hA.step hch fun b _ hb => hb ▸ hi.mine) (hA.keepsC hch fun g hg hb => hi.apart (hb ▸ hg)) hch ⟨hi.mine, hi.apart, es, clock, since, clock, seen.push e.born, ?_, e2, e3, e4, ?_, e6, e8, e8, ?_, fun y hy => ?_⟩
    · rw [hch.block r hlt.2.1 (Ne.symm hlt.2.2), e1]
    · have : q < w1.heap.size := by rw [a1]; exact hlt.1
      simp [Go.ChangeMaps.setBlock, this]
    · rw [hps]; exact he0
    · cases hy
      exact ⟨rfl, e, hmem, by simp, hk, hv⟩

theorem opw_entry {x : κ × α} {K : Value → World → Prop} (hi : Itr w M gs W q r kf vf m rest (some x)) (h : K (.tuple #[kf x.1, vf x.2]) W) : OpW P (valueS (Instr.entry (.pointer (some ⟨q, 0, none⟩)))) W K := by
  obtain ⟨es, clock, since, c0, seen, e1, e2, e3, e4, e5, e6, e7, e8, e9, e10⟩ := hi.obj
  obtain ⟨rfl, e, hem, hback, hk, hv⟩ := e10 x rfl
  obtain ⟨s, rfl⟩ := Array.back?_eq_some_iff.1 hback
  unfold OpW
  rw [run_valueS (run_entry_at (P := P) W q r since s es c0 e e5 e1 hem e3), hk, hv]
  exact h
end
end Go.Vc

/- vec.Get, Text, Least; what works at all. -/
set_option maxRecDepth 20000
set_option maxHeartbeats 1000000
namespace Go.Vc.Q
open Go Go.Vc Go.Vc.V Go.RowKit Go.Proofs Vcq

variable {w W W' : World} {M : Nat → Prop} {gs : List Nat}

/-- A contract that draws no one knows how often. -/
def RetW (P : Program) (f : FuncId) (args : Array Value) (W : World) (v : Value) : Prop :=
  ∀ R : Ending → World → Prop, (∀ w', Below W.heap.size W w' → R (.returned v) w') → Calls P f args W R
theorem SlE.low {α : Type} {n : Nat} {f : α → List Value} {l : List α} {a : Option Addr} {len c : Nat} (h : SlE W n f l a len c) (hb : Below W.heap.size W W') : SlE W' n f l a len c := h.mono (cell_below hb) fun _ _ h => h
theorem Tab.low (h : Tab W) (hb : Below W.heap.size W W') : Tab W' := fun j v hv => cell_below hb _ _ (h j v hv)

/-! ### Text -/
def rank (p : PartT) : Nat := (33 * p.1 + p.2.1).toNat
theorem sorted_len : ∀ (l : List PartT) (lo : Nat), l.Pairwise slt → (∀ p ∈ l, partR p) → (∀ p ∈ l, lo ≤ rank p) → l.length ≤ 132 - lo
  | [], _, _, _, _ => Nat.zero_le _
  | p :: l, lo, h, hR, hlo => by
    have h := List.pairwise_cons.1 h
    have hp := hR p (by simp)
    have hlp := hlo p (by simp)
    have ih := sorted_len l (rank p + 1) h.2 (fun q hq => hR q (by simp [hq])) fun q hq => by
      have h1 := h.1 q hq
      have h2 := hR q (by simp [hq])
      unfold rank slt partR slotR at *
      omega
    unfold rank partR slotR at *
    simp only [List.length_cons]
    omega
theorem vec_len' {l : List PartT} (h : vecB l = true) : l.length ≤ 132 := sorted_len l 0 (vecB_iff.1 h).2 (vecB_iff.1 h).1 fun _ _ => Nat.zero_le _
noncomputable def wordB (p : PartT) : ByteArray := stext p.1 p.2.1 ++ ByteArray.mk #[58] ++ strOfNums (txtL p.2.2)
noncomputable def vtext (l : List PartT) : ByteArray := if vecB l = true then (if l = [] then ByteArray.mk #[45] else ⟨(Lib.join (l.map fun p => (wordB p).data.toList) [44]).toArray⟩) else ByteArray.mk #[]
theorem stext_small (k r : Int) : (stext k r).size ≤ 40 := by
  unfold stext
  split
  · rename_i h
    unfold slotR at h
    have := nm_small k
    split
    · omega
    · have d1 := dec_small (n := r) (by omega)
      have s2 : (ByteArray.mk #[40]).size = 1 := rfl
      have s3 : (ByteArray.mk #[41]).size = 1 := rfl
      rw [ByteArray.size_append, ByteArray.size_append, ByteArray.size_append]
      omega
  · decide
theorem strip_le (l : List Int) : (strip l).length ≤ l.length := by
  unfold strip
  rw [List.length_reverse]
  exact Nat.le_trans (List.Sublist.length_le (List.dropWhile_sublist _)) (by simp)
theorem txt_small (n : Int) : (strOfNums (txtL n)).size ≤ 1100 := by
  have e : ∀ l : List Int, (strOfNums l).size = l.length := fun l => by simp [strOfNums, ByteArray.size]
  rw [e]
  unfold txtL
  split
  · rename_i h
    have h1 := decL_short 12 (n / 1000) (by omega) (by omega)
    have h2 := decL_len (n % 1000) 3
    split
    · omega
    · refine Nat.le_trans (strip_le _) ?_
      simp only [List.length_append, List.length_cons, List.length_nil]
      omega
  · simp
theorem word_small (p : PartT) : (wordB p).size ≤ 1200 := by
  have h1 := stext_small p.1 p.2.1
  have h2 := txt_small p.2.2
  have s2 : (ByteArray.mk #[58]).size = 1 := rfl
  unfold wordB
  rw [ByteArray.size_append, ByteArray.size_append]
  omega
theorem lens_small : ∀ l : List PartT, Lib.lens (l.map fun p => (wordB p).data.toList) ≤ 1200 * l.length
  | [] => by simp [Lib.lens]
  | p :: l => by
    have ih := lens_small l
    have := word_small p
    have e : (wordB p).data.toList.length = (wordB p).size := by rw [Array.length_toList]; rfl
    unfold Lib.lens at *
    simp only [List.map_cons, List.sum_cons, List.length_cons, e]
    omega
theorem join_small (l : List PartT) : (Lib.join (l.map fun p => (wordB p).data.toList) [44]).length ≤ 1201 * l.length := by
  cases l with
  | nil => simp [Lib.join_nil]
  | cons p l =>
    have := lens_small (p :: l)
    rw [List.map_cons] at this ⊢
    rw [Lib.join_length]
    simp only [List.length_map, List.length_cons, List.length_nil] at *
    omega
theorem str_one (s : ByteArray) : ∀ u ∈ strE s, u.oneCell' = true := fun u hu => by
  simp at hu
  subst hu
  rfl
theorem part_I {l : List PartT} (hv : vecB l = true) {p : PartT} (hp : p ∈ l) : I64 p.2.2 := by
  have := ((vecB_iff.1 hv).1 p hp).2
  unfold I64
  omega

theorem c42 {l : List PartT} {a : Option Addr} {n c : Nat} (w : World) (hT : Tab w) (hs : SlE w 3 partE l a n c) : RetW Tryd.prog 42 #[.slice a n c] w (.string (vtext l)) := by
  intro R h
  refine f42_calls a n c w R ?_
  unfold f42_vc
  have hn := hs.1
  refine at_callb (At.refl w) (c41 w hs) fun w2 hA _ hb2 => ⟨_, rfl, brNB (fun hno => ?_) (fun hv => ?_)⟩
  · have := h w2 hA.below.below
    rwa [vtext, if_neg (by rw [hno]; decide)] at this
  rw [vtext, if_pos hv] at h
  have hlen := vec_len' hv
  refine ⟨fun v W' => At w [] W' ∧ ∃ i : Nat, v.2.1 = i ∧ i ≤ l.length ∧ OwnL w [] W' 9 1 strE (.slice v.1.1 v.1.2.1 v.1.2.2) ((l.take i).map wordB), fun v _ => (n - v.2.1).toNat, ⟨hA, 0, rfl, Nat.zero_le _, OwnL.nil⟩, ?_⟩
  rintro a6 n7 n8 x9 w10 ⟨hA, i, hi, hil, ho⟩
  simp only at hi ho
  subst hi
  refine brD (fun hlt => ?_) (fun hge => ?_)
  · obtain ⟨p, hp⟩ : ∃ x, l[i]? = some x := ⟨_, List.getElem?_eq_getElem (by omega)⟩
    obtain ⟨ad, g1, el, _⟩ := elt_at (P := Tryd.prog) (k := .i64) (t := 45) (hs.call hA.below) hp (e := 57) (by kernel_rfl) (by kernel_rfl)
    refine ⟨ad, g1, _, _, _, el.agg 3 (by kernel_rfl) (by kernel_rfl) (by simp) (by simp), ?_⟩
    intro n15 hn15 w16 hev hun
    have hbel := hev.bel (by simpa using hn15)
    have hA : At w [n15] w16 := ⟨(hA.call hbel).chg, hun⟩
    have ho := (ho.more (gs' := [n15]) (by intro g h1 _; simp at h1; omega)).call hbel
    have z1 := stext_small p.1 p.2.1
    have z2 := txt_small p.2.2
    have z3 : (ByteArray.mk #[58]).size = 1 := rfl
    refine at_callb hA (c49 _ _ _ w16) fun w18 hA hk hb18 => ⟨_, _, rfl, hk, ?_⟩
    refine at_callb hA (c52 _ _ w18 (hT.below hA.below)) fun w22 hA hk hb22 => ⟨_, rfl, hk, _, gives_sadd (by omega), ?_⟩
    refine at_callb hA (c53 _ w22 (part_I hv (List.mem_of_getElem? hp))) fun w26 hA hk hb26 => ⟨_, rfl, hk, _, gives_sadd (by rw [ByteArray.size_append]; omega), ?_⟩
    rw [succ_i i (by omega)]
    refine opw_push (f := strE) (e' := 9) (bytes := 16) hA (((ho.call hb18).call hb22).call hb26) (wordB p) (by kernel_rfl) (by kernel_rfl) rfl (fun _ _ => rfl) (str_one _) (by simp; omega) (by omega) fun a2 cc2 w35 hA ho _ _ => ?_
    have htk : (l.take (i + 1)).map wordB = (l.take i).map wordB ++ [wordB p] := by
      rw [List.take_add_one, hp, List.map_append]
      rfl
    rw [← htk] at ho
    refine ⟨⟨hA.off, i + 1, rfl, by omega, ?_⟩, by simp only; omega⟩
    have e : ((l.take i).map wordB ++ [wordB p]).length = ((l.take (i + 1)).map wordB).length := by rw [htk]
    simp only
    rw [e]
    exact ho.more (by simp)
  · rw [show i = l.length by omega, List.take_length] at ho
    have hno := ho.len
    rw [List.length_map] at hno
    refine brE (fun h0 => ?_) (fun h0 => ?_)
    · have hl0 : l = [] := List.eq_nil_of_length_eq_zero (by omega)
      have := h w10 hA.below.below
      rwa [if_pos hl0] at this
    · have hl0 : l ≠ [] := fun e => h0 (by rw [hno, e]; rfl)
      rw [if_neg hl0] at h
      have hlp : 0 < (l.map wordB).length := by rw [List.length_map]; exact List.length_pos_iff.2 hl0
      obtain ⟨g, cur, rfl, _, hg, hlc, hcm, _, _⟩ := ho.ptr hlp
      have hsl := ho.sl fun _ _ => rfl
      have e7 : n7 = (l.map wordB).length := by rw [List.length_map]; exact hno
      subst e7
      have hem : (l.map wordB).map (fun x => x.data.toList) = l.map fun p => (wordB p).data.toList := by rw [List.map_map]; rfl
      have hjs := join_small l
      refine (Tryd.strings_Join g 0 n8 (l.map wordB) (ByteArray.mk #[44]) w10 (fun j x hx => ?_) (Array.getElem?_eq_some_iff.1 hg).1 (by rw [List.length_map]; omega) hlc (by rw [hem]; show (Lib.join _ [44]).length ≤ _; omega)).mono fun e w40 ⟨he, hb⟩ => ⟨_, he, ?_⟩
      · obtain ⟨ad, cs, ha, _, hcs, rfl⟩ := hsl.at_ hx
        cases ha
        have := hcs 0 _ rfl
        rw [addr_add_add _ _ _ rfl, addr_add] at this
        simpa using this
      · rw [hem]
        exact h w40 (hA.below.below.trans (hb.mono hA.size))
end Go.Vc.Q

/- Own text of this claim: QE8a. -/
set_option maxRecDepth 20000
namespace Go.Vc.Q
open Go Go.Vc Go.Vc.V Go.RowKit Go.Proofs Vcq

abbrev slE (x : Int × Int) : List Value := [.int .i64 x.1, .int .i64 x.2]
def allR (k : Nat) (n : Nat) : List (Int × Int) := (List.range n).map fun r : Nat => ((k : Int), (r : Int))
def allK : Nat → List (Int × Int)
  | 0 => []
  | k + 1 => allK k ++ allR k 33
theorem allR_len (k n : Nat) : (allR k n).length = n := by simp [allR]
theorem allK_len : ∀ k, (allK k).length = 33 * k
  | 0 => rfl
  | k + 1 => by rw [allK, List.length_append, allK_len k, allR_len]; omega
theorem allK_mem : ∀ {k : Nat} {x : Int × Int}, x ∈ allK k ↔ (0 ≤ x.1 ∧ x.1 < k ∧ 0 ≤ x.2 ∧ x.2 ≤ 32)
  | 0, x => by simp [allK]; omega
  | k + 1, x => by
    rw [allK, List.mem_append, allK_mem (k := k)]
    have : x ∈ allR k 33 ↔ (x.1 = k ∧ 0 ≤ x.2 ∧ x.2 ≤ 32) := by
      unfold allR
      rw [List.mem_map]
      constructor
      · rintro ⟨r, hr, rfl⟩
        have := List.mem_range.1 hr
        exact ⟨rfl, by simp only; omega, by simp only; omega⟩
      · rintro ⟨h1, h2, h3⟩
        refine ⟨x.2.toNat, List.mem_range.2 (by omega), ?_⟩
        obtain ⟨x1, x2⟩ := x
        simp only at h1 h2 h3 ⊢
        rw [h1, Int.toNat_of_nonneg h2]
    rw [this]
    omega
theorem all_mem {x : Int × Int} : x ∈ allK 4 ↔ slotR x.1 x.2 := by
  rw [allK_mem]
  unfold slotR
  omega

end Go.Vc.Q

/- Own text of this claim: QE8b. -/
set_option maxRecDepth 20000
namespace Go.Vc.Q
open Go Go.Vc Go.Vc.V Go.RowKit Go.Proofs Vcq

end Go.Vc.Q

/- The reference's Right, Get, with, Only, Holds, Least, Sub. -/
set_option maxRecDepth 20000
set_option maxHeartbeats 1000000
namespace Go.Vc.Q
open Go Go.Vc Go.Vc.V Go.RowKit Go.Proofs Vcq

variable {w W W' : World} {M : Nat → Prop} {gs : List Nat}

theorem c32 (a b c : Int) (w : World) : Ret Tryd.prog 32 #[.agg #[.int .i64 a, .int .i64 b, .int .i64 c]] w (slotV a b) := by
  intro R h
  refine f32_calls a b c w R ?_
  unfold f32_vc
  intro n1 h1 n2 h2 w' hev _
  exact h _ (Chg.below ((Chg.of_evo hev).mono fun b hb hm => by simp at hm; omega))

theorem c16 {l : List PartT} {a : Option Addr} {n c : Nat} (w : World) (hs : SlE w 3 partE l a n c) : Ret Tryd.prog 16 #[.slice a n c] w (.bool (vecB l)) := by
  intro R h
  refine f16_calls a n c w R ?_
  unfold f16_vc
  have hn := hs.1
  have hlen := hs.len_le.2
  refine ⟨fun s W => At w [] W ∧ ∃ k : Nat, s.1 = k ∧ k ≤ l.length ∧ vok (if k = 0 then none else l[k - 1]?) (l.drop k) = vecB l, fun s _ => (n - s.1).toNat, ⟨At.refl w, 0, rfl, Nat.zero_le _, rfl⟩, ?_⟩
  rintro x3 w4 ⟨hA, k, hi, hk, hv⟩
  simp only at hi
  subst hi
  refine brD (fun hlt => ?_) (fun hge => leaf h hA ?_)
  · obtain ⟨p, hp⟩ : ∃ x, l[k]? = some x := ⟨_, List.getElem?_eq_getElem (by omega)⟩
    obtain ⟨ad, g1, el, _⟩ := elt_at (P := Tryd.prog) (k := .i64) (t := 45) (hs.call hA.below) hp (e := 57) (by kernel_rfl) (by kernel_rfl)
    rw [vok_step hp] at hv
    rw [succ_i k (by omega)]
    refine ⟨ad, g1, _, _, _, el.agg 3 (by kernel_rfl) (by kernel_rfl) (by simp) (by simp), ?_⟩
    intro w9 hb9
    refine at_callb (hA.call hb9) (c32 _ _ _ w9) fun w11 hA _ hb11 => ⟨_, _, rfl, ?_⟩
    refine at_callb hA (c31 _ _ w11) fun w15 hA _ hb15 => ⟨_, rfl, brND (fun h1 => leaf h hA ?_) (fun h1 => ?_)⟩
    · rw [← hv, decide_eq_false (show ¬ partR p from fun hh => h1 hh.1)]
      rfl
    have el := el.below ((hb9.trans hb11).trans hb15)
    have ra : ∀ {W'}, Bel w15 W' → Reads Tryd.prog [] (Instr.loadAt 2 (.pointer (some ⟨ad.block, ad.off + 2, none⟩))) W' (.int .i64 p.2.2) := fun hb => ((el.below hb).sub (o := 2) (by decide)).one (by kernel_rfl) (by simp)
    have b0 := (At.refl w15).below
    refine ⟨ad, g1, _, ra b0, brD (fun h2 => leaf h hA ?_) (fun h2 => ⟨ad, g1, _, ra b0, brD (fun h3 => leaf h hA ?_) (fun h3 => ?_)⟩)⟩
    · rw [← hv, decide_eq_false (show ¬ partR p from fun hh => by have := hh.2.1; omega)]
      rfl
    · rw [← hv, decide_eq_false (show ¬ partR p from fun hh => by have := hh.2.2; omega)]
      rfl
    have hR : partR p := ⟨h1, by omega, by omega⟩
    rw [decide_eq_true hR, Bool.true_and] at hv
    refine brD (fun h4 => ?_) (fun h4 => ?_)
    · obtain ⟨q, hq⟩ : ∃ x, l[k - 1]? = some x := ⟨_, List.getElem?_eq_getElem (by omega)⟩
      obtain ⟨ad2, g2, el2, _⟩ := elt_at (P := Tryd.prog) (k := .i64) (t := 45) (hs.call hA.below) hq (e := 57) (by kernel_rfl) (by kernel_rfl)
      have e2 : IntKind.i64.wrap ((k : Int) - 1) = ((k - 1 : Nat) : Int) := by rw [wrap_i64 (by omega) (by omega)]; omega
      rw [e2]
      have rp : ∀ {W'}, Bel w15 W' → Reads Tryd.prog [] (Instr.loadAt 57 (.pointer (some ad))) W' (.agg ((partE p).take 3).toArray) := fun hb => (el.below hb).agg 3 (by kernel_rfl) (by kernel_rfl) (by simp) (by simp)
      refine ⟨ad2, g2, _, _, _, el2.agg 3 (by kernel_rfl) (by kernel_rfl) (by simp) (by simp), ad, g1, _, _, _, rp b0, ?_⟩
      refine at_callb hA (c32 _ _ _ w15) fun w30 hA _ hb30 => ⟨_, _, rfl, rp hb30, ra hb30, ra hb30, ?_⟩
      refine at_callb hA (c32 _ _ _ w30) fun w34 hA _ hb34 => ⟨_, _, rfl, ra (hb30.trans hb34), ra (hb30.trans hb34), ?_⟩
      refine at_callb hA (c33 _ _ _ _ w34) fun w38 hA _ hb38 => ⟨_, rfl, ra ((hb30.trans hb34).trans hb38), ra ((hb30.trans hb34).trans hb38), ?_⟩
      rw [if_neg (show ¬ k = 0 by omega), hq] at hv
      refine brD (fun h5 => leaf h hA ?_) (fun h5 => ?_)
      · rw [slotC_ge] at h5
        rw [← hv]
        simp [okB, h5]
      · rw [slotC_ge] at h5
        refine ⟨⟨hA, k + 1, rfl, by omega, ?_⟩, by simp only; omega⟩
        rw [if_neg (by omega), show k + 1 - 1 = k by omega, hp, ← hv]
        simp only [Classical.not_not] at h5
        simp [okB, h5]
    · rw [if_pos (show k = 0 by omega)] at hv
      refine ⟨⟨hA, k + 1, rfl, by omega, ?_⟩, by simp only; omega⟩
      rw [if_neg (by omega), show k + 1 - 1 = k by omega, hp, ← hv]
      simp [okB]
  · rw [show k = l.length by omega, List.drop_length, vok_nil] at hv
    rw [← hv]

def withL (k r x : Int) : List PartT := if x = 0 then [] else [(k, r, x)]
end Go.Vc.Q

/- Own text of this claim: QG1a. -/
set_option maxRecDepth 20000
namespace Go.Vc.Q
open Go Go.Vc Go.Vc.V Go.RowKit Go.Proofs Vcq

/-- A name's kind. -/
def kindOf (s : ByteArray) : Int × Bool := if s = sCpus then (0, true) else if s = sMem then (1, true) else if s = sDisk then (2, true) else if s = sGpus then (3, true) else (0, false)
theorem kind_map (s : ByteArray) : lookV2 (Value.int .i64) (.int .i64 0) (mget s (mset sGpus (3 : Int) (mset sDisk 2 (mset sMem 1 (mset sCpus 0 []))))) = .tuple #[.int .i64 (kindOf s).1, .bool (kindOf s).2] := by
  have e : mset sGpus (3 : Int) (mset sDisk 2 (mset sMem 1 (mset sCpus 0 []))) = [(sCpus, 0), (sMem, 1), (sDisk, 2), (sGpus, 3)] := by decide
  rw [e]
  unfold kindOf
  simp only [mget, lookV2]
  by_cases h0 : s = sCpus
  · simp [h0]
  · by_cases h1 : s = sMem
    · subst h1; simp [h0]
    · by_cases h2 : s = sDisk
      · subst h2; simp [h0, h1]
      · by_cases h3 : s = sGpus
        · subst h3; simp [h0, h1, h2]
        · simp [h0, h1, h2, h3]

end Go.Vc.Q

/- Own text of this claim: QG1b. -/
set_option maxRecDepth 20000
namespace Go.Vc.Q
open Go Go.Vc Go.Vc.V Go.RowKit Go.Proofs Vcq

theorem c64 (w : World) : RetL Tryd.prog 64 #[] w 9 1 strE nms := by
  intro R h
  refine f64_calls w R ?_
  unfold f64_vc
  have hA := At.refl w
  refine opw_litL (e' := 9) (f := strE) (l := nms) (size := 1) hA rfl (fun _ _ => rfl) (by decide) (by kernel_rfl) fun g w' _ hA _ _ ho => ⟨_, _, _, rfl, ?_⟩
  exact leafl h hA ho rfl

theorem c54 (k r : Int) (w : World) : Ret Tryd.prog 54 #[slotV k r] w (.string (stext k r)) := by
  intro R h
  refine f54_calls k r w R ?_
  unfold f54_vc
  have hA := At.refl w
  refine go_n hA fun n1 h_n1 => ?_
  refine go_below hA fun _ hA => ?_
  refine at_call hA (c31 _ _ _) (fun _ hA hk => ?_)
  first | refine ⟨_, rfl, hk, ?_⟩ | refine ⟨_, _, rfl, hk, ?_⟩ | refine ⟨_, _, _, rfl, hk, ?_⟩ | refine ⟨_, _, _, _, rfl, hk, ?_⟩ | refine ⟨_, _, _, _, _, rfl, hk, ?_⟩ | refine ⟨_, _, _, _, _, _, rfl, hk, ?_⟩ | refine ⟨_, _, _, _, _, _, _, rfl, hk, ?_⟩ | refine ⟨_, _, _, _, _, _, _, _, rfl, hk, ?_⟩
  refine brND (fun hn => leaf h hA (by rw [stext, if_neg hn])) (fun hs => ?_)
  have hs' := hs
  unfold slotR at hs'
  refine go_below hA fun _ hA => ?_
  refine at_calll hA (c64 _) (fun _ _ => rfl) fun a c w8 hA hk hb ho hsl => ⟨_, _, _, rfl, hk, ?_⟩
  obtain ⟨q, rfl⟩ : ∃ q : Nat, k = q := ⟨k.toNat, by omega⟩
  obtain ⟨ad, g1, r1⟩ := rd_one (te := 9) (ds := []) (k := .i64) (t := 52) (P := Tryd.prog) (e := 9) hsl (nm_at (k := q) (by omega)) rfl (by kernel_rfl) (by kernel_rfl) (by kernel_rfl) (fun _ h => by cases h)
  refine ⟨_, g1, _, r1, brE (fun h0 => leaf h hA (by rw [stext, if_pos hs, if_pos h0])) (fun h0 => ?_)⟩
  have s1 := nm_small q
  have s2 : (ByteArray.mk #[40]).size = 1 := rfl
  have s3 : (ByteArray.mk #[41]).size = 1 := rfl
  have d1 := dec_small (n := r) (by omega)
  have fin : ∀ {l : List Int} W, decL r 1 = l → At w [n1] W → ∃ s, Gives Tryd.prog (binOpS .add 9 (.tmp 0) (.tmp 0) (.string (nmOf q ++ ByteArray.mk #[40])) (.string (strOfNums l))) (.string s) ∧ ∃ s2, Gives Tryd.prog (binOpS .add 9 (.tmp 0) (.const (.string (ByteArray.mk #[41]))) (.string s) (.string (ByteArray.mk #[41]))) (.string s2) ∧ R (.returned (.string s2)) W := by
    intro l W hl hA
    subst hl
    exact ⟨_, gives_sadd (by rw [ByteArray.size_append]; omega), _, gives_sadd (by rw [ByteArray.size_append, ByteArray.size_append]; omega), leaf h hA (by rw [stext, if_pos hs, if_neg h0])⟩
  refine brD (fun hlt => ?_) (fun hge => ?_)
  · have e : IntKind.u8.wrap (IntKind.i64.wrap (48 + r)) = 48 + r := by
      rw [wrap_i64 (by omega) (by omega), wrap_u8]
      omega
    rw [e]
    refine ⟨_, gives_sadd (by omega), ?_⟩
    refine opw_litL (f := u8e) (l := [48 + r]) (size := 1) (e' := 5) hA rfl (fun _ _ => rfl) (by decide) (by kernel_rfl) fun g w' _ hA hk _ ho => ⟨_, _, _, rfl, hk, ?_⟩
    refine opw_b2s (e := 5) (by kernel_rfl) (by kernel_rfl) (by kernel_rfl) (ho.sl (by simp)) ⟨_, rfl, fun _ _ => rfl, ?_⟩
    obtain ⟨s, g1, s2, g2, hr⟩ := fin w' (digit1 (d := r) (by omega)) hA
    exact ⟨s, g1, s2, g2, hr⟩
  · rw [Int.tdiv_eq_ediv_of_nonneg (by omega), Int.tmod_eq_emod_of_nonneg (by omega)]
    have e : IntKind.u8.wrap (IntKind.i64.wrap (48 + IntKind.i64.wrap (r / 10))) = 48 + r / 10 := by
      rw [wrap_i64 (x := r / 10) (by omega) (by omega), wrap_i64 (by omega) (by omega), wrap_u8]
      omega
    have e2 : IntKind.u8.wrap (IntKind.i64.wrap (48 + r % 10)) = 48 + r % 10 := by
      rw [wrap_i64 (by omega) (by omega), wrap_u8]
      omega
    rw [e, e2]
    refine ⟨_, gives_sadd (by omega), ?_⟩
    refine opw_litL (f := u8e) (l := [48 + r / 10, 48 + r % 10]) (size := 1) (e' := 5) hA rfl (fun _ _ => rfl) (by decide) (by kernel_rfl) fun g w' _ hA hk _ ho => ⟨_, _, _, rfl, hk, ?_⟩
    refine opw_b2s (e := 5) (by kernel_rfl) (by kernel_rfl) (by kernel_rfl) (ho.sl (by simp)) ⟨_, rfl, fun _ _ => rfl, ?_⟩
    obtain ⟨s, g1, s2, g2, hr⟩ := fin w' (dec2 (r := r) (by omega) (by omega)) hA
    exact ⟨s, g1, s2, g2, hr⟩

end Go.Vc.Q

/- Parts of strings. -/
namespace Go.Vc
open Go Go.RowKit
section
variable {P : Program}

theorem bytesOf_extract (s : ByteArray) (a b : Nat) : bytesOf (s.extract a b) = ((bytesOf s).drop a).take (b - a) := by
  obtain ⟨d⟩ := s
  have h : (ByteArray.mk d).extract a b = ByteArray.mk ((d.toList.drop a).take (b - a)).toArray := by
    have := ByteArray.extract_mk d.toList a b
    simpa using this
  rw [h]
  simp only [bytesOf, List.map_take, List.map_drop]

theorem gives_str_to {t : TypeId} {s : ByteArray} {i : Nat} {k : IntKind} (ht : P.underlying t = some .string) (hi : i ≤ s.size) : Gives P (Instr.sliceAt t (.string s) none (some (.int k (i : Int))) none) (.string (s.extract 0 i)) := by
  intro W
  rw [run_sliceAt_string W t _ _ _ _ ht]
  have := run_slice_string_h (P := P) W t s ht k (i : Int) (by omega) (by omega)
  rw [this]
  simp
theorem gives_str_from {t : TypeId} {s : ByteArray} {i : Nat} {k : IntKind} (ht : P.underlying t = some .string) (hi : i ≤ s.size) : Gives P (Instr.sliceAt t (.string s) (some (.int k (i : Int))) none none) (.string (s.extract i s.size)) := by
  intro W
  rw [run_sliceAt_string W t _ _ _ _ ht]
  have := run_slice_string_l (P := P) W t s ht k (i : Int) (by omega) (by omega)
  rw [this]
  simp
end
end Go.Vc

/- Own text of this claim: QG3. -/
set_option maxRecDepth 20000
namespace Go.Vc.Q
open Go Go.Vc Go.Vc.V Go.RowKit Go.Proofs Vcq

/-- Digits by the reference: put in front, one by one. -/
theorem c35 (n : Int) (w : World) (hn : 0 ≤ n ∧ n ≤ 9223372036854775807) : Ret Tryd.prog 35 #[.int .i64 n] w (.string (strOfNums (decL n 1))) := by
  intro R h
  refine f35_calls n w R ?_
  unfold f35_vc
  have hA := At.refl w
  have hlen := decL_short 18 n hn.1 (by omega)
  refine ⟨fun s W => At w [] W ∧ ∃ t : List Int, s.2.1 = strOfNums t ∧ (0 ≤ s.1 ∧ s.1 ≤ n) ∧ (if s.2.2.1 = true then decL s.1 1 ++ t = decL n 1 else t = decL n 1), fun s _ => if s.2.2.1 = true then s.1.toNat + 1 else 0, ⟨hA, [], rfl, by show 0 ≤ n ∧ n ≤ n; omega, by simp⟩, ?_⟩
  intro x s b W ⟨hA, t, hs, hx, ht⟩
  simp only at hs hx ht
  subst hs
  refine brB (fun hb => ?_) (fun hb => ?_)
  · rw [if_pos hb] at ht
    rw [u8_digit hx.1, Int.tdiv_eq_ediv_of_nonneg hx.1, wrap_i64 (by omega) (by omega)]
    refine opw_lit hA (e' := 5) (cs := u8e (48 + x % 10)) (by kernel_rfl) fun w' hA hk hbw hc hh => ⟨_, _, _, rfl, ?_⟩
    have ho : OwnL w [] w' 5 1 u8e (.slice (some ⟨W.heap.size, 0, none⟩) 1 1) [48 + x % 10] :=
      ⟨⟨rfl, .inr ⟨_, 1, _, rfl, Nat.zero_le _, hh, Nat.le_refl _, by decide, rfl, rfl⟩⟩, fun k hk => .inl (by cases hk; exact (by assumption : At w [] W).size), fun _ h => by cases h⟩
    refine opw_b2s (e := 5) (by kernel_rfl) (by kernel_rfl) (by kernel_rfl) (ho.sl (by simp)) ⟨_, rfl, ?_⟩
    have hsz : (strOfNums [48 + x % 10]).size + (strOfNums t).size ≤ 9223372036854775807 := by
      rw [strOfNums_size, strOfNums_size]
      have := congrArg List.length ht
      rw [List.length_append] at this
      simp
      omega
    refine ⟨_, gives_sadd hsz, ?_⟩
    rw [strOfNums_append]
    have hst : (if 0 < x / 10 then decL (x / 10) 1 ++ ([48 + x % 10] ++ t) = decL n 1 else [48 + x % 10] ++ t = decL n 1) := by
      rw [decL] at ht
      by_cases h10 : 10 ≤ x
      · rw [if_pos (.inl h10), decL_one _ (1 - 1) (by omega)] at ht
        rw [if_pos (by omega), ← ht, List.append_assoc]
      · rw [if_neg (by omega)] at ht
        rw [if_neg (by omega), ← ht]
    refine ⟨⟨hA, _, rfl, by show 0 ≤ x / 10 ∧ x / 10 ≤ n; omega, ?_⟩, ?_⟩
    · simp only [decide_eq_true_eq]
      exact hst
    · simp only [decide_eq_true_eq, hb, if_true]
      split <;> omega
  · rw [if_neg (by simp [hb])] at ht
    subst ht
    exact leaf h hA rfl

theorem decL3 {r : Int} (h : 0 ≤ r ∧ r < 1000) : decL r 3 = [48 + r / 100, 48 + r / 10 % 10, 48 + r % 10] := by
  rw [decL, if_pos (.inr (by omega)), decL, if_pos (.inr (by omega)), decL, if_neg (by omega)]
  have e1 : r / 10 / 10 % 10 = r / 100 := by omega
  rw [e1]
  rfl

/-- What is behind the point. -/
def frac3 (r : Int) : List Int := if r % 10 = 0 then (if r / 10 % 10 = 0 then [48 + r / 100] else [48 + r / 100, 48 + r / 10 % 10]) else [48 + r / 100, 48 + r / 10 % 10, 48 + r % 10]
theorem strip3 (l : List Int) {r : Int} (h : 0 < r ∧ r < 1000) : strip (l ++ decL r 3) = l ++ frac3 r := by
  rw [decL3 (by omega), frac3]
  have e3 : l ++ [48 + r / 100, 48 + r / 10 % 10, 48 + r % 10] = (l ++ [48 + r / 100, 48 + r / 10 % 10]) ++ [48 + r % 10] := by simp
  have e2 : l ++ [48 + r / 100, 48 + r / 10 % 10] = (l ++ [48 + r / 100]) ++ [48 + r / 10 % 10] := by simp
  rw [e3]
  by_cases h1 : r % 10 = 0
  · rw [if_pos h1, h1, show (48 : Int) + 0 = 48 from rfl, strip_snoc, e2]
    by_cases h2 : r / 10 % 10 = 0
    · rw [if_pos h2, h2, show (48 : Int) + 0 = 48 from rfl, strip_snoc, strip_keep _ (by omega)]
    · rw [if_neg h2, strip_keep _ (by omega)]
      simp
  · rw [if_neg h1, strip_keep _ (by omega)]
    simp

theorem c55 (n : Int) (w : World) (hn : I64 n) : Ret Tryd.prog 55 #[.int .i64 n] w (.string (strOfNums (txtL n))) := by
  intro R h
  refine f55_calls n w R ?_
  unfold f55_vc
  have hA := At.refl w
  refine brD (fun h1 => leaf h hA (by rw [txtL, if_neg (by omega)]; rfl)) (fun h1 => ?_)
  refine brD (fun h2 => leaf h hA (by rw [txtL, if_neg (by omega)]; rfl)) (fun h2 => ?_)
  rw [txtL, if_pos (by omega)] at h
  rw [Int.tdiv_eq_ediv_of_nonneg (by omega), Int.tmod_eq_emod_of_nonneg (by omega), wrap_i64 (by omega) (by omega)]
  refine at_call hA (c35 _ _ (by omega)) (fun _ hA hk => ⟨_, rfl, ?_⟩)
  have hlen := decL_len (n / 1000) 1
  refine brE (fun h0 => ?_) (fun h0 => ?_)
  · rw [if_pos h0] at h
    exact leaf h hA rfl
  · rw [if_neg h0] at h
    have hdot : (ByteArray.mk #[46]) = strOfNums [46] := rfl
    rw [hdot]
    refine ⟨_, gives_sadd (by rw [strOfNums_size, strOfNums_size]; simp; omega), ?_⟩
    rw [strOfNums_append]
    generalize hp : decL (n / 1000) 1 ++ [46] = p at *
    have hpl : p.length ≤ 70368744177000 := by rw [← hp]; simp; omega
    have hr : 0 < n % 1000 ∧ n % 1000 < 1000 := by omega
    rw [strip3 _ hr] at h
    generalize n % 1000 = r at *
    -- after i rounds: what is left, and what has been put behind the point
    refine ⟨fun s W => At w [] W ∧ ∃ t : List Int, s.1 = strOfNums (p ++ t) ∧ ((s.2.1 = r ∧ s.2.2.1 = 100 ∧ t = []) ∨ (s.2.1 = r % 100 ∧ s.2.2.1 = 10 ∧ t = [48 + r / 100]) ∨ (s.2.1 = r % 10 ∧ s.2.2.1 = 1 ∧ t = [48 + r / 100, 48 + r / 10 % 10] ∧ r % 100 ≠ 0) ∨ (s.2.1 = 0 ∧ s.2.2.1 = 0 ∧ t = [48 + r / 100, 48 + r / 10 % 10, 48 + r % 10] ∧ r % 10 ≠ 0)), fun s _ => s.2.2.1.toNat, ⟨hA, [], by simp, .inl ⟨rfl, rfl, rfl⟩⟩, ?_⟩
    intro s x k W ⟨hA, t, hs, hst⟩
    simp only at hs hst
    subst hs
    have round : ∀ {x k : Int} {t : List Int}, 0 < x → 0 < k → k ≤ 100 → x / k < 10 → x < 1000 → t.length ≤ 3 → ∀ {w0 : World}, At w [] w0 → (∀ w', At w [] w' → (At w [] w' ∧ ∃ t' : List Int, strOfNums (p ++ (t ++ [48 + x / k])) = strOfNums (p ++ t') ∧ ((x % k = r ∧ k / 10 = 100 ∧ t' = []) ∨ (x % k = r % 100 ∧ k / 10 = 10 ∧ t' = [48 + r / 100]) ∨ (x % k = r % 10 ∧ k / 10 = 1 ∧ t' = [48 + r / 100, 48 + r / 10 % 10] ∧ r % 100 ≠ 0) ∨ (x % k = 0 ∧ k / 10 = 0 ∧ t' = [48 + r / 100, 48 + r / 10 % 10, 48 + r % 10] ∧ r % 10 ≠ 0)))) →
        ∃ x11, Gives Tryd.prog (binOpS BinOp.quo 2 (Operand.tmp 27) (Operand.tmp 28) (.int .i64 x) (.int .i64 k)) (.int .i64 x11) ∧ Calls Tryd.prog 35 #[.int .i64 x11] w0 fun e w13 => ∃ s14, e = .returned (.string s14) ∧ ∃ s15, Gives Tryd.prog (binOpS BinOp.add 9 (Operand.tmp 26) (Operand.tmp 30) (.string (strOfNums (p ++ t))) (.string s14)) (.string s15) ∧ ∃ x16, Gives Tryd.prog (binOpS BinOp.rem 2 (Operand.tmp 32) (Operand.tmp 33) (.int .i64 x) (.int .i64 k)) (.int .i64 x16) ∧
          (At w [] w13 ∧ ∃ t' : List Int, s15 = strOfNums (p ++ t') ∧ ((x16 = r ∧ IntKind.i64.wrap (k.tdiv 10) = 100 ∧ t' = []) ∨ (x16 = r % 100 ∧ IntKind.i64.wrap (k.tdiv 10) = 10 ∧ t' = [48 + r / 100]) ∨ (x16 = r % 10 ∧ IntKind.i64.wrap (k.tdiv 10) = 1 ∧ t' = [48 + r / 100, 48 + r / 10 % 10] ∧ r % 100 ≠ 0) ∨ (x16 = 0 ∧ IntKind.i64.wrap (k.tdiv 10) = 0 ∧ t' = [48 + r / 100, 48 + r / 10 % 10, 48 + r % 10] ∧ r % 10 ≠ 0))) ∧ (IntKind.i64.wrap (k.tdiv 10)).toNat < k.toNat := by
      intro x k t hx hk hk2 hd hx2 ht w0 hA hfin
      have l0 : 0 ≤ x / k := Int.ediv_nonneg (by omega) (by omega)
      refine ⟨_, gives_quo (by omega), ?_⟩
      rw [Int.tdiv_eq_ediv_of_nonneg (by omega), wrap_i64 (by omega) (by omega)]
      refine at_call hA (c35 _ _ (by omega)) (fun w13 hA _ => ⟨_, rfl, _, gives_sadd (by rw [strOfNums_size, strOfNums_size, digit1 ⟨l0, hd⟩]; simp; omega), _, gives_rem (by omega), ?_⟩)
      rw [digit1 ⟨l0, hd⟩, strOfNums_append, List.append_assoc, Int.tmod_eq_emod_of_nonneg (by omega), Int.tdiv_eq_ediv_of_nonneg (by omega), wrap_i64 (x := k / 10) (by omega) (by omega)]
      exact ⟨hfin w13 hA, by omega⟩
    refine brD (fun hpos => ?_) (fun hneg => ?_)
    · rcases hst with ⟨rfl, rfl, rfl⟩ | ⟨rfl, rfl, rfl⟩ | ⟨rfl, rfl, rfl, hne⟩ | ⟨rfl, rfl, rfl, hne⟩
      · refine round hpos (by omega) (by omega) (by omega) (by omega) (by simp) hA fun w' hA => ⟨hA, _, rfl, .inr (.inl ⟨rfl, rfl, rfl⟩)⟩
      · refine round hpos (by omega) (by omega) (by omega) (by omega) (by simp) hA fun w' hA => ⟨hA, _, rfl, .inr (.inr (.inl ⟨by omega, rfl, ?_, by omega⟩))⟩
        rw [show r % 100 / 10 = r / 10 % 10 by omega]
        rfl
      · refine round hpos (by omega) (by omega) (by omega) (by omega) (by simp) hA fun w' hA => ⟨hA, _, rfl, .inr (.inr (.inr ⟨by omega, rfl, ?_, by omega⟩))⟩
        rw [show r % 10 / 1 = r % 10 by omega]
        rfl
      · omega
    · refine leaf h hA ?_
      rcases hst with ⟨rfl, rfl, rfl⟩ | ⟨rfl, rfl, rfl⟩ | ⟨rfl, rfl, rfl, hne⟩ | ⟨rfl, rfl, rfl, hne⟩
      · omega
      · rw [frac3, if_pos (by omega), if_pos (by omega)]
      · rw [frac3, if_pos (by omega), if_neg (by omega)]
      · rw [frac3, if_neg hne]
end Go.Vc.Q

/- Texts, plainly. -/
set_option maxRecDepth 20000
set_option linter.unusedVariables false
namespace Go.Vc.Q
open Go Go.Vc Go.Vc.V Go.RowKit Go.Proofs Vcq

theorem join_snoc (c : UInt8) : ∀ (x : List UInt8) (r : List (List UInt8)) (y : List UInt8), Lib.join (x :: r ++ [y]) [c] = Lib.join (x :: r) [c] ++ [c] ++ y
  | x, r, y => by
    rw [List.cons_append, Lib.join_cons, Lib.join_cons]
    simp [Lib.joinTail]
theorem text_wrong {v : List PartT} (h : ¬ vecB v = true) : vtext v = ByteArray.mk #[] := by
  unfold vtext
  rw [if_neg h]
theorem toList_beq (t s : ByteArray) : (t.toList == s.toList) = decide (t = s) := by
  by_cases h : t = s
  · subst h; simp
  · have : t.toList ≠ s.toList := fun e => h (by
      rw [ByteArray.toList_eq, ByteArray.toList_eq] at e
      have := Array.ext' e
      cases t; cases s
      simpa using this)
    simp [h, this]
theorem text_small (v : List PartT) : (vtext v).size ≤ 200000 := by
  unfold vtext
  split
  · rename_i hv
    split
    · decide
    · have := join_small v
      have hl := vec_len' hv
      have e : ∀ l : List UInt8, (⟨l.toArray⟩ : ByteArray).size = l.length := fun l => by simp [ByteArray.size]
      rw [e]
      omega
  · decide
end Go.Vc.Q

/- The reference's Text; VecTexts. -/
set_option maxRecDepth 20000
set_option maxHeartbeats 1000000
namespace Go.Vc.Q
open Go Go.Vc Go.Vc.V Go.RowKit Go.Proofs Vcq

variable {w W W' : World} {M : Nat → Prop} {gs : List Nat}

noncomputable def jn (l : List PartT) : ByteArray := ⟨(Lib.join (l.map fun p => (wordB p).data.toList) [44]).toArray⟩
theorem ba_ext {a b : ByteArray} (h : a.data.toList = b.data.toList) : a = b := by
  obtain ⟨a⟩ := a
  obtain ⟨b⟩ := b
  congr 1
  exact Array.ext' h
theorem jn_one (p : PartT) : jn [p] = wordB p := ba_ext (by
  show (Lib.join [(wordB p).data.toList] [44]).toArray.toList = _
  rw [Lib.join_one])
theorem jn_snoc {l : List PartT} (h : l ≠ []) (p : PartT) : jn (l ++ [p]) = jn l ++ ByteArray.mk #[44] ++ wordB p := by
  cases l with
  | nil => exact absurd rfl h
  | cons x r =>
    refine ba_ext ?_
    rw [ByteArray.data_append, Array.toList_append, ByteArray.data_append, Array.toList_append]
    show (Lib.join ((x :: r ++ [p]).map fun p => (wordB p).data.toList) [44]).toArray.toList = (Lib.join ((x :: r).map fun p => (wordB p).data.toList) [44]).toArray.toList ++ [44] ++ (wordB p).data.toList
    rw [List.map_append, List.map_cons, List.map_cons, List.map_nil, join_snoc]
theorem jn_size (l : List PartT) : (jn l).size ≤ 1201 * l.length := by
  have := join_small l
  have e : (jn l).size = (Lib.join (l.map fun p => (wordB p).data.toList) [44]).length := by simp [jn, ByteArray.size]
  omega
theorem jn_ne {l : List PartT} (h : l ≠ []) : jn l ≠ ByteArray.mk #[] := by
  cases l with
  | nil => exact absurd rfl h
  | cons x r =>
    intro e
    have h1 := congrArg (fun b : ByteArray => b.data.toList.length) e
    have h2 : (jn (x :: r)).data.toList = (wordB x).data.toList ++ Lib.joinTail [44] (r.map fun p => (wordB p).data.toList) := by
      show (Lib.join ((x :: r).map fun p => (wordB p).data.toList) [44]).toArray.toList = _
      rw [List.map_cons, Lib.join_cons]
    have h3 : (wordB x).data.toList = (stext x.1 x.2.1).data.toList ++ 58 :: (strOfNums (txtL x.2.2)).data.toList := by
      unfold wordB
      rw [ByteArray.data_append, Array.toList_append, ByteArray.data_append, Array.toList_append]
      simp
    simp only [h2, h3] at h1
    simp at h1
theorem text_jn {l : List PartT} (hv : vecB l = true) : vtext l = if l = [] then ByteArray.mk #[45] else jn l := by
  unfold vtext
  rw [if_pos hv]
  rfl

theorem c43 {l : List PartT} {a : Option Addr} {n c : Nat} (w : World) (hs : SlE w 3 partE l a n c) : Ret Tryd.prog 43 #[.slice a n c] w (.string (vtext l)) := by
  intro R h
  refine f43_calls a n c w R ?_
  unfold f43_vc
  have hn := hs.1
  refine at_callb (At.refl w) (c16 w hs) fun w2 hA _ hb2 => ⟨_, rfl, brNB (fun hno => leaf h hA ?_) (fun hv => ?_)⟩
  · rw [text_wrong (by rw [hno]; decide)]
  rw [text_jn hv] at h
  have hlen := vec_len' hv
  refine ⟨fun v W' => At w [] W' ∧ ∃ i : Nat, v.2.1 = i ∧ i ≤ l.length ∧ v.1 = jn (l.take i), fun v _ => (n - v.2.1).toNat, ⟨hA, 0, rfl, Nat.zero_le _, ?_⟩, ?_⟩
  · refine ba_ext ?_
    show [] = (Lib.join [] [44]).toArray.toList
    rw [Lib.join_nil]
  rintro s6 x7 w8 ⟨hA, i, hi, hil, he⟩
  simp only at hi he
  subst hi he
  refine brD (fun hlt => ?_) (fun hge => ?_)
  · obtain ⟨p, hp⟩ : ∃ x, l[i]? = some x := ⟨_, List.getElem?_eq_getElem (by omega)⟩
    obtain ⟨ad, g1, el, _⟩ := elt_at (P := Tryd.prog) (k := .i64) (t := 45) hs hp (e := 57) (by kernel_rfl) (by kernel_rfl)
    have rp : ∀ {W'}, Bel w W' → Reads Tryd.prog [] (Instr.loadAt 57 (.pointer (some ad))) W' (.agg ((partE p).take 3).toArray) := fun hb => (el.below hb).agg 3 (by kernel_rfl) (by kernel_rfl) (by simp) (by simp)
    have ra : ∀ {W'}, Bel w W' → Reads Tryd.prog [] (Instr.loadAt 2 (.pointer (some ⟨ad.block, ad.off + 2, none⟩))) W' (.int .i64 p.2.2) := fun hb => ((el.below hb).sub (o := 2) (by decide)).one (by kernel_rfl) (by simp)
    have hI := part_I hv (List.mem_of_getElem? hp)
    have z0 := jn_size (l.take i)
    have z4 : (l.take i).length ≤ i := by simp; omega
    have z1 := stext_small p.1 p.2.1
    have z2 := txt_small p.2.2
    have z3 : (ByteArray.mk #[58]).size = 1 := rfl
    have z5 : (ByteArray.mk #[44]).size = 1 := rfl
    have htk : l.take (i + 1) = l.take i ++ [p] := by rw [List.take_add_one, hp]; rfl
    rw [succ_i i (by omega)]
    refine brD (fun hpos => ?_) (fun hzero => ?_)
    · have hne : l.take i ≠ [] := fun e => by
        have := congrArg List.length e
        rw [List.length_take, List.length_nil] at this
        omega
      refine ⟨_, gives_sadd (by omega), ad, g1, _, _, _, rp hA.below, ad, g1, _, ra hA.below, ?_⟩
      intro w16 hb16
      refine at_callb (hA.call hb16) (c32 _ _ _ w16) fun w18 hA _ hb18 => ⟨_, _, rfl, ra hA.below, ?_⟩
      refine at_callb hA (c54 _ _ w18) fun w22 hA _ hb22 => ⟨_, rfl, ra hA.below, _, gives_sadd (by rw [ByteArray.size_append]; omega), _, gives_sadd (by rw [ByteArray.size_append, ByteArray.size_append]; omega), ?_⟩
      refine at_callb hA (c55 _ w22 hI) fun w27 hA _ hb27 => ⟨_, rfl, _, gives_sadd (by rw [ByteArray.size_append, ByteArray.size_append, ByteArray.size_append]; omega), ?_⟩
      refine ⟨⟨hA, i + 1, rfl, by omega, ?_⟩, by simp only; omega⟩
      simp only
      rw [htk, jn_snoc hne]
      unfold wordB
      simp only [ByteArray.append_assoc]
    · have h0 : i = 0 := by omega
      subst h0
      refine ⟨ad, g1, _, _, _, rp hA.below, ad, g1, _, ra hA.below, ?_⟩
      intro w36 hb36
      refine at_callb (hA.call hb36) (c32 _ _ _ w36) fun w38 hA _ hb38 => ⟨_, _, rfl, ra hA.below, ?_⟩
      refine at_callb hA (c54 _ _ w38) fun w42 hA _ hb42 => ⟨_, rfl, ra hA.below, _, gives_sadd (by omega), _, gives_sadd (by rw [ByteArray.size_append]; omega), ?_⟩
      refine at_callb hA (c55 _ w42 hI) fun w47 hA _ hb47 => ⟨_, rfl, _, gives_sadd (by rw [ByteArray.size_append, ByteArray.size_append]; omega), ?_⟩
      refine ⟨⟨hA, 0 + 1, rfl, by omega, ?_⟩, by simp only; omega⟩
      simp only
      rw [htk, List.take_zero, List.nil_append, jn_one]
      have e0 : jn [] = ByteArray.empty := ba_ext (by
        show (Lib.join [] [44]).toArray.toList = []
        rw [Lib.join_nil])
      rw [e0, ByteArray.empty_append]
      rfl
  · rw [show i = l.length by omega, List.take_length, toList_beq]
    refine brD (fun he => leaf h hA ?_) (fun hne => leaf h hA ?_)
    · have : l = [] := Classical.byContradiction fun hh => jn_ne hh he
      rw [if_pos this]
    · have : l ≠ [] := fun hh => hne (by
        subst hh
        refine ba_ext ?_
        show (Lib.join [] [44]).toArray.toList = []
        rw [Lib.join_nil])
      rw [if_neg this]

end Go.Vc.Q

/- The formulas of functions, printed by a program (VcTool.lean): each is what the generator's formula comes to, by the kernel's reckoning; whoever proves one has the function's contract. -/
set_option maxRecDepth 100000
set_option maxHeartbeats 1000000
set_option linter.unusedVariables false
namespace Vcq
open Go Go.Vc Go.RowKit
/-! manciple/mancipleref21.Few -/
def h5 : Hints := ⟨[], [15, 23, 33, 37], [9, 27, 44], [], [], [(3, ⟨[(3, .int .i64), (4, .int .i64)], []⟩), (7, ⟨[(3, .int .i64), (5, .int .i64)], []⟩)], [], [], []⟩
def f5_vc (la : Option Addr) (ln : Nat) (lc : Nat) (w : World) (R : Ending → World → Prop) : Prop :=
 ∃ (J1 : Int × Int × Unit → World → Prop),
 ∃ (J2 : Int × Int × Unit → World → Nat),
 J1 (0, 0, ()) w ∧
 ∀ (x3 x4 : Int) (w5 : World),
 J1 (x3, x4, ()) w5 →
 (decide (x4 < (↑ln : Int)) = true →
 ∃ (ad6 : Addr),
 Gives Proofs.Tryd.prog (Instr.indexAt 27 (Value.slice la ln lc) (Value.int IntKind.i64 x4)) (Value.pointer (some ad6)) ∧
 ∃ (a7 : Option Addr),
 ∃ (n8 : Nat),
 ∃ (n9 : Nat),
 Reads Proofs.Tryd.prog [] (Instr.loadAt 23 (Value.pointer (some (Addr.mk ad6.block (ad6.off + 1) none)))) w5 (Value.slice a7 n8 n9) ∧
 ∃ (J10 : Int × Int × Unit → World → Prop),
 ∃ (J11 : Int × Int × Unit → World → Nat),
 J10 (IntKind.i64.wrap (x3 + (↑n8 : Int)), 0, ()) w5 ∧
 ∀ (x12 x13 : Int) (w14 : World),
 J10 (x12, x13, ()) w14 →
 ∃ (ad15 : Addr),
 Gives Proofs.Tryd.prog (Instr.indexAt 27 (Value.slice la ln lc) (Value.int IntKind.i64 x4)) (Value.pointer (some ad15)) ∧
 ∃ (a16 : Option Addr),
 ∃ (n17 : Nat),
 ∃ (n18 : Nat),
 Reads Proofs.Tryd.prog [] (Instr.loadAt 23 (Value.pointer (some (Addr.mk ad15.block (ad15.off + 1) none)))) w14 (Value.slice a16 n17 n18) ∧
 (decide (x13 < (↑n17 : Int)) = true →
 ∃ (ad19 : Addr),
 Gives Proofs.Tryd.prog (Instr.indexAt 27 (Value.slice la ln lc) (Value.int IntKind.i64 x4)) (Value.pointer (some ad19)) ∧
 ∃ (a20 : Option Addr),
 ∃ (n21 : Nat),
 ∃ (n22 : Nat),
 Reads Proofs.Tryd.prog [] (Instr.loadAt 23 (Value.pointer (some (Addr.mk ad19.block (ad19.off + 1) none)))) w14 (Value.slice a20 n21 n22) ∧
 ∃ (ad23 : Addr),
 Gives Proofs.Tryd.prog (Instr.indexAt 23 (Value.slice a20 n21 n22) (Value.int IntKind.i64 x13)) (Value.pointer (some ad23)) ∧
 ∃ (a24 : Option Addr),
 ∃ (n25 : Nat),
 ∃ (n26 : Nat),
 Reads Proofs.Tryd.prog [] (Instr.loadAt 45 (Value.pointer (some (Addr.mk ad23.block (ad23.off + 4) none)))) w14 (Value.slice a24 n25 n26) ∧
 J10 (IntKind.i64.wrap (x12 + (↑n25 : Int)), IntKind.i64.wrap (x13 + 1), ()) w14 ∧
 J11 (IntKind.i64.wrap (x12 + (↑n25 : Int)), IntKind.i64.wrap (x13 + 1), ()) w14 < J11 (x12, x13, ()) w14) ∧
 (decide (x13 < (↑n17 : Int)) = false → J1 (x12, IntKind.i64.wrap (x4 + 1), ()) w14 ∧ J2 (x12, IntKind.i64.wrap (x4 + 1), ()) w14 < J2 (x3, x4, ()) w5)) ∧
 (decide (x4 < (↑ln : Int)) = false →
 (decide (x3 ≤ 2000) = true → Calls Proofs.Tryd.prog 16 #[Value.slice none 0 0] w5 fun (e27 : Ending) (w28 : World) => ∃ (b29 : Bool), e27 = Ending.returned (Value.bool b29) ∧ R (Ending.returned (Value.bool b29)) w28) ∧
 (decide (x3 ≤ 2000) = false → R (Ending.returned (Value.bool false)) w5))
theorem f5_eq (la : Option Addr) (ln : Nat) (lc : Nat) (w : World) (R : Ending → World → Prop) : (fnF Go.Proofs.Tryd.prog h5 Go.Proofs.Tryd.f5 [Value.slice la ln lc] w R).den = f5_vc la ln lc w R := by kernel_rfl
theorem f5_calls (la : Option Addr) (ln : Nat) (lc : Nat) (w : World) (R : Ending → World → Prop) (h : f5_vc la ln lc w R) : Calls Go.Proofs.Tryd.prog 5 (List.toArray [Value.slice la ln lc]) w R :=
 fn_sound (H := h5) (fn := Go.Proofs.Tryd.f5) (by kernel_rfl) (by kernel_rfl) (by kernel_rfl) ((f5_eq la ln lc w R).mpr h)

/-! manciple/mancipleref34.Reply -/
def h7 : Hints := ⟨[1], [16, 20, 23], [12], [], [], [(3, ⟨[(3, .str), (4, .int .i64)], []⟩)], [], [], []⟩
def f7_vc (r_0 : Int) (r_1a : Option Addr) (r_1n : Nat) (r_1c : Nat) (w : World) (R : Ending → World → Prop) : Prop :=
 ∀ (n1 : Nat),
 w.heap.size ≤ n1 →
 ∀ (w2 : World),
 Bel w w2 →
 Under [n1] w2 →
 Calls Proofs.Tryd.prog 9 #[Value.int IntKind.i64 r_0] w2 fun (e3 : Ending) (w4 : World) =>
 ∃ (s5 : ByteArray),
 e3 = Ending.returned (Value.string s5) ∧
 Keeps [n1] w2 w4 ∧
 ∃ (J6 : ByteArray × Int × Unit → World → Prop),
 ∃ (J7 : ByteArray × Int × Unit → World → Nat),
 J6 (s5, 0, ()) w4 ∧
 ∀ (s8 : ByteArray) (x9 : Int) (w10 : World),
 J6 (s8, x9, ()) w10 →
 (decide (x9 < (↑r_1n : Int)) = true →
 ∃ (s11 : ByteArray),
 Gives Proofs.Tryd.prog (binOpS BinOp.add 9 (Operand.tmp 15) (Operand.const (Value.string (ByteArray.mk #[59, 32]))) (Value.string s8) (Value.string (ByteArray.mk #[59, 32]))) (Value.string s11) ∧
 ∃ (ad12 : Addr),
 Gives Proofs.Tryd.prog (Instr.indexAt 23 (Value.slice r_1a r_1n r_1c) (Value.int IntKind.i64 x9)) (Value.pointer (some ad12)) ∧
 ∃ (x13 : Int),
 ∃ (x14 : Int),
 ∃ (x15 : Int),
 ∃ (x16 : Int),
 ∃ (a17 : Option Addr),
 ∃ (n18 : Nat),
 ∃ (n19 : Nat),
 Reads Proofs.Tryd.prog [] (Instr.loadAt 47 (Value.pointer (some ad12))) w10
 (Value.agg #[Value.int IntKind.i64 x13, Value.int IntKind.i64 x14, Value.int IntKind.i64 x15, Value.int IntKind.i64 x16, Value.slice a17 n18 n19]) ∧
 Calls Proofs.Tryd.prog 18 #[Value.agg #[Value.int IntKind.i64 x13, Value.int IntKind.i64 x14, Value.int IntKind.i64 x15, Value.int IntKind.i64 x16, Value.slice a17 n18 n19]] w10
 fun (e20 : Ending) (w21 : World) =>
 ∃ (s22 : ByteArray),
 e20 = Ending.returned (Value.string s22) ∧
 Keeps [n1] w10 w21 ∧
 ∃ (s23 : ByteArray),
 Gives Proofs.Tryd.prog (binOpS BinOp.add 9 (Operand.tmp 16) (Operand.tmp 22) (Value.string s11) (Value.string s22)) (Value.string s23) ∧
 J6 (s23, IntKind.i64.wrap (x9 + 1), ()) w21 ∧ J7 (s23, IntKind.i64.wrap (x9 + 1), ()) w21 < J7 (s8, x9, ()) w10) ∧
 (decide (x9 < (↑r_1n : Int)) = false → R (Ending.returned (Value.string s8)) w10)
theorem f7_eq (r_0 : Int) (r_1a : Option Addr) (r_1n : Nat) (r_1c : Nat) (w : World) (R : Ending → World → Prop) : (fnF Go.Proofs.Tryd.prog h7 Go.Proofs.Tryd.f7 [Value.agg #[Value.int IntKind.i64 r_0, Value.slice r_1a r_1n r_1c]] w R).den = f7_vc r_0 r_1a r_1n r_1c w R := by kernel_rfl
theorem f7_calls (r_0 : Int) (r_1a : Option Addr) (r_1n : Nat) (r_1c : Nat) (w : World) (R : Ending → World → Prop) (h : f7_vc r_0 r_1a r_1n r_1c w R) : Calls Go.Proofs.Tryd.prog 7 (List.toArray [Value.agg #[Value.int IntKind.i64 r_0, Value.slice r_1a r_1n r_1c]]) w R :=
 fn_sound (H := h7) (fn := Go.Proofs.Tryd.f7) (by kernel_rfl) (by kernel_rfl) (by kernel_rfl) ((f7_eq r_0 r_1a r_1n r_1c w R).mpr h)

/-! manciple/mancipleref34.Err -/
def h9 : Hints := ⟨[], [21, 27, 31], [24, 7, 13], [], [], [], [], [], []⟩
def f9_vc (e : Int) (w : World) (R : Ending → World → Prop) : Prop :=
 OpW Proofs.Tryd.prog
 (valueS
 (Instr.buildSlice 52 45
 #[(0, Value.string (ByteArray.mk #[111, 107])), (1, Value.string (ByteArray.mk #[102, 111, 114, 109])), (2, Value.string (ByteArray.mk #[116, 119, 105, 99, 101])), (3, Value.string (ByteArray.mk #[])),
 (4, Value.string (ByteArray.mk #[])), (5, Value.string (ByteArray.mk #[])), (6, Value.string (ByteArray.mk #[])), (7, Value.string (ByteArray.mk #[])), (8, Value.string (ByteArray.mk #[])), (9, Value.string (ByteArray.mk #[])),
 (10, Value.string (ByteArray.mk #[110, 111, 32, 102, 114, 97, 109, 101, 119, 111, 114, 107])), (11, Value.string (ByteArray.mk #[110, 111, 32, 97, 103, 101, 110, 116])),
 (12, Value.string (ByteArray.mk #[110, 111, 32, 111, 102, 102, 101, 114])), (13, Value.string (ByteArray.mk #[110, 111, 32, 116, 97, 115, 107])), (14, Value.string (ByteArray.mk #[])), (15, Value.string (ByteArray.mk #[])),
 (16, Value.string (ByteArray.mk #[])), (17, Value.string (ByteArray.mk #[])), (18, Value.string (ByteArray.mk #[])), (19, Value.string (ByteArray.mk #[])), (20, Value.string (ByteArray.mk #[116, 111, 116, 97, 108, 115])),
 (21, Value.string (ByteArray.mk #[114, 111, 108, 101])), (22, Value.string (ByteArray.mk #[119, 101, 105, 103, 104, 116])), (23, Value.string (ByteArray.mk #[103, 111, 110, 101])),
 (24, Value.string (ByteArray.mk #[111, 119, 110, 101, 114])), (25, Value.string (ByteArray.mk #[115, 112, 97, 110])), (26, Value.string (ByteArray.mk #[108, 105, 118, 101])),
 (27, Value.string (ByteArray.mk #[102, 111, 114, 101, 105, 103, 110])), (28, Value.string (ByteArray.mk #[])), (29, Value.string (ByteArray.mk #[])), (30, Value.string (ByteArray.mk #[115, 104, 111, 114, 116])),
 (31, Value.string (ByteArray.mk #[109, 111, 115, 116])), (32, Value.string (ByteArray.mk #[99, 97, 112])), (33, Value.string (ByteArray.mk #[104, 111, 114, 105, 122, 111, 110])), (34, Value.string (ByteArray.mk #[105, 100, 115])),
 (35, Value.string (ByteArray.mk #[])), (36, Value.string (ByteArray.mk #[])), (37, Value.string (ByteArray.mk #[])), (38, Value.string (ByteArray.mk #[])), (39, Value.string (ByteArray.mk #[])),
 (40, Value.string (ByteArray.mk #[110, 105, 108])), (41, Value.string (ByteArray.mk #[97, 114, 103, 117, 109, 101, 110, 116])), (42, Value.string (ByteArray.mk #[116, 104, 101, 114, 101])),
 (43, Value.string (ByteArray.mk #[110, 111, 110, 101])), (44, Value.string (ByteArray.mk #[116, 101, 120, 116]))]))
 w fun (v1 : Value) (w2 : World) =>
 ∃ (a3 : Option Addr),
 ∃ (n4 : Nat),
 ∃ (n5 : Nat),
 v1 = Value.slice a3 n4 n5 ∧
 (decide (e ≥ 0) = true →
 (decide (e < (↑n4 : Int)) = true →
 ∃ (ad6 : Addr),
 Gives Proofs.Tryd.prog
 (Instr.indexAt 52 (Value.slice a3 n4 n5)
 (Value.int IntKind.i64
 (if (if IntKind.i64.wrap ((↑n4 : Int) - 1) < e then IntKind.i64.wrap ((↑n4 : Int) - 1) else e) > 0 then if IntKind.i64.wrap ((↑n4 : Int) - 1) < e then IntKind.i64.wrap ((↑n4 : Int) - 1) else e else 0)))
 (Value.pointer (some ad6)) ∧
 ∃ (s7 : ByteArray),
 Reads Proofs.Tryd.prog [] (Instr.loadAt 9 (Value.pointer (some ad6))) w2 (Value.string s7) ∧
 ((!s7.toList == (ByteArray.mk #[]).toList) = true →
 ∃ (ad8 : Addr),
 Gives Proofs.Tryd.prog (Instr.indexAt 52 (Value.slice a3 n4 n5) (Value.int IntKind.i64 e)) (Value.pointer (some ad8)) ∧
 ∃ (s9 : ByteArray), Reads Proofs.Tryd.prog [] (Instr.loadAt 9 (Value.pointer (some ad8))) w2 (Value.string s9) ∧ R (Ending.returned (Value.string s9)) w2) ∧
 ((!s7.toList == (ByteArray.mk #[]).toList) = false →
 Calls Proofs.Tryd.prog 20 #[Value.int IntKind.i64 e] w2 fun (e10 : Ending) (w11 : World) =>
 ∃ (s12 : ByteArray),
 e10 = Ending.returned (Value.string s12) ∧
 ∃ (s13 : ByteArray),
 Gives Proofs.Tryd.prog
 (binOpS BinOp.add 9 (Operand.const (Value.string (ByteArray.mk #[101, 114, 114, 111, 114, 32]))) (Operand.tmp 30) (Value.string (ByteArray.mk #[101, 114, 114, 111, 114, 32])) (Value.string s12))
 (Value.string s13) ∧
 R (Ending.returned (Value.string s13)) w11)) ∧
 (decide (e < (↑n4 : Int)) = false →
 Calls Proofs.Tryd.prog 20 #[Value.int IntKind.i64 e] w2 fun (e14 : Ending) (w15 : World) =>
 ∃ (s16 : ByteArray),
 e14 = Ending.returned (Value.string s16) ∧
 ∃ (s17 : ByteArray),
 Gives Proofs.Tryd.prog
 (binOpS BinOp.add 9 (Operand.const (Value.string (ByteArray.mk #[101, 114, 114, 111, 114, 32]))) (Operand.tmp 30) (Value.string (ByteArray.mk #[101, 114, 114, 111, 114, 32])) (Value.string s16))
 (Value.string s17) ∧
 R (Ending.returned (Value.string s17)) w15)) ∧
 (decide (e ≥ 0) = false →
 Calls Proofs.Tryd.prog 20 #[Value.int IntKind.i64 e] w2 fun (e18 : Ending) (w19 : World) =>
 ∃ (s20 : ByteArray),
 e18 = Ending.returned (Value.string s20) ∧
 ∃ (s21 : ByteArray),
 Gives Proofs.Tryd.prog (binOpS BinOp.add 9 (Operand.const (Value.string (ByteArray.mk #[101, 114, 114, 111, 114, 32]))) (Operand.tmp 30) (Value.string (ByteArray.mk #[101, 114, 114, 111, 114, 32])) (Value.string s20))
 (Value.string s21) ∧
 R (Ending.returned (Value.string s21)) w19)
theorem f9_eq (e : Int) (w : World) (R : Ending → World → Prop) : (fnF Go.Proofs.Tryd.prog h9 Go.Proofs.Tryd.f9 [Value.int IntKind.i64 e] w R).den = f9_vc e w R := by kernel_rfl
theorem f9_calls (e : Int) (w : World) (R : Ending → World → Prop) (h : f9_vc e w R) : Calls Go.Proofs.Tryd.prog 9 (List.toArray [Value.int IntKind.i64 e]) w R :=
 fn_sound (H := h9) (fn := Go.Proofs.Tryd.f9) (by kernel_rfl) (by kernel_rfl) (by kernel_rfl) ((f9_eq e w R).mpr h)

/-! manciple/mancipleref34.Kind -/
def h11 : Hints := ⟨[], [13, 17], [10, 7], [], [], [], [], [], []⟩
def f11_vc (k : Int) (w : World) (R : Ending → World → Prop) : Prop :=
 OpW Proofs.Tryd.prog
 (valueS
 (Instr.buildSlice 52 20
 #[(0, Value.string (ByteArray.mk #[])), (1, Value.string (ByteArray.mk #[114, 101, 103, 105, 115, 116, 101, 114, 101, 100])), (2, Value.string (ByteArray.mk #[108, 101, 102, 116])),
 (3, Value.string (ByteArray.mk #[115, 117, 98, 115, 99, 114, 105, 98, 101, 100])), (4, Value.string (ByteArray.mk #[100, 105, 115, 99, 111, 110, 110, 101, 99, 116, 101, 100])), (5, Value.string (ByteArray.mk #[103, 111, 110, 101])),
 (6, Value.string (ByteArray.mk #[111, 102, 102, 101, 114, 101, 100])), (7, Value.string (ByteArray.mk #[97, 99, 99, 101, 112, 116, 101, 100])), (8, Value.string (ByteArray.mk #[100, 101, 99, 108, 105, 110, 101, 100])),
 (9, Value.string (ByteArray.mk #[114, 101, 115, 99, 105, 110, 100, 101, 100])), (10, Value.string (ByteArray.mk #[101, 120, 112, 105, 114, 101, 100])), (11, Value.string (ByteArray.mk #[108, 111, 115, 116])),
 (12, Value.string (ByteArray.mk #[100, 114, 111, 112, 112, 101, 100])), (13, Value.string (ByteArray.mk #[108, 97, 117, 110, 99, 104, 101, 100])), (14, Value.string (ByteArray.mk #[107, 105, 108, 108, 101, 100])),
 (15, Value.string (ByteArray.mk #[102, 105, 110, 105, 115, 104, 101, 100])), (16, Value.string (ByteArray.mk #[116, 97, 115, 107, 45, 108, 111, 115, 116])),
 (17, Value.string (ByteArray.mk #[116, 97, 115, 107, 45, 100, 114, 111, 112, 112, 101, 100])), (18, Value.string (ByteArray.mk #[114, 101, 115, 101, 114, 118, 101, 100])),
 (19, Value.string (ByteArray.mk #[117, 110, 114, 101, 115, 101, 114, 118, 101, 100]))]))
 w fun (v1 : Value) (w2 : World) =>
 ∃ (a3 : Option Addr),
 ∃ (n4 : Nat),
 ∃ (n5 : Nat),
 v1 = Value.slice a3 n4 n5 ∧
 (decide (k ≥ 1) = true →
 (decide (k ≤ 19) = true →
 ∃ (ad6 : Addr),
 Gives Proofs.Tryd.prog (Instr.indexAt 52 (Value.slice a3 n4 n5) (Value.int IntKind.i64 k)) (Value.pointer (some ad6)) ∧
 ∃ (s7 : ByteArray), Reads Proofs.Tryd.prog [] (Instr.loadAt 9 (Value.pointer (some ad6))) w2 (Value.string s7) ∧ R (Ending.returned (Value.string s7)) w2) ∧
 (decide (k ≤ 19) = false →
 Calls Proofs.Tryd.prog 20 #[Value.int IntKind.i64 k] w2 fun (e8 : Ending) (w9 : World) =>
 ∃ (s10 : ByteArray),
 e8 = Ending.returned (Value.string s10) ∧
 ∃ (s11 : ByteArray),
 Gives Proofs.Tryd.prog
 (binOpS BinOp.add 9 (Operand.const (Value.string (ByteArray.mk #[101, 118, 101, 110, 116, 32]))) (Operand.tmp 16) (Value.string (ByteArray.mk #[101, 118, 101, 110, 116, 32])) (Value.string s10))
 (Value.string s11) ∧
 R (Ending.returned (Value.string s11)) w9)) ∧
 (decide (k ≥ 1) = false →
 Calls Proofs.Tryd.prog 20 #[Value.int IntKind.i64 k] w2 fun (e12 : Ending) (w13 : World) =>
 ∃ (s14 : ByteArray),
 e12 = Ending.returned (Value.string s14) ∧
 ∃ (s15 : ByteArray),
 Gives Proofs.Tryd.prog (binOpS BinOp.add 9 (Operand.const (Value.string (ByteArray.mk #[101, 118, 101, 110, 116, 32]))) (Operand.tmp 16) (Value.string (ByteArray.mk #[101, 118, 101, 110, 116, 32])) (Value.string s14))
 (Value.string s15) ∧
 R (Ending.returned (Value.string s15)) w13)
theorem f11_eq (k : Int) (w : World) (R : Ending → World → Prop) : (fnF Go.Proofs.Tryd.prog h11 Go.Proofs.Tryd.f11 [Value.int IntKind.i64 k] w R).den = f11_vc k w R := by kernel_rfl
theorem f11_calls (k : Int) (w : World) (R : Ending → World → Prop) (h : f11_vc k w R) : Calls Go.Proofs.Tryd.prog 11 (List.toArray [Value.int IntKind.i64 k]) w R :=
 fn_sound (H := h11) (fn := Go.Proofs.Tryd.f11) (by kernel_rfl) (by kernel_rfl) (by kernel_rfl) ((f11_eq k w R).mpr h)

/-! manciple/mancipleref34.Event -/
def h18 : Hints := ⟨[1], [20, 24, 34, 38, 48, 52, 62, 66], [14, 18, 32, 46, 60, 10, 28, 42, 56], [], [], [], [], [], []⟩
def f18_vc (e_0 : Int) (e_1 : Int) (e_2 : Int) (e_3 : Int) (e_4a : Option Addr) (e_4n : Nat) (e_4c : Nat) (w : World) (R : Ending → World → Prop) : Prop :=
 ∀ (n1 : Nat),
 w.heap.size ≤ n1 →
 ∀ (w2 : World),
 Bel w w2 →
 Under [n1] w2 →
 Calls Proofs.Tryd.prog 11 #[Value.int IntKind.i64 e_0] w2 fun (e3 : Ending) (w4 : World) =>
 ∃ (s5 : ByteArray),
 e3 = Ending.returned (Value.string s5) ∧
 Keeps [n1] w2 w4 ∧
 (decide (e_0 < 1) = true → R (Ending.returned (Value.string s5)) w4) ∧
 (decide (e_0 < 1) = false →
 (decide (e_0 > 19) = true → R (Ending.returned (Value.string s5)) w4) ∧
 (decide (e_0 > 19) = false →
 (decide (e_0 ≥ 3) = true →
 ∃ (s6 : ByteArray),
 Gives Proofs.Tryd.prog
 (binOpS BinOp.add 9 (Operand.tmp 19) (Operand.const (Value.string (ByteArray.mk #[32, 102, 114, 97, 109, 101, 32]))) (Value.string s5) (Value.string (ByteArray.mk #[32, 102, 114, 97, 109, 101, 32])))
 (Value.string s6) ∧
 Calls Proofs.Tryd.prog 20 #[Value.int IntKind.i64 e_1] w4 fun (e7 : Ending) (w8 : World) =>
 ∃ (s9 : ByteArray),
 e7 = Ending.returned (Value.string s9) ∧
 Keeps [n1] w4 w8 ∧
 ∃ (s10 : ByteArray),
 Gives Proofs.Tryd.prog (binOpS BinOp.add 9 (Operand.tmp 20) (Operand.tmp 23) (Value.string s6) (Value.string s9)) (Value.string s10) ∧
 (decide (e_0 ≥ 6) = true →
 (decide (e_0 ≤ 17) = true →
 ∃ (s11 : ByteArray),
 Gives Proofs.Tryd.prog
 (binOpS BinOp.add 9 (Operand.tmp 33) (Operand.const (Value.string (ByteArray.mk #[32, 105, 100, 32]))) (Value.string s10) (Value.string (ByteArray.mk #[32, 105, 100, 32])))
 (Value.string s11) ∧
 Calls Proofs.Tryd.prog 20 #[Value.int IntKind.i64 e_2] w8 fun (e12 : Ending) (w13 : World) =>
 ∃ (s14 : ByteArray),
 e12 = Ending.returned (Value.string s14) ∧
 Keeps [n1] w8 w13 ∧
 ∃ (s15 : ByteArray),
 Gives Proofs.Tryd.prog (binOpS BinOp.add 9 (Operand.tmp 34) (Operand.tmp 37) (Value.string s11) (Value.string s14)) (Value.string s15) ∧
 (decide (e_0 ≤ 2) = true →
 ∃ (s16 : ByteArray),
 Gives Proofs.Tryd.prog
 (binOpS BinOp.add 9 (Operand.tmp 47) (Operand.const (Value.string (ByteArray.mk #[32, 97, 103, 101, 110, 116, 32]))) (Value.string s15)
 (Value.string (ByteArray.mk #[32, 97, 103, 101, 110, 116, 32])))
 (Value.string s16) ∧
 Calls Proofs.Tryd.prog 20 #[Value.int IntKind.i64 e_3] w13 fun (e17 : Ending) (w18 : World) =>
 ∃ (s19 : ByteArray),
 e17 = Ending.returned (Value.string s19) ∧
 Keeps [n1] w13 w18 ∧
 ∃ (s20 : ByteArray),
 Gives Proofs.Tryd.prog (binOpS BinOp.add 9 (Operand.tmp 48) (Operand.tmp 51) (Value.string s16) (Value.string s19)) (Value.string s20) ∧
 ((e_0 == 1) = true →
 ∃ (s21 : ByteArray),
 Gives Proofs.Tryd.prog
 (binOpS BinOp.add 9 (Operand.tmp 61) (Operand.const (Value.string (ByteArray.mk #[32]))) (Value.string s20)
 (Value.string (ByteArray.mk #[32])))
 (Value.string s21) ∧
 Calls Proofs.Tryd.prog 30 #[Value.slice e_4a e_4n e_4c] w18 fun (e22 : Ending) (w23 : World) =>
 ∃ (s24 : ByteArray),
 e22 = Ending.returned (Value.string s24) ∧
 Keeps [n1] w18 w23 ∧
 ∃ (s25 : ByteArray),
 Gives Proofs.Tryd.prog (binOpS BinOp.add 9 (Operand.tmp 62) (Operand.tmp 65) (Value.string s21) (Value.string s24))
 (Value.string s25) ∧
 R (Ending.returned (Value.string s25)) w23) ∧
 ((e_0 == 1) = false →
 (decide (e_0 ≥ 6) = true →
 ∃ (s26 : ByteArray),
 Gives Proofs.Tryd.prog
 (binOpS BinOp.add 9 (Operand.tmp 61) (Operand.const (Value.string (ByteArray.mk #[32]))) (Value.string s20)
 (Value.string (ByteArray.mk #[32])))
 (Value.string s26) ∧
 Calls Proofs.Tryd.prog 30 #[Value.slice e_4a e_4n e_4c] w18 fun (e27 : Ending) (w28 : World) =>
 ∃ (s29 : ByteArray),
 e27 = Ending.returned (Value.string s29) ∧
 Keeps [n1] w18 w28 ∧
 ∃ (s30 : ByteArray),
 Gives Proofs.Tryd.prog (binOpS BinOp.add 9 (Operand.tmp 62) (Operand.tmp 65) (Value.string s26) (Value.string s29))
 (Value.string s30) ∧
 R (Ending.returned (Value.string s30)) w28) ∧
 (decide (e_0 ≥ 6) = false → R (Ending.returned (Value.string s20)) w18))) ∧
 (decide (e_0 ≤ 2) = false →
 (decide (e_0 ≥ 6) = true →
 ∃ (s31 : ByteArray),
 Gives Proofs.Tryd.prog
 (binOpS BinOp.add 9 (Operand.tmp 47) (Operand.const (Value.string (ByteArray.mk #[32, 97, 103, 101, 110, 116, 32]))) (Value.string s15)
 (Value.string (ByteArray.mk #[32, 97, 103, 101, 110, 116, 32])))
 (Value.string s31) ∧
 Calls Proofs.Tryd.prog 20 #[Value.int IntKind.i64 e_3] w13 fun (e32 : Ending) (w33 : World) =>
 ∃ (s34 : ByteArray),
 e32 = Ending.returned (Value.string s34) ∧
 Keeps [n1] w13 w33 ∧
 ∃ (s35 : ByteArray),
 Gives Proofs.Tryd.prog (binOpS BinOp.add 9 (Operand.tmp 48) (Operand.tmp 51) (Value.string s31) (Value.string s34)) (Value.string s35) ∧
 ((e_0 == 1) = true →
 ∃ (s36 : ByteArray),
 Gives Proofs.Tryd.prog
 (binOpS BinOp.add 9 (Operand.tmp 61) (Operand.const (Value.string (ByteArray.mk #[32]))) (Value.string s35)
 (Value.string (ByteArray.mk #[32])))
 (Value.string s36) ∧
 Calls Proofs.Tryd.prog 30 #[Value.slice e_4a e_4n e_4c] w33 fun (e37 : Ending) (w38 : World) =>
 ∃ (s39 : ByteArray),
 e37 = Ending.returned (Value.string s39) ∧
 Keeps [n1] w33 w38 ∧
 ∃ (s40 : ByteArray),
 Gives Proofs.Tryd.prog (binOpS BinOp.add 9 (Operand.tmp 62) (Operand.tmp 65) (Value.string s36) (Value.string s39))
 (Value.string s40) ∧
 R (Ending.returned (Value.string s40)) w38) ∧
 ((e_0 == 1) = false →
 (decide (e_0 ≥ 6) = true →
 ∃ (s41 : ByteArray),
 Gives Proofs.Tryd.prog
 (binOpS BinOp.add 9 (Operand.tmp 61) (Operand.const (Value.string (ByteArray.mk #[32]))) (Value.string s35)
 (Value.string (ByteArray.mk #[32])))
 (Value.string s41) ∧
 Calls Proofs.Tryd.prog 30 #[Value.slice e_4a e_4n e_4c] w33 fun (e42 : Ending) (w43 : World) =>
 ∃ (s44 : ByteArray),
 e42 = Ending.returned (Value.string s44) ∧
 Keeps [n1] w33 w43 ∧
 ∃ (s45 : ByteArray),
 Gives Proofs.Tryd.prog (binOpS BinOp.add 9 (Operand.tmp 62) (Operand.tmp 65) (Value.string s41) (Value.string s44))
 (Value.string s45) ∧
 R (Ending.returned (Value.string s45)) w43) ∧
 (decide (e_0 ≥ 6) = false → R (Ending.returned (Value.string s35)) w33))) ∧
 (decide (e_0 ≥ 6) = false →
 ((e_0 == 1) = true →
 ∃ (s46 : ByteArray),
 Gives Proofs.Tryd.prog
 (binOpS BinOp.add 9 (Operand.tmp 61) (Operand.const (Value.string (ByteArray.mk #[32]))) (Value.string s15) (Value.string (ByteArray.mk #[32])))
 (Value.string s46) ∧
 Calls Proofs.Tryd.prog 30 #[Value.slice e_4a e_4n e_4c] w13 fun (e47 : Ending) (w48 : World) =>
 ∃ (s49 : ByteArray),
 e47 = Ending.returned (Value.string s49) ∧
 Keeps [n1] w13 w48 ∧
 ∃ (s50 : ByteArray),
 Gives Proofs.Tryd.prog (binOpS BinOp.add 9 (Operand.tmp 62) (Operand.tmp 65) (Value.string s46) (Value.string s49)) (Value.string s50) ∧
 R (Ending.returned (Value.string s50)) w48) ∧
 ((e_0 == 1) = false →
 (decide (e_0 ≥ 6) = true →
 ∃ (s51 : ByteArray),
 Gives Proofs.Tryd.prog
 (binOpS BinOp.add 9 (Operand.tmp 61) (Operand.const (Value.string (ByteArray.mk #[32]))) (Value.string s15) (Value.string (ByteArray.mk #[32])))
 (Value.string s51) ∧
 Calls Proofs.Tryd.prog 30 #[Value.slice e_4a e_4n e_4c] w13 fun (e52 : Ending) (w53 : World) =>
 ∃ (s54 : ByteArray),
 e52 = Ending.returned (Value.string s54) ∧
 Keeps [n1] w13 w53 ∧
 ∃ (s55 : ByteArray),
 Gives Proofs.Tryd.prog (binOpS BinOp.add 9 (Operand.tmp 62) (Operand.tmp 65) (Value.string s51) (Value.string s54)) (Value.string s55) ∧
 R (Ending.returned (Value.string s55)) w53) ∧
 (decide (e_0 ≥ 6) = false → R (Ending.returned (Value.string s15)) w13))))) ∧
 (decide (e_0 ≤ 17) = false →
 (decide (e_0 ≤ 2) = true →
 ∃ (s56 : ByteArray),
 Gives Proofs.Tryd.prog
 (binOpS BinOp.add 9 (Operand.tmp 47) (Operand.const (Value.string (ByteArray.mk #[32, 97, 103, 101, 110, 116, 32]))) (Value.string s10)
 (Value.string (ByteArray.mk #[32, 97, 103, 101, 110, 116, 32])))
 (Value.string s56) ∧
 Calls Proofs.Tryd.prog 20 #[Value.int IntKind.i64 e_3] w8 fun (e57 : Ending) (w58 : World) =>
 ∃ (s59 : ByteArray),
 e57 = Ending.returned (Value.string s59) ∧
 Keeps [n1] w8 w58 ∧
 ∃ (s60 : ByteArray),
 Gives Proofs.Tryd.prog (binOpS BinOp.add 9 (Operand.tmp 48) (Operand.tmp 51) (Value.string s56) (Value.string s59)) (Value.string s60) ∧
 ((e_0 == 1) = true →
 ∃ (s61 : ByteArray),
 Gives Proofs.Tryd.prog
 (binOpS BinOp.add 9 (Operand.tmp 61) (Operand.const (Value.string (ByteArray.mk #[32]))) (Value.string s60) (Value.string (ByteArray.mk #[32])))
 (Value.string s61) ∧
 Calls Proofs.Tryd.prog 30 #[Value.slice e_4a e_4n e_4c] w58 fun (e62 : Ending) (w63 : World) =>
 ∃ (s64 : ByteArray),
 e62 = Ending.returned (Value.string s64) ∧
 Keeps [n1] w58 w63 ∧
 ∃ (s65 : ByteArray),
 Gives Proofs.Tryd.prog (binOpS BinOp.add 9 (Operand.tmp 62) (Operand.tmp 65) (Value.string s61) (Value.string s64)) (Value.string s65) ∧
 R (Ending.returned (Value.string s65)) w63) ∧
 ((e_0 == 1) = false →
 (decide (e_0 ≥ 6) = true →
 ∃ (s66 : ByteArray),
 Gives Proofs.Tryd.prog
 (binOpS BinOp.add 9 (Operand.tmp 61) (Operand.const (Value.string (ByteArray.mk #[32]))) (Value.string s60) (Value.string (ByteArray.mk #[32])))
 (Value.string s66) ∧
 Calls Proofs.Tryd.prog 30 #[Value.slice e_4a e_4n e_4c] w58 fun (e67 : Ending) (w68 : World) =>
 ∃ (s69 : ByteArray),
 e67 = Ending.returned (Value.string s69) ∧
 Keeps [n1] w58 w68 ∧
 ∃ (s70 : ByteArray),
 Gives Proofs.Tryd.prog (binOpS BinOp.add 9 (Operand.tmp 62) (Operand.tmp 65) (Value.string s66) (Value.string s69)) (Value.string s70) ∧
 R (Ending.returned (Value.string s70)) w68) ∧
 (decide (e_0 ≥ 6) = false → R (Ending.returned (Value.string s60)) w58))) ∧
 (decide (e_0 ≤ 2) = false →
 (decide (e_0 ≥ 6) = true →
 ∃ (s71 : ByteArray),
 Gives Proofs.Tryd.prog
 (binOpS BinOp.add 9 (Operand.tmp 47) (Operand.const (Value.string (ByteArray.mk #[32, 97, 103, 101, 110, 116, 32]))) (Value.string s10)
 (Value.string (ByteArray.mk #[32, 97, 103, 101, 110, 116, 32])))
 (Value.string s71) ∧
 Calls Proofs.Tryd.prog 20 #[Value.int IntKind.i64 e_3] w8 fun (e72 : Ending) (w73 : World) =>
 ∃ (s74 : ByteArray),
 e72 = Ending.returned (Value.string s74) ∧
 Keeps [n1] w8 w73 ∧
 ∃ (s75 : ByteArray),
 Gives Proofs.Tryd.prog (binOpS BinOp.add 9 (Operand.tmp 48) (Operand.tmp 51) (Value.string s71) (Value.string s74)) (Value.string s75) ∧
 ((e_0 == 1) = true →
 ∃ (s76 : ByteArray),
 Gives Proofs.Tryd.prog
 (binOpS BinOp.add 9 (Operand.tmp 61) (Operand.const (Value.string (ByteArray.mk #[32]))) (Value.string s75) (Value.string (ByteArray.mk #[32])))
 (Value.string s76) ∧
 Calls Proofs.Tryd.prog 30 #[Value.slice e_4a e_4n e_4c] w73 fun (e77 : Ending) (w78 : World) =>
 ∃ (s79 : ByteArray),
 e77 = Ending.returned (Value.string s79) ∧
 Keeps [n1] w73 w78 ∧
 ∃ (s80 : ByteArray),
 Gives Proofs.Tryd.prog (binOpS BinOp.add 9 (Operand.tmp 62) (Operand.tmp 65) (Value.string s76) (Value.string s79)) (Value.string s80) ∧
 R (Ending.returned (Value.string s80)) w78) ∧
 ((e_0 == 1) = false →
 (decide (e_0 ≥ 6) = true →
 ∃ (s81 : ByteArray),
 Gives Proofs.Tryd.prog
 (binOpS BinOp.add 9 (Operand.tmp 61) (Operand.const (Value.string (ByteArray.mk #[32]))) (Value.string s75) (Value.string (ByteArray.mk #[32])))
 (Value.string s81) ∧
 Calls Proofs.Tryd.prog 30 #[Value.slice e_4a e_4n e_4c] w73 fun (e82 : Ending) (w83 : World) =>
 ∃ (s84 : ByteArray),
 e82 = Ending.returned (Value.string s84) ∧
 Keeps [n1] w73 w83 ∧
 ∃ (s85 : ByteArray),
 Gives Proofs.Tryd.prog (binOpS BinOp.add 9 (Operand.tmp 62) (Operand.tmp 65) (Value.string s81) (Value.string s84)) (Value.string s85) ∧
 R (Ending.returned (Value.string s85)) w83) ∧
 (decide (e_0 ≥ 6) = false → R (Ending.returned (Value.string s75)) w73))) ∧
 (decide (e_0 ≥ 6) = false →
 ((e_0 == 1) = true →
 ∃ (s86 : ByteArray),
 Gives Proofs.Tryd.prog (binOpS BinOp.add 9 (Operand.tmp 61) (Operand.const (Value.string (ByteArray.mk #[32]))) (Value.string s10) (Value.string (ByteArray.mk #[32])))
 (Value.string s86) ∧
 Calls Proofs.Tryd.prog 30 #[Value.slice e_4a e_4n e_4c] w8 fun (e87 : Ending) (w88 : World) =>
 ∃ (s89 : ByteArray),
 e87 = Ending.returned (Value.string s89) ∧
 Keeps [n1] w8 w88 ∧
 ∃ (s90 : ByteArray),
 Gives Proofs.Tryd.prog (binOpS BinOp.add 9 (Operand.tmp 62) (Operand.tmp 65) (Value.string s86) (Value.string s89)) (Value.string s90) ∧
 R (Ending.returned (Value.string s90)) w88) ∧
 ((e_0 == 1) = false →
 (decide (e_0 ≥ 6) = true →
 ∃ (s91 : ByteArray),
 Gives Proofs.Tryd.prog (binOpS BinOp.add 9 (Operand.tmp 61) (Operand.const (Value.string (ByteArray.mk #[32]))) (Value.string s10) (Value.string (ByteArray.mk #[32])))
 (Value.string s91) ∧
 Calls Proofs.Tryd.prog 30 #[Value.slice e_4a e_4n e_4c] w8 fun (e92 : Ending) (w93 : World) =>
 ∃ (s94 : ByteArray),
 e92 = Ending.returned (Value.string s94) ∧
 Keeps [n1] w8 w93 ∧
 ∃ (s95 : ByteArray),
 Gives Proofs.Tryd.prog (binOpS BinOp.add 9 (Operand.tmp 62) (Operand.tmp 65) (Value.string s91) (Value.string s94)) (Value.string s95) ∧
 R (Ending.returned (Value.string s95)) w93) ∧
 (decide (e_0 ≥ 6) = false → R (Ending.returned (Value.string s10)) w8)))))) ∧
 (decide (e_0 ≥ 6) = false →
 (decide (e_0 ≤ 2) = true →
 ∃ (s96 : ByteArray),
 Gives Proofs.Tryd.prog
 (binOpS BinOp.add 9 (Operand.tmp 47) (Operand.const (Value.string (ByteArray.mk #[32, 97, 103, 101, 110, 116, 32]))) (Value.string s10)
 (Value.string (ByteArray.mk #[32, 97, 103, 101, 110, 116, 32])))
 (Value.string s96) ∧
 Calls Proofs.Tryd.prog 20 #[Value.int IntKind.i64 e_3] w8 fun (e97 : Ending) (w98 : World) =>
 ∃ (s99 : ByteArray),
 e97 = Ending.returned (Value.string s99) ∧
 Keeps [n1] w8 w98 ∧
 ∃ (s100 : ByteArray),
 Gives Proofs.Tryd.prog (binOpS BinOp.add 9 (Operand.tmp 48) (Operand.tmp 51) (Value.string s96) (Value.string s99)) (Value.string s100) ∧
 ((e_0 == 1) = true →
 ∃ (s101 : ByteArray),
 Gives Proofs.Tryd.prog
 (binOpS BinOp.add 9 (Operand.tmp 61) (Operand.const (Value.string (ByteArray.mk #[32]))) (Value.string s100) (Value.string (ByteArray.mk #[32])))
 (Value.string s101) ∧
 Calls Proofs.Tryd.prog 30 #[Value.slice e_4a e_4n e_4c] w98 fun (e102 : Ending) (w103 : World) =>
 ∃ (s104 : ByteArray),
 e102 = Ending.returned (Value.string s104) ∧
 Keeps [n1] w98 w103 ∧
 ∃ (s105 : ByteArray),
 Gives Proofs.Tryd.prog (binOpS BinOp.add 9 (Operand.tmp 62) (Operand.tmp 65) (Value.string s101) (Value.string s104)) (Value.string s105) ∧
 R (Ending.returned (Value.string s105)) w103) ∧
 ((e_0 == 1) = false →
 (decide (e_0 ≥ 6) = true →
 ∃ (s106 : ByteArray),
 Gives Proofs.Tryd.prog
 (binOpS BinOp.add 9 (Operand.tmp 61) (Operand.const (Value.string (ByteArray.mk #[32]))) (Value.string s100) (Value.string (ByteArray.mk #[32])))
 (Value.string s106) ∧
 Calls Proofs.Tryd.prog 30 #[Value.slice e_4a e_4n e_4c] w98 fun (e107 : Ending) (w108 : World) =>
 ∃ (s109 : ByteArray),
 e107 = Ending.returned (Value.string s109) ∧
 Keeps [n1] w98 w108 ∧
 ∃ (s110 : ByteArray),
 Gives Proofs.Tryd.prog (binOpS BinOp.add 9 (Operand.tmp 62) (Operand.tmp 65) (Value.string s106) (Value.string s109)) (Value.string s110) ∧
 R (Ending.returned (Value.string s110)) w108) ∧
 (decide (e_0 ≥ 6) = false → R (Ending.returned (Value.string s100)) w98))) ∧
 (decide (e_0 ≤ 2) = false →
 (decide (e_0 ≥ 6) = true →
 ∃ (s111 : ByteArray),
 Gives Proofs.Tryd.prog
 (binOpS BinOp.add 9 (Operand.tmp 47) (Operand.const (Value.string (ByteArray.mk #[32, 97, 103, 101, 110, 116, 32]))) (Value.string s10)
 (Value.string (ByteArray.mk #[32, 97, 103, 101, 110, 116, 32])))
 (Value.string s111) ∧
 Calls Proofs.Tryd.prog 20 #[Value.int IntKind.i64 e_3] w8 fun (e112 : Ending) (w113 : World) =>
 ∃ (s114 : ByteArray),
 e112 = Ending.returned (Value.string s114) ∧
 Keeps [n1] w8 w113 ∧
 ∃ (s115 : ByteArray),
 Gives Proofs.Tryd.prog (binOpS BinOp.add 9 (Operand.tmp 48) (Operand.tmp 51) (Value.string s111) (Value.string s114)) (Value.string s115) ∧
 ((e_0 == 1) = true →
 ∃ (s116 : ByteArray),
 Gives Proofs.Tryd.prog
 (binOpS BinOp.add 9 (Operand.tmp 61) (Operand.const (Value.string (ByteArray.mk #[32]))) (Value.string s115) (Value.string (ByteArray.mk #[32])))
 (Value.string s116) ∧
 Calls Proofs.Tryd.prog 30 #[Value.slice e_4a e_4n e_4c] w113 fun (e117 : Ending) (w118 : World) =>
 ∃ (s119 : ByteArray),
 e117 = Ending.returned (Value.string s119) ∧
 Keeps [n1] w113 w118 ∧
 ∃ (s120 : ByteArray),
 Gives Proofs.Tryd.prog (binOpS BinOp.add 9 (Operand.tmp 62) (Operand.tmp 65) (Value.string s116) (Value.string s119)) (Value.string s120) ∧
 R (Ending.returned (Value.string s120)) w118) ∧
 ((e_0 == 1) = false →
 (decide (e_0 ≥ 6) = true →
 ∃ (s121 : ByteArray),
 Gives Proofs.Tryd.prog
 (binOpS BinOp.add 9 (Operand.tmp 61) (Operand.const (Value.string (ByteArray.mk #[32]))) (Value.string s115) (Value.string (ByteArray.mk #[32])))
 (Value.string s121) ∧
 Calls Proofs.Tryd.prog 30 #[Value.slice e_4a e_4n e_4c] w113 fun (e122 : Ending) (w123 : World) =>
 ∃ (s124 : ByteArray),
 e122 = Ending.returned (Value.string s124) ∧
 Keeps [n1] w113 w123 ∧
 ∃ (s125 : ByteArray),
 Gives Proofs.Tryd.prog (binOpS BinOp.add 9 (Operand.tmp 62) (Operand.tmp 65) (Value.string s121) (Value.string s124)) (Value.string s125) ∧
 R (Ending.returned (Value.string s125)) w123) ∧
 (decide (e_0 ≥ 6) = false → R (Ending.returned (Value.string s115)) w113))) ∧
 (decide (e_0 ≥ 6) = false →
 ((e_0 == 1) = true →
 ∃ (s126 : ByteArray),
 Gives Proofs.Tryd.prog (binOpS BinOp.add 9 (Operand.tmp 61) (Operand.const (Value.string (ByteArray.mk #[32]))) (Value.string s10) (Value.string (ByteArray.mk #[32])))
 (Value.string s126) ∧
 Calls Proofs.Tryd.prog 30 #[Value.slice e_4a e_4n e_4c] w8 fun (e127 : Ending) (w128 : World) =>
 ∃ (s129 : ByteArray),
 e127 = Ending.returned (Value.string s129) ∧
 Keeps [n1] w8 w128 ∧
 ∃ (s130 : ByteArray),
 Gives Proofs.Tryd.prog (binOpS BinOp.add 9 (Operand.tmp 62) (Operand.tmp 65) (Value.string s126) (Value.string s129)) (Value.string s130) ∧
 R (Ending.returned (Value.string s130)) w128) ∧
 ((e_0 == 1) = false →
 (decide (e_0 ≥ 6) = true →
 ∃ (s131 : ByteArray),
 Gives Proofs.Tryd.prog (binOpS BinOp.add 9 (Operand.tmp 61) (Operand.const (Value.string (ByteArray.mk #[32]))) (Value.string s10) (Value.string (ByteArray.mk #[32])))
 (Value.string s131) ∧
 Calls Proofs.Tryd.prog 30 #[Value.slice e_4a e_4n e_4c] w8 fun (e132 : Ending) (w133 : World) =>
 ∃ (s134 : ByteArray),
 e132 = Ending.returned (Value.string s134) ∧
 Keeps [n1] w8 w133 ∧
 ∃ (s135 : ByteArray),
 Gives Proofs.Tryd.prog (binOpS BinOp.add 9 (Operand.tmp 62) (Operand.tmp 65) (Value.string s131) (Value.string s134)) (Value.string s135) ∧
 R (Ending.returned (Value.string s135)) w133) ∧
 (decide (e_0 ≥ 6) = false → R (Ending.returned (Value.string s10)) w8)))))) ∧
 (decide (e_0 ≥ 3) = false →
 (decide (e_0 ≥ 6) = true →
 (decide (e_0 ≤ 17) = true →
 ∃ (s136 : ByteArray),
 Gives Proofs.Tryd.prog (binOpS BinOp.add 9 (Operand.tmp 33) (Operand.const (Value.string (ByteArray.mk #[32, 105, 100, 32]))) (Value.string s5) (Value.string (ByteArray.mk #[32, 105, 100, 32])))
 (Value.string s136) ∧
 Calls Proofs.Tryd.prog 20 #[Value.int IntKind.i64 e_2] w4 fun (e137 : Ending) (w138 : World) =>
 ∃ (s139 : ByteArray),
 e137 = Ending.returned (Value.string s139) ∧
 Keeps [n1] w4 w138 ∧
 ∃ (s140 : ByteArray),
 Gives Proofs.Tryd.prog (binOpS BinOp.add 9 (Operand.tmp 34) (Operand.tmp 37) (Value.string s136) (Value.string s139)) (Value.string s140) ∧
 (decide (e_0 ≤ 2) = true →
 ∃ (s141 : ByteArray),
 Gives Proofs.Tryd.prog
 (binOpS BinOp.add 9 (Operand.tmp 47) (Operand.const (Value.string (ByteArray.mk #[32, 97, 103, 101, 110, 116, 32]))) (Value.string s140)
 (Value.string (ByteArray.mk #[32, 97, 103, 101, 110, 116, 32])))
 (Value.string s141) ∧
 Calls Proofs.Tryd.prog 20 #[Value.int IntKind.i64 e_3] w138 fun (e142 : Ending) (w143 : World) =>
 ∃ (s144 : ByteArray),
 e142 = Ending.returned (Value.string s144) ∧
 Keeps [n1] w138 w143 ∧
 ∃ (s145 : ByteArray),
 Gives Proofs.Tryd.prog (binOpS BinOp.add 9 (Operand.tmp 48) (Operand.tmp 51) (Value.string s141) (Value.string s144)) (Value.string s145) ∧
 ((e_0 == 1) = true →
 ∃ (s146 : ByteArray),
 Gives Proofs.Tryd.prog
 (binOpS BinOp.add 9 (Operand.tmp 61) (Operand.const (Value.string (ByteArray.mk #[32]))) (Value.string s145) (Value.string (ByteArray.mk #[32])))
 (Value.string s146) ∧
 Calls Proofs.Tryd.prog 30 #[Value.slice e_4a e_4n e_4c] w143 fun (e147 : Ending) (w148 : World) =>
 ∃ (s149 : ByteArray),
 e147 = Ending.returned (Value.string s149) ∧
 Keeps [n1] w143 w148 ∧
 ∃ (s150 : ByteArray),
 Gives Proofs.Tryd.prog (binOpS BinOp.add 9 (Operand.tmp 62) (Operand.tmp 65) (Value.string s146) (Value.string s149)) (Value.string s150) ∧
 R (Ending.returned (Value.string s150)) w148) ∧
 ((e_0 == 1) = false →
 (decide (e_0 ≥ 6) = true →
 ∃ (s151 : ByteArray),
 Gives Proofs.Tryd.prog
 (binOpS BinOp.add 9 (Operand.tmp 61) (Operand.const (Value.string (ByteArray.mk #[32]))) (Value.string s145) (Value.string (ByteArray.mk #[32])))
 (Value.string s151) ∧
 Calls Proofs.Tryd.prog 30 #[Value.slice e_4a e_4n e_4c] w143 fun (e152 : Ending) (w153 : World) =>
 ∃ (s154 : ByteArray),
 e152 = Ending.returned (Value.string s154) ∧
 Keeps [n1] w143 w153 ∧
 ∃ (s155 : ByteArray),
 Gives Proofs.Tryd.prog (binOpS BinOp.add 9 (Operand.tmp 62) (Operand.tmp 65) (Value.string s151) (Value.string s154)) (Value.string s155) ∧
 R (Ending.returned (Value.string s155)) w153) ∧
 (decide (e_0 ≥ 6) = false → R (Ending.returned (Value.string s145)) w143))) ∧
 (decide (e_0 ≤ 2) = false →
 (decide (e_0 ≥ 6) = true →
 ∃ (s156 : ByteArray),
 Gives Proofs.Tryd.prog
 (binOpS BinOp.add 9 (Operand.tmp 47) (Operand.const (Value.string (ByteArray.mk #[32, 97, 103, 101, 110, 116, 32]))) (Value.string s140)
 (Value.string (ByteArray.mk #[32, 97, 103, 101, 110, 116, 32])))
 (Value.string s156) ∧
 Calls Proofs.Tryd.prog 20 #[Value.int IntKind.i64 e_3] w138 fun (e157 : Ending) (w158 : World) =>
 ∃ (s159 : ByteArray),
 e157 = Ending.returned (Value.string s159) ∧
 Keeps [n1] w138 w158 ∧
 ∃ (s160 : ByteArray),
 Gives Proofs.Tryd.prog (binOpS BinOp.add 9 (Operand.tmp 48) (Operand.tmp 51) (Value.string s156) (Value.string s159)) (Value.string s160) ∧
 ((e_0 == 1) = true →
 ∃ (s161 : ByteArray),
 Gives Proofs.Tryd.prog
 (binOpS BinOp.add 9 (Operand.tmp 61) (Operand.const (Value.string (ByteArray.mk #[32]))) (Value.string s160) (Value.string (ByteArray.mk #[32])))
 (Value.string s161) ∧
 Calls Proofs.Tryd.prog 30 #[Value.slice e_4a e_4n e_4c] w158 fun (e162 : Ending) (w163 : World) =>
 ∃ (s164 : ByteArray),
 e162 = Ending.returned (Value.string s164) ∧
 Keeps [n1] w158 w163 ∧
 ∃ (s165 : ByteArray),
 Gives Proofs.Tryd.prog (binOpS BinOp.add 9 (Operand.tmp 62) (Operand.tmp 65) (Value.string s161) (Value.string s164)) (Value.string s165) ∧
 R (Ending.returned (Value.string s165)) w163) ∧
 ((e_0 == 1) = false →
 (decide (e_0 ≥ 6) = true →
 ∃ (s166 : ByteArray),
 Gives Proofs.Tryd.prog
 (binOpS BinOp.add 9 (Operand.tmp 61) (Operand.const (Value.string (ByteArray.mk #[32]))) (Value.string s160) (Value.string (ByteArray.mk #[32])))
 (Value.string s166) ∧
 Calls Proofs.Tryd.prog 30 #[Value.slice e_4a e_4n e_4c] w158 fun (e167 : Ending) (w168 : World) =>
 ∃ (s169 : ByteArray),
 e167 = Ending.returned (Value.string s169) ∧
 Keeps [n1] w158 w168 ∧
 ∃ (s170 : ByteArray),
 Gives Proofs.Tryd.prog (binOpS BinOp.add 9 (Operand.tmp 62) (Operand.tmp 65) (Value.string s166) (Value.string s169)) (Value.string s170) ∧
 R (Ending.returned (Value.string s170)) w168) ∧
 (decide (e_0 ≥ 6) = false → R (Ending.returned (Value.string s160)) w158))) ∧
 (decide (e_0 ≥ 6) = false →
 ((e_0 == 1) = true →
 ∃ (s171 : ByteArray),
 Gives Proofs.Tryd.prog (binOpS BinOp.add 9 (Operand.tmp 61) (Operand.const (Value.string (ByteArray.mk #[32]))) (Value.string s140) (Value.string (ByteArray.mk #[32])))
 (Value.string s171) ∧
 Calls Proofs.Tryd.prog 30 #[Value.slice e_4a e_4n e_4c] w138 fun (e172 : Ending) (w173 : World) =>
 ∃ (s174 : ByteArray),
 e172 = Ending.returned (Value.string s174) ∧
 Keeps [n1] w138 w173 ∧
 ∃ (s175 : ByteArray),
 Gives Proofs.Tryd.prog (binOpS BinOp.add 9 (Operand.tmp 62) (Operand.tmp 65) (Value.string s171) (Value.string s174)) (Value.string s175) ∧
 R (Ending.returned (Value.string s175)) w173) ∧
 ((e_0 == 1) = false →
 (decide (e_0 ≥ 6) = true →
 ∃ (s176 : ByteArray),
 Gives Proofs.Tryd.prog (binOpS BinOp.add 9 (Operand.tmp 61) (Operand.const (Value.string (ByteArray.mk #[32]))) (Value.string s140) (Value.string (ByteArray.mk #[32])))
 (Value.string s176) ∧
 Calls Proofs.Tryd.prog 30 #[Value.slice e_4a e_4n e_4c] w138 fun (e177 : Ending) (w178 : World) =>
 ∃ (s179 : ByteArray),
 e177 = Ending.returned (Value.string s179) ∧
 Keeps [n1] w138 w178 ∧
 ∃ (s180 : ByteArray),
 Gives Proofs.Tryd.prog (binOpS BinOp.add 9 (Operand.tmp 62) (Operand.tmp 65) (Value.string s176) (Value.string s179)) (Value.string s180) ∧
 R (Ending.returned (Value.string s180)) w178) ∧
 (decide (e_0 ≥ 6) = false → R (Ending.returned (Value.string s140)) w138))))) ∧
 (decide (e_0 ≤ 17) = false →
 (decide (e_0 ≤ 2) = true →
 ∃ (s181 : ByteArray),
 Gives Proofs.Tryd.prog
 (binOpS BinOp.add 9 (Operand.tmp 47) (Operand.const (Value.string (ByteArray.mk #[32, 97, 103, 101, 110, 116, 32]))) (Value.string s5)
 (Value.string (ByteArray.mk #[32, 97, 103, 101, 110, 116, 32])))
 (Value.string s181) ∧
 Calls Proofs.Tryd.prog 20 #[Value.int IntKind.i64 e_3] w4 fun (e182 : Ending) (w183 : World) =>
 ∃ (s184 : ByteArray),
 e182 = Ending.returned (Value.string s184) ∧
 Keeps [n1] w4 w183 ∧
 ∃ (s185 : ByteArray),
 Gives Proofs.Tryd.prog (binOpS BinOp.add 9 (Operand.tmp 48) (Operand.tmp 51) (Value.string s181) (Value.string s184)) (Value.string s185) ∧
 ((e_0 == 1) = true →
 ∃ (s186 : ByteArray),
 Gives Proofs.Tryd.prog (binOpS BinOp.add 9 (Operand.tmp 61) (Operand.const (Value.string (ByteArray.mk #[32]))) (Value.string s185) (Value.string (ByteArray.mk #[32])))
 (Value.string s186) ∧
 Calls Proofs.Tryd.prog 30 #[Value.slice e_4a e_4n e_4c] w183 fun (e187 : Ending) (w188 : World) =>
 ∃ (s189 : ByteArray),
 e187 = Ending.returned (Value.string s189) ∧
 Keeps [n1] w183 w188 ∧
 ∃ (s190 : ByteArray),
 Gives Proofs.Tryd.prog (binOpS BinOp.add 9 (Operand.tmp 62) (Operand.tmp 65) (Value.string s186) (Value.string s189)) (Value.string s190) ∧
 R (Ending.returned (Value.string s190)) w188) ∧
 ((e_0 == 1) = false →
 (decide (e_0 ≥ 6) = true →
 ∃ (s191 : ByteArray),
 Gives Proofs.Tryd.prog (binOpS BinOp.add 9 (Operand.tmp 61) (Operand.const (Value.string (ByteArray.mk #[32]))) (Value.string s185) (Value.string (ByteArray.mk #[32])))
 (Value.string s191) ∧
 Calls Proofs.Tryd.prog 30 #[Value.slice e_4a e_4n e_4c] w183 fun (e192 : Ending) (w193 : World) =>
 ∃ (s194 : ByteArray),
 e192 = Ending.returned (Value.string s194) ∧
 Keeps [n1] w183 w193 ∧
 ∃ (s195 : ByteArray),
 Gives Proofs.Tryd.prog (binOpS BinOp.add 9 (Operand.tmp 62) (Operand.tmp 65) (Value.string s191) (Value.string s194)) (Value.string s195) ∧
 R (Ending.returned (Value.string s195)) w193) ∧
 (decide (e_0 ≥ 6) = false → R (Ending.returned (Value.string s185)) w183))) ∧
 (decide (e_0 ≤ 2) = false →
 (decide (e_0 ≥ 6) = true →
 ∃ (s196 : ByteArray),
 Gives Proofs.Tryd.prog
 (binOpS BinOp.add 9 (Operand.tmp 47) (Operand.const (Value.string (ByteArray.mk #[32, 97, 103, 101, 110, 116, 32]))) (Value.string s5)
 (Value.string (ByteArray.mk #[32, 97, 103, 101, 110, 116, 32])))
 (Value.string s196) ∧
 Calls Proofs.Tryd.prog 20 #[Value.int IntKind.i64 e_3] w4 fun (e197 : Ending) (w198 : World) =>
 ∃ (s199 : ByteArray),
 e197 = Ending.returned (Value.string s199) ∧
 Keeps [n1] w4 w198 ∧
 ∃ (s200 : ByteArray),
 Gives Proofs.Tryd.prog (binOpS BinOp.add 9 (Operand.tmp 48) (Operand.tmp 51) (Value.string s196) (Value.string s199)) (Value.string s200) ∧
 ((e_0 == 1) = true →
 ∃ (s201 : ByteArray),
 Gives Proofs.Tryd.prog (binOpS BinOp.add 9 (Operand.tmp 61) (Operand.const (Value.string (ByteArray.mk #[32]))) (Value.string s200) (Value.string (ByteArray.mk #[32])))
 (Value.string s201) ∧
 Calls Proofs.Tryd.prog 30 #[Value.slice e_4a e_4n e_4c] w198 fun (e202 : Ending) (w203 : World) =>
 ∃ (s204 : ByteArray),
 e202 = Ending.returned (Value.string s204) ∧
 Keeps [n1] w198 w203 ∧
 ∃ (s205 : ByteArray),
 Gives Proofs.Tryd.prog (binOpS BinOp.add 9 (Operand.tmp 62) (Operand.tmp 65) (Value.string s201) (Value.string s204)) (Value.string s205) ∧
 R (Ending.returned (Value.string s205)) w203) ∧
 ((e_0 == 1) = false →
 (decide (e_0 ≥ 6) = true →
 ∃ (s206 : ByteArray),
 Gives Proofs.Tryd.prog (binOpS BinOp.add 9 (Operand.tmp 61) (Operand.const (Value.string (ByteArray.mk #[32]))) (Value.string s200) (Value.string (ByteArray.mk #[32])))
 (Value.string s206) ∧
 Calls Proofs.Tryd.prog 30 #[Value.slice e_4a e_4n e_4c] w198 fun (e207 : Ending) (w208 : World) =>
 ∃ (s209 : ByteArray),
 e207 = Ending.returned (Value.string s209) ∧
 Keeps [n1] w198 w208 ∧
 ∃ (s210 : ByteArray),
 Gives Proofs.Tryd.prog (binOpS BinOp.add 9 (Operand.tmp 62) (Operand.tmp 65) (Value.string s206) (Value.string s209)) (Value.string s210) ∧
 R (Ending.returned (Value.string s210)) w208) ∧
 (decide (e_0 ≥ 6) = false → R (Ending.returned (Value.string s200)) w198))) ∧
 (decide (e_0 ≥ 6) = false →
 ((e_0 == 1) = true →
 ∃ (s211 : ByteArray),
 Gives Proofs.Tryd.prog (binOpS BinOp.add 9 (Operand.tmp 61) (Operand.const (Value.string (ByteArray.mk #[32]))) (Value.string s5) (Value.string (ByteArray.mk #[32]))) (Value.string s211) ∧
 Calls Proofs.Tryd.prog 30 #[Value.slice e_4a e_4n e_4c] w4 fun (e212 : Ending) (w213 : World) =>
 ∃ (s214 : ByteArray),
 e212 = Ending.returned (Value.string s214) ∧
 Keeps [n1] w4 w213 ∧
 ∃ (s215 : ByteArray),
 Gives Proofs.Tryd.prog (binOpS BinOp.add 9 (Operand.tmp 62) (Operand.tmp 65) (Value.string s211) (Value.string s214)) (Value.string s215) ∧
 R (Ending.returned (Value.string s215)) w213) ∧
 ((e_0 == 1) = false →
 (decide (e_0 ≥ 6) = true →
 ∃ (s216 : ByteArray),
 Gives Proofs.Tryd.prog (binOpS BinOp.add 9 (Operand.tmp 61) (Operand.const (Value.string (ByteArray.mk #[32]))) (Value.string s5) (Value.string (ByteArray.mk #[32])))
 (Value.string s216) ∧
 Calls Proofs.Tryd.prog 30 #[Value.slice e_4a e_4n e_4c] w4 fun (e217 : Ending) (w218 : World) =>
 ∃ (s219 : ByteArray),
 e217 = Ending.returned (Value.string s219) ∧
 Keeps [n1] w4 w218 ∧
 ∃ (s220 : ByteArray),
 Gives Proofs.Tryd.prog (binOpS BinOp.add 9 (Operand.tmp 62) (Operand.tmp 65) (Value.string s216) (Value.string s219)) (Value.string s220) ∧
 R (Ending.returned (Value.string s220)) w218) ∧
 (decide (e_0 ≥ 6) = false → R (Ending.returned (Value.string s5)) w4)))))) ∧
 (decide (e_0 ≥ 6) = false →
 (decide (e_0 ≤ 2) = true →
 ∃ (s221 : ByteArray),
 Gives Proofs.Tryd.prog
 (binOpS BinOp.add 9 (Operand.tmp 47) (Operand.const (Value.string (ByteArray.mk #[32, 97, 103, 101, 110, 116, 32]))) (Value.string s5)
 (Value.string (ByteArray.mk #[32, 97, 103, 101, 110, 116, 32])))
 (Value.string s221) ∧
 Calls Proofs.Tryd.prog 20 #[Value.int IntKind.i64 e_3] w4 fun (e222 : Ending) (w223 : World) =>
 ∃ (s224 : ByteArray),
 e222 = Ending.returned (Value.string s224) ∧
 Keeps [n1] w4 w223 ∧
 ∃ (s225 : ByteArray),
 Gives Proofs.Tryd.prog (binOpS BinOp.add 9 (Operand.tmp 48) (Operand.tmp 51) (Value.string s221) (Value.string s224)) (Value.string s225) ∧
 ((e_0 == 1) = true →
 ∃ (s226 : ByteArray),
 Gives Proofs.Tryd.prog (binOpS BinOp.add 9 (Operand.tmp 61) (Operand.const (Value.string (ByteArray.mk #[32]))) (Value.string s225) (Value.string (ByteArray.mk #[32])))
 (Value.string s226) ∧
 Calls Proofs.Tryd.prog 30 #[Value.slice e_4a e_4n e_4c] w223 fun (e227 : Ending) (w228 : World) =>
 ∃ (s229 : ByteArray),
 e227 = Ending.returned (Value.string s229) ∧
 Keeps [n1] w223 w228 ∧
 ∃ (s230 : ByteArray),
 Gives Proofs.Tryd.prog (binOpS BinOp.add 9 (Operand.tmp 62) (Operand.tmp 65) (Value.string s226) (Value.string s229)) (Value.string s230) ∧
 R (Ending.returned (Value.string s230)) w228) ∧
 ((e_0 == 1) = false →
 (decide (e_0 ≥ 6) = true →
 ∃ (s231 : ByteArray),
 Gives Proofs.Tryd.prog (binOpS BinOp.add 9 (Operand.tmp 61) (Operand.const (Value.string (ByteArray.mk #[32]))) (Value.string s225) (Value.string (ByteArray.mk #[32])))
 (Value.string s231) ∧
 Calls Proofs.Tryd.prog 30 #[Value.slice e_4a e_4n e_4c] w223 fun (e232 : Ending) (w233 : World) =>
 ∃ (s234 : ByteArray),
 e232 = Ending.returned (Value.string s234) ∧
 Keeps [n1] w223 w233 ∧
 ∃ (s235 : ByteArray),
 Gives Proofs.Tryd.prog (binOpS BinOp.add 9 (Operand.tmp 62) (Operand.tmp 65) (Value.string s231) (Value.string s234)) (Value.string s235) ∧
 R (Ending.returned (Value.string s235)) w233) ∧
 (decide (e_0 ≥ 6) = false → R (Ending.returned (Value.string s225)) w223))) ∧
 (decide (e_0 ≤ 2) = false →
 (decide (e_0 ≥ 6) = true →
 ∃ (s236 : ByteArray),
 Gives Proofs.Tryd.prog
 (binOpS BinOp.add 9 (Operand.tmp 47) (Operand.const (Value.string (ByteArray.mk #[32, 97, 103, 101, 110, 116, 32]))) (Value.string s5)
 (Value.string (ByteArray.mk #[32, 97, 103, 101, 110, 116, 32])))
 (Value.string s236) ∧
 Calls Proofs.Tryd.prog 20 #[Value.int IntKind.i64 e_3] w4 fun (e237 : Ending) (w238 : World) =>
 ∃ (s239 : ByteArray),
 e237 = Ending.returned (Value.string s239) ∧
 Keeps [n1] w4 w238 ∧
 ∃ (s240 : ByteArray),
 Gives Proofs.Tryd.prog (binOpS BinOp.add 9 (Operand.tmp 48) (Operand.tmp 51) (Value.string s236) (Value.string s239)) (Value.string s240) ∧
 ((e_0 == 1) = true →
 ∃ (s241 : ByteArray),
 Gives Proofs.Tryd.prog (binOpS BinOp.add 9 (Operand.tmp 61) (Operand.const (Value.string (ByteArray.mk #[32]))) (Value.string s240) (Value.string (ByteArray.mk #[32])))
 (Value.string s241) ∧
 Calls Proofs.Tryd.prog 30 #[Value.slice e_4a e_4n e_4c] w238 fun (e242 : Ending) (w243 : World) =>
 ∃ (s244 : ByteArray),
 e242 = Ending.returned (Value.string s244) ∧
 Keeps [n1] w238 w243 ∧
 ∃ (s245 : ByteArray),
 Gives Proofs.Tryd.prog (binOpS BinOp.add 9 (Operand.tmp 62) (Operand.tmp 65) (Value.string s241) (Value.string s244)) (Value.string s245) ∧
 R (Ending.returned (Value.string s245)) w243) ∧
 ((e_0 == 1) = false →
 (decide (e_0 ≥ 6) = true →
 ∃ (s246 : ByteArray),
 Gives Proofs.Tryd.prog (binOpS BinOp.add 9 (Operand.tmp 61) (Operand.const (Value.string (ByteArray.mk #[32]))) (Value.string s240) (Value.string (ByteArray.mk #[32])))
 (Value.string s246) ∧
 Calls Proofs.Tryd.prog 30 #[Value.slice e_4a e_4n e_4c] w238 fun (e247 : Ending) (w248 : World) =>
 ∃ (s249 : ByteArray),
 e247 = Ending.returned (Value.string s249) ∧
 Keeps [n1] w238 w248 ∧
 ∃ (s250 : ByteArray),
 Gives Proofs.Tryd.prog (binOpS BinOp.add 9 (Operand.tmp 62) (Operand.tmp 65) (Value.string s246) (Value.string s249)) (Value.string s250) ∧
 R (Ending.returned (Value.string s250)) w248) ∧
 (decide (e_0 ≥ 6) = false → R (Ending.returned (Value.string s240)) w238))) ∧
 (decide (e_0 ≥ 6) = false →
 ((e_0 == 1) = true →
 ∃ (s251 : ByteArray),
 Gives Proofs.Tryd.prog (binOpS BinOp.add 9 (Operand.tmp 61) (Operand.const (Value.string (ByteArray.mk #[32]))) (Value.string s5) (Value.string (ByteArray.mk #[32]))) (Value.string s251) ∧
 Calls Proofs.Tryd.prog 30 #[Value.slice e_4a e_4n e_4c] w4 fun (e252 : Ending) (w253 : World) =>
 ∃ (s254 : ByteArray),
 e252 = Ending.returned (Value.string s254) ∧
 Keeps [n1] w4 w253 ∧
 ∃ (s255 : ByteArray),
 Gives Proofs.Tryd.prog (binOpS BinOp.add 9 (Operand.tmp 62) (Operand.tmp 65) (Value.string s251) (Value.string s254)) (Value.string s255) ∧
 R (Ending.returned (Value.string s255)) w253) ∧
 ((e_0 == 1) = false →
 (decide (e_0 ≥ 6) = true →
 ∃ (s256 : ByteArray),
 Gives Proofs.Tryd.prog (binOpS BinOp.add 9 (Operand.tmp 61) (Operand.const (Value.string (ByteArray.mk #[32]))) (Value.string s5) (Value.string (ByteArray.mk #[32]))) (Value.string s256) ∧
 Calls Proofs.Tryd.prog 30 #[Value.slice e_4a e_4n e_4c] w4 fun (e257 : Ending) (w258 : World) =>
 ∃ (s259 : ByteArray),
 e257 = Ending.returned (Value.string s259) ∧
 Keeps [n1] w4 w258 ∧
 ∃ (s260 : ByteArray),
 Gives Proofs.Tryd.prog (binOpS BinOp.add 9 (Operand.tmp 62) (Operand.tmp 65) (Value.string s256) (Value.string s259)) (Value.string s260) ∧
 R (Ending.returned (Value.string s260)) w258) ∧
 (decide (e_0 ≥ 6) = false → R (Ending.returned (Value.string s5)) w4))))))))
theorem f18_eq (e_0 : Int) (e_1 : Int) (e_2 : Int) (e_3 : Int) (e_4a : Option Addr) (e_4n : Nat) (e_4c : Nat) (w : World) (R : Ending → World → Prop) : (fnF Go.Proofs.Tryd.prog h18 Go.Proofs.Tryd.f18 [Value.agg #[Value.int IntKind.i64 e_0, Value.int IntKind.i64 e_1, Value.int IntKind.i64 e_2, Value.int IntKind.i64 e_3, Value.slice e_4a e_4n e_4c]] w R).den = f18_vc e_0 e_1 e_2 e_3 e_4a e_4n e_4c w R := by kernel_rfl
theorem f18_calls (e_0 : Int) (e_1 : Int) (e_2 : Int) (e_3 : Int) (e_4a : Option Addr) (e_4n : Nat) (e_4c : Nat) (w : World) (R : Ending → World → Prop) (h : f18_vc e_0 e_1 e_2 e_3 e_4a e_4n e_4c w R) : Calls Go.Proofs.Tryd.prog 18 (List.toArray [Value.agg #[Value.int IntKind.i64 e_0, Value.int IntKind.i64 e_1, Value.int IntKind.i64 e_2, Value.int IntKind.i64 e_3, Value.slice e_4a e_4n e_4c]]) w R :=
 fn_sound (H := h18) (fn := Go.Proofs.Tryd.f18) (by kernel_rfl) (by kernel_rfl) (by kernel_rfl) ((f18_eq e_0 e_1 e_2 e_3 e_4a e_4n e_4c w R).mpr h)

/-! manciple/mancipleref34.Num -/
def h20 : Hints := ⟨[], [12], [8, 5], [], [], [], [], [], []⟩
def f20_vc (n : Int) (w : World) (R : Ending → World → Prop) : Prop :=
 (decide (n < 0) = true →
 (decide (n > -10) = true →
 Calls Proofs.Tryd.prog 35 #[Value.int IntKind.i64 (IntKind.i64.wrap (0 - n))] w fun (e1 : Ending) (w2 : World) =>
 ∃ (s3 : ByteArray),
 e1 = Ending.returned (Value.string s3) ∧
 ∃ (s4 : ByteArray),
 Gives Proofs.Tryd.prog (binOpS BinOp.add 9 (Operand.const (Value.string (ByteArray.mk #[45]))) (Operand.tmp 11) (Value.string (ByteArray.mk #[45])) (Value.string s3)) (Value.string s4) ∧
 R (Ending.returned (Value.string s4)) w2) ∧
 (decide (n > -10) = false → Calls Proofs.Tryd.prog 36 #[Value.int IntKind.i64 n] w fun (e5 : Ending) (w6 : World) => ∃ (s7 : ByteArray), e5 = Ending.returned (Value.string s7) ∧ R (Ending.returned (Value.string s7)) w6)) ∧
 (decide (n < 0) = false → Calls Proofs.Tryd.prog 36 #[Value.int IntKind.i64 n] w fun (e8 : Ending) (w9 : World) => ∃ (s10 : ByteArray), e8 = Ending.returned (Value.string s10) ∧ R (Ending.returned (Value.string s10)) w9)
theorem f20_eq (n : Int) (w : World) (R : Ending → World → Prop) : (fnF Go.Proofs.Tryd.prog h20 Go.Proofs.Tryd.f20 [Value.int IntKind.i64 n] w R).den = f20_vc n w R := by kernel_rfl
theorem f20_calls (n : Int) (w : World) (R : Ending → World → Prop) (h : f20_vc n w R) : Calls Go.Proofs.Tryd.prog 20 (List.toArray [Value.int IntKind.i64 n]) w R :=
 fn_sound (H := h20) (fn := Go.Proofs.Tryd.f20) (by kernel_rfl) (by kernel_rfl) (by kernel_rfl) ((f20_eq n w R).mpr h)

/-! manciple/mancipleref34.vec -/
def h30 : Hints := ⟨[], [], [5], [], [], [], [], [], []⟩
def f30_vc (va : Option Addr) (vn : Nat) (vc : Nat) (w : World) (R : Ending → World → Prop) : Prop :=
 Calls Proofs.Tryd.prog 16 #[Value.slice va vn vc] w fun (e1 : Ending) (w2 : World) =>
 ∃ (b3 : Bool),
 e1 = Ending.returned (Value.bool b3) ∧
 ((!b3) = true → R (Ending.returned (Value.string (ByteArray.mk #[63]))) w2) ∧
 ((!b3) = false → Calls Proofs.Tryd.prog 43 #[Value.slice va vn vc] w2 fun (e4 : Ending) (w5 : World) => ∃ (s6 : ByteArray), e4 = Ending.returned (Value.string s6) ∧ R (Ending.returned (Value.string s6)) w5)
theorem f30_eq (va : Option Addr) (vn : Nat) (vc : Nat) (w : World) (R : Ending → World → Prop) : (fnF Go.Proofs.Tryd.prog h30 Go.Proofs.Tryd.f30 [Value.slice va vn vc] w R).den = f30_vc va vn vc w R := by kernel_rfl
theorem f30_calls (va : Option Addr) (vn : Nat) (vc : Nat) (w : World) (R : Ending → World → Prop) (h : f30_vc va vn vc w R) : Calls Go.Proofs.Tryd.prog 30 (List.toArray [Value.slice va vn vc]) w R :=
 fn_sound (H := h30) (fn := Go.Proofs.Tryd.f30) (by kernel_rfl) (by kernel_rfl) (by kernel_rfl) ((f30_eq va vn vc w R).mpr h)

/-! manciple/mancipleref34.num -/
def h36 : Hints := ⟨[], [11, 16], [4], [], [], [], [], [], []⟩
def f36_vc (n : Int) (w : World) (R : Ending → World → Prop) : Prop :=
 (decide (n ≥ 0) = true → Calls Proofs.Tryd.prog 35 #[Value.int IntKind.i64 n] w fun (e1 : Ending) (w2 : World) => ∃ (s3 : ByteArray), e1 = Ending.returned (Value.string s3) ∧ R (Ending.returned (Value.string s3)) w2) ∧
 (decide (n ≥ 0) = false →
 Calls Proofs.Tryd.prog 35 #[Value.int IntKind.i64 (IntKind.i64.wrap (0 - IntKind.i64.wrap (n.tdiv 10)))] w fun (e4 : Ending) (w5 : World) =>
 ∃ (s6 : ByteArray),
 e4 = Ending.returned (Value.string s6) ∧
 ∃ (s7 : ByteArray),
 Gives Proofs.Tryd.prog (binOpS BinOp.add 9 (Operand.const (Value.string (ByteArray.mk #[45]))) (Operand.tmp 10) (Value.string (ByteArray.mk #[45])) (Value.string s6)) (Value.string s7) ∧
 Calls Proofs.Tryd.prog 35 #[Value.int IntKind.i64 (IntKind.i64.wrap (0 - n.tmod 10))] w5 fun (e8 : Ending) (w9 : World) =>
 ∃ (s10 : ByteArray),
 e8 = Ending.returned (Value.string s10) ∧
 ∃ (s11 : ByteArray), Gives Proofs.Tryd.prog (binOpS BinOp.add 9 (Operand.tmp 11) (Operand.tmp 15) (Value.string s7) (Value.string s10)) (Value.string s11) ∧ R (Ending.returned (Value.string s11)) w9)
theorem f36_eq (n : Int) (w : World) (R : Ending → World → Prop) : (fnF Go.Proofs.Tryd.prog h36 Go.Proofs.Tryd.f36 [Value.int IntKind.i64 n] w R).den = f36_vc n w R := by kernel_rfl
theorem f36_calls (n : Int) (w : World) (R : Ending → World → Prop) (h : f36_vc n w R) : Calls Go.Proofs.Tryd.prog 36 (List.toArray [Value.int IntKind.i64 n]) w R :=
 fn_sound (H := h36) (fn := Go.Proofs.Tryd.f36) (by kernel_rfl) (by kernel_rfl) (by kernel_rfl) ((f36_eq n w R).mpr h)

/-! manciple/mancipleref34.frame -/
def h29 : Hints := ⟨[1], [7, 8, 12, 13, 17, 21, 23, 27, 31, 33], [19, 29], [(1, [0, 1, 5, 6, 10, 11, 2, 3, 4, 7, 8, 9, 12, 13, 14])], [], [], [], [], []⟩
def f29_vc (f_0 : Int) (f_1 : Int) (f_2 : Int) (f_3 : Bool) (f_4 : Bool) (f_5 : Int) (f_6 : Int) (w : World) (R : Ending → World → Prop) : Prop :=
 ∀ (n1 : Nat),
 w.heap.size ≤ n1 →
 ∀ (w2 : World),
 Bel w w2 →
 Under [n1] w2 →
 Calls Proofs.Tryd.prog 20 #[Value.int IntKind.i64 f_0] w2 fun (e3 : Ending) (w4 : World) =>
 ∃ (s5 : ByteArray),
 e3 = Ending.returned (Value.string s5) ∧
 Keeps [n1] w2 w4 ∧
 ∃ (s6 : ByteArray),
 Gives Proofs.Tryd.prog (binOpS BinOp.add 9 (Operand.const (Value.string (ByteArray.mk #[102, 114, 97, 109, 101, 32]))) (Operand.tmp 6) (Value.string (ByteArray.mk #[102, 114, 97, 109, 101, 32])) (Value.string s5))
 (Value.string s6) ∧
 ∃ (s7 : ByteArray),
 Gives Proofs.Tryd.prog (binOpS BinOp.add 9 (Operand.tmp 7) (Operand.const (Value.string (ByteArray.mk #[32, 114, 111, 108, 101, 32]))) (Value.string s6) (Value.string (ByteArray.mk #[32, 114, 111, 108, 101, 32])))
 (Value.string s7) ∧
 Calls Proofs.Tryd.prog 20 #[Value.int IntKind.i64 f_1] w4 fun (e8 : Ending) (w9 : World) =>
 ∃ (s10 : ByteArray),
 e8 = Ending.returned (Value.string s10) ∧
 Keeps [n1] w4 w9 ∧
 ∃ (s11 : ByteArray),
 Gives Proofs.Tryd.prog (binOpS BinOp.add 9 (Operand.tmp 8) (Operand.tmp 11) (Value.string s7) (Value.string s10)) (Value.string s11) ∧
 ∃ (s12 : ByteArray),
 Gives Proofs.Tryd.prog
 (binOpS BinOp.add 9 (Operand.tmp 12) (Operand.const (Value.string (ByteArray.mk #[32, 119, 101, 105, 103, 104, 116, 32]))) (Value.string s11)
 (Value.string (ByteArray.mk #[32, 119, 101, 105, 103, 104, 116, 32])))
 (Value.string s12) ∧
 Calls Proofs.Tryd.prog 20 #[Value.int IntKind.i64 f_2] w9 fun (e13 : Ending) (w14 : World) =>
 ∃ (s15 : ByteArray),
 e13 = Ending.returned (Value.string s15) ∧
 Keeps [n1] w9 w14 ∧
 ∃ (s16 : ByteArray),
 Gives Proofs.Tryd.prog (binOpS BinOp.add 9 (Operand.tmp 13) (Operand.tmp 16) (Value.string s12) (Value.string s15)) (Value.string s16) ∧
 (f_3 = true →
 ∃ (s17 : ByteArray),
 Gives Proofs.Tryd.prog
 (binOpS BinOp.add 9 (Operand.tmp 20) (Operand.const (Value.string (ByteArray.mk #[32, 117, 112]))) (Value.string s16) (Value.string (ByteArray.mk #[32, 117, 112])))
 (Value.string s17) ∧
 (f_4 = true →
 ∃ (s18 : ByteArray),
 Gives Proofs.Tryd.prog
 (binOpS BinOp.add 9 (Operand.tmp 30) (Operand.const (Value.string (ByteArray.mk #[32, 113, 117, 105, 101, 116]))) (Value.string s17)
 (Value.string (ByteArray.mk #[32, 113, 117, 105, 101, 116])))
 (Value.string s18) ∧
 ∃ (s19 : ByteArray),
 Gives Proofs.Tryd.prog (binOpS BinOp.add 9 (Operand.tmp 32) (Operand.const (Value.string (ByteArray.mk #[10]))) (Value.string s18) (Value.string (ByteArray.mk #[10])))
 (Value.string s19) ∧
 R (Ending.returned (Value.string s19)) w14) ∧
 (f_4 = false →
 ∃ (s20 : ByteArray),
 Gives Proofs.Tryd.prog (binOpS BinOp.add 9 (Operand.tmp 32) (Operand.const (Value.string (ByteArray.mk #[10]))) (Value.string s17) (Value.string (ByteArray.mk #[10])))
 (Value.string s20) ∧
 R (Ending.returned (Value.string s20)) w14)) ∧
 (f_3 = false →
 ∃ (s21 : ByteArray),
 Gives Proofs.Tryd.prog
 (binOpS BinOp.add 9 (Operand.tmp 22) (Operand.const (Value.string (ByteArray.mk #[32, 97, 119, 97, 121, 32]))) (Value.string s16)
 (Value.string (ByteArray.mk #[32, 97, 119, 97, 121, 32])))
 (Value.string s21) ∧
 Calls Proofs.Tryd.prog 20 #[Value.int IntKind.i64 f_6] w14 fun (e22 : Ending) (w23 : World) =>
 ∃ (s24 : ByteArray),
 e22 = Ending.returned (Value.string s24) ∧
 Keeps [n1] w14 w23 ∧
 ∃ (s25 : ByteArray),
 Gives Proofs.Tryd.prog (binOpS BinOp.add 9 (Operand.tmp 23) (Operand.tmp 26) (Value.string s21) (Value.string s24)) (Value.string s25) ∧
 (f_4 = true →
 ∃ (s26 : ByteArray),
 Gives Proofs.Tryd.prog
 (binOpS BinOp.add 9 (Operand.tmp 30) (Operand.const (Value.string (ByteArray.mk #[32, 113, 117, 105, 101, 116]))) (Value.string s25)
 (Value.string (ByteArray.mk #[32, 113, 117, 105, 101, 116])))
 (Value.string s26) ∧
 ∃ (s27 : ByteArray),
 Gives Proofs.Tryd.prog
 (binOpS BinOp.add 9 (Operand.tmp 32) (Operand.const (Value.string (ByteArray.mk #[10]))) (Value.string s26) (Value.string (ByteArray.mk #[10])))
 (Value.string s27) ∧
 R (Ending.returned (Value.string s27)) w23) ∧
 (f_4 = false →
 ∃ (s28 : ByteArray),
 Gives Proofs.Tryd.prog
 (binOpS BinOp.add 9 (Operand.tmp 32) (Operand.const (Value.string (ByteArray.mk #[10]))) (Value.string s25) (Value.string (ByteArray.mk #[10])))
 (Value.string s28) ∧
 R (Ending.returned (Value.string s28)) w23))
theorem f29_eq (f_0 : Int) (f_1 : Int) (f_2 : Int) (f_3 : Bool) (f_4 : Bool) (f_5 : Int) (f_6 : Int) (w : World) (R : Ending → World → Prop) : (fnF Go.Proofs.Tryd.prog h29 Go.Proofs.Tryd.f29 [Value.agg #[Value.int IntKind.i64 f_0, Value.int IntKind.i64 f_1, Value.int IntKind.i64 f_2, Value.bool f_3, Value.bool f_4, Value.int IntKind.i64 f_5, Value.int IntKind.i64 f_6]] w R).den = f29_vc f_0 f_1 f_2 f_3 f_4 f_5 f_6 w R := by kernel_rfl
theorem f29_calls (f_0 : Int) (f_1 : Int) (f_2 : Int) (f_3 : Bool) (f_4 : Bool) (f_5 : Int) (f_6 : Int) (w : World) (R : Ending → World → Prop) (h : f29_vc f_0 f_1 f_2 f_3 f_4 f_5 f_6 w R) : Calls Go.Proofs.Tryd.prog 29 (List.toArray [Value.agg #[Value.int IntKind.i64 f_0, Value.int IntKind.i64 f_1, Value.int IntKind.i64 f_2, Value.bool f_3, Value.bool f_4, Value.int IntKind.i64 f_5, Value.int IntKind.i64 f_6]]) w R :=
 fn_sound (H := h29) (fn := Go.Proofs.Tryd.f29) (by kernel_rfl) (by kernel_rfl) (by kernel_rfl) ((f29_eq f_0 f_1 f_2 f_3 f_4 f_5 f_6 w R).mpr h)

end Vcq

/- The formulas of functions, printed by a program (VcTool.lean): each is what the generator's formula comes to, by the kernel's reckoning; whoever proves one has the function's contract. -/
set_option maxRecDepth 100000
set_option maxHeartbeats 1000000
set_option linter.unusedVariables false
namespace Vcq
open Go Go.Vc Go.RowKit
/-! manciple/tell.Reply -/
def h6 : Hints := ⟨[1, 5], [14, 21, 22], [13], [], [], [(3, ⟨[(3, .str), (12, .int .i64)], []⟩)], [], [], [(5, (.op 0 (.op 3 (.alt (.op 1 (.alt (.op 2 (.op 4 (.op 5 (.op 6 (.op 7 .nil))))) (.op 4 (.op 2 (.op 5 (.op 6 (.op 7 .nil))))))) (.op 4 (.op 1 (.op 2 (.op 5 (.op 6 (.op 7 .nil))))))))))]⟩
def f6_vc (r_0 : Int) (r_1a : Option Addr) (r_1n : Nat) (r_1c : Nat) (w : World) (R : Ending → World → Prop) : Prop :=
 ∀ (n1 : Nat),
 w.heap.size ≤ n1 →
 ∀ (w2 : World),
 Bel w w2 →
 Under [n1] w2 →
 Calls Proofs.Tryd.prog 8 #[Value.int IntKind.i64 r_0] w2 fun (e3 : Ending) (w4 : World) =>
 ∃ (s5 : ByteArray),
 e3 = Ending.returned (Value.string s5) ∧
 Keeps [n1] w2 w4 ∧
 ∃ (J6 : ByteArray × Int × Unit → World → Prop),
 ∃ (J7 : ByteArray × Int × Unit → World → Nat),
 J6 (s5, 0, ()) w4 ∧
 ∀ (s8 : ByteArray) (x9 : Int) (w10 : World),
 J6 (s8, x9, ()) w10 →
 (decide (x9 < (↑r_1n : Int)) = true →
 ∃ (ad11 : Addr),
 Gives Proofs.Tryd.prog (Instr.indexAt 23 (Value.slice r_1a r_1n r_1c) (Value.int IntKind.i64 x9)) (Value.pointer (some ad11)) ∧
 ∃ (x12 : Int),
 ∃ (x13 : Int),
 ∃ (x14 : Int),
 ∃ (x15 : Int),
 ∃ (a16 : Option Addr),
 ∃ (n17 : Nat),
 ∃ (n18 : Nat),
 Reads Proofs.Tryd.prog [] (Instr.loadAt 47 (Value.pointer (some ad11))) w10
 (Value.agg #[Value.int IntKind.i64 x12, Value.int IntKind.i64 x13, Value.int IntKind.i64 x14, Value.int IntKind.i64 x15, Value.slice a16 n17 n18]) ∧
 ∀ (n19 : Nat),
 w10.heap.size ≤ n19 →
 (∀ (w20 : World),
 Evo [n19] w10 w20 →
 Under [n1, n19] w20 →
 OpW Proofs.Tryd.prog (valueS (Instr.buildSlice 49 2 #[(0, Value.int IntKind.i32 59), (1, Value.int IntKind.i32 32)])) w20 fun (v21 : Value) (w22 : World) =>
 ∃ (a23 : Option Addr),
 ∃ (n24 : Nat),
 ∃ (n25 : Nat),
 v21 = Value.slice a23 n24 n25 ∧
 Keeps [n1, n19] w20 w22 ∧
 (OpW Proofs.Tryd.prog (valueS (convert 49 9 (Value.slice a23 n24 n25))) w22 fun (v26 : Value) (w27 : World) =>
 ∃ (s28 : ByteArray),
 v26 = Value.string s28 ∧
 Keeps [n1, n19] w22 w27 ∧
 Calls Proofs.Tryd.prog 17
 #[Value.agg #[Value.int IntKind.i64 x12, Value.int IntKind.i64 x13, Value.int IntKind.i64 x14, Value.int IntKind.i64 x15, Value.slice a16 n17 n18]] w27
 fun (e29 : Ending) (w30 : World) =>
 ∃ (s31 : ByteArray),
 e29 = Ending.returned (Value.string s31) ∧
 Keeps [n1, n19] w27 w30 ∧
 ∃ (s32 : ByteArray),
 Gives Proofs.Tryd.prog (binOpS BinOp.add 9 (Operand.tmp 18) (Operand.tmp 20) (Value.string s28) (Value.string s31)) (Value.string s32) ∧
 ∃ (s33 : ByteArray),
 Gives Proofs.Tryd.prog (binOpS BinOp.add 9 (Operand.tmp 16) (Operand.tmp 21) (Value.string s8) (Value.string s32)) (Value.string s33) ∧
 J6 (s33, IntKind.i64.wrap (x9 + 1), ()) w30 ∧ J7 (s33, IntKind.i64.wrap (x9 + 1), ()) w30 < J7 (s8, x9, ()) w10) ∧
 Calls Proofs.Tryd.prog 17
 #[Value.agg #[Value.int IntKind.i64 x12, Value.int IntKind.i64 x13, Value.int IntKind.i64 x14, Value.int IntKind.i64 x15, Value.slice a16 n17 n18]] w22
 fun (e34 : Ending) (w35 : World) =>
 ∃ (s36 : ByteArray),
 e34 = Ending.returned (Value.string s36) ∧
 Keeps [n1, n19] w22 w35 ∧
 OpW Proofs.Tryd.prog (valueS (convert 49 9 (Value.slice a23 n24 n25))) w35 fun (v37 : Value) (w38 : World) =>
 ∃ (s39 : ByteArray),
 v37 = Value.string s39 ∧
 Keeps [n1, n19] w35 w38 ∧
 ∃ (s40 : ByteArray),
 Gives Proofs.Tryd.prog (binOpS BinOp.add 9 (Operand.tmp 18) (Operand.tmp 20) (Value.string s39) (Value.string s36)) (Value.string s40) ∧
 ∃ (s41 : ByteArray),
 Gives Proofs.Tryd.prog (binOpS BinOp.add 9 (Operand.tmp 16) (Operand.tmp 21) (Value.string s8) (Value.string s40)) (Value.string s41) ∧
 J6 (s41, IntKind.i64.wrap (x9 + 1), ()) w38 ∧ J7 (s41, IntKind.i64.wrap (x9 + 1), ()) w38 < J7 (s8, x9, ()) w10) ∧
 ∀ (w42 : World),
 Evo [n19] w10 w42 →
 Under [n1, n19] w42 →
 Calls Proofs.Tryd.prog 17 #[Value.agg #[Value.int IntKind.i64 x12, Value.int IntKind.i64 x13, Value.int IntKind.i64 x14, Value.int IntKind.i64 x15, Value.slice a16 n17 n18]]
 w42 fun (e43 : Ending) (w44 : World) =>
 ∃ (s45 : ByteArray),
 e43 = Ending.returned (Value.string s45) ∧
 Keeps [n1, n19] w42 w44 ∧
 OpW Proofs.Tryd.prog (valueS (Instr.buildSlice 49 2 #[(0, Value.int IntKind.i32 59), (1, Value.int IntKind.i32 32)])) w44 fun (v46 : Value) (w47 : World) =>
 ∃ (a48 : Option Addr),
 ∃ (n49 : Nat),
 ∃ (n50 : Nat),
 v46 = Value.slice a48 n49 n50 ∧
 Keeps [n1, n19] w44 w47 ∧
 OpW Proofs.Tryd.prog (valueS (convert 49 9 (Value.slice a48 n49 n50))) w47 fun (v51 : Value) (w52 : World) =>
 ∃ (s53 : ByteArray),
 v51 = Value.string s53 ∧
 Keeps [n1, n19] w47 w52 ∧
 ∃ (s54 : ByteArray),
 Gives Proofs.Tryd.prog (binOpS BinOp.add 9 (Operand.tmp 18) (Operand.tmp 20) (Value.string s53) (Value.string s45)) (Value.string s54) ∧
 ∃ (s55 : ByteArray),
 Gives Proofs.Tryd.prog (binOpS BinOp.add 9 (Operand.tmp 16) (Operand.tmp 21) (Value.string s8) (Value.string s54)) (Value.string s55) ∧
 J6 (s55, IntKind.i64.wrap (x9 + 1), ()) w52 ∧ J7 (s55, IntKind.i64.wrap (x9 + 1), ()) w52 < J7 (s8, x9, ()) w10) ∧
 (decide (x9 < (↑r_1n : Int)) = false → R (Ending.returned (Value.string s8)) w10)
theorem f6_eq (r_0 : Int) (r_1a : Option Addr) (r_1n : Nat) (r_1c : Nat) (w : World) (R : Ending → World → Prop) : (fnF Go.Proofs.Tryd.prog h6 Go.Proofs.Tryd.f6 [Value.agg #[Value.int IntKind.i64 r_0, Value.slice r_1a r_1n r_1c]] w R).den = f6_vc r_0 r_1a r_1n r_1c w R := by kernel_rfl
theorem f6_calls (r_0 : Int) (r_1a : Option Addr) (r_1n : Nat) (r_1c : Nat) (w : World) (R : Ending → World → Prop) (h : f6_vc r_0 r_1a r_1n r_1c w R) : Calls Go.Proofs.Tryd.prog 6 (List.toArray [Value.agg #[Value.int IntKind.i64 r_0, Value.slice r_1a r_1n r_1c]]) w R :=
 fn_sound (H := h6) (fn := Go.Proofs.Tryd.f6) (by kernel_rfl) (by kernel_rfl) (by kernel_rfl) ((f6_eq r_0 r_1a r_1n r_1c w R).mpr h)

/-! manciple/tell.Err -/
def h8 : Hints := ⟨[], [3], [], [], [], [], [], [], []⟩
def f8_vc (e : Int) (w : World) (R : Ending → World → Prop) : Prop :=
 ∃ (a1 : Option Addr),
 ∃ (n2 : Nat),
 ∃ (n3 : Nat),
 Gives Proofs.Tryd.prog (Instr.sliceAt 53 (Value.pointer (some (Addr.mk 0 0 none))) none none none) (Value.slice a1 n2 n3) ∧
 Calls Proofs.Tryd.prog 19 #[Value.slice a1 n2 n3, Value.int IntKind.i64 e, Value.string (ByteArray.mk #[101, 114, 114, 111, 114])] w fun (e4 : Ending) (w5 : World) =>
 ∃ (s6 : ByteArray), e4 = Ending.returned (Value.string s6) ∧ R (Ending.returned (Value.string s6)) w5
theorem f8_eq (e : Int) (w : World) (R : Ending → World → Prop) : (fnF Go.Proofs.Tryd.prog h8 Go.Proofs.Tryd.f8 [Value.int IntKind.i64 e] w R).den = f8_vc e w R := by kernel_rfl
theorem f8_calls (e : Int) (w : World) (R : Ending → World → Prop) (h : f8_vc e w R) : Calls Go.Proofs.Tryd.prog 8 (List.toArray [Value.int IntKind.i64 e]) w R :=
 fn_sound (H := h8) (fn := Go.Proofs.Tryd.f8) (by kernel_rfl) (by kernel_rfl) (by kernel_rfl) ((f8_eq e w R).mpr h)

/-! manciple/tell.Kind -/
def h10 : Hints := ⟨[], [3], [], [], [], [], [], [], []⟩
def f10_vc (kind : Int) (w : World) (R : Ending → World → Prop) : Prop :=
 ∃ (a1 : Option Addr),
 ∃ (n2 : Nat),
 ∃ (n3 : Nat),
 Gives Proofs.Tryd.prog (Instr.sliceAt 55 (Value.pointer (some (Addr.mk 1 0 none))) none none none) (Value.slice a1 n2 n3) ∧
 Calls Proofs.Tryd.prog 19 #[Value.slice a1 n2 n3, Value.int IntKind.i64 kind, Value.string (ByteArray.mk #[101, 118, 101, 110, 116])] w fun (e4 : Ending) (w5 : World) =>
 ∃ (s6 : ByteArray), e4 = Ending.returned (Value.string s6) ∧ R (Ending.returned (Value.string s6)) w5
theorem f10_eq (kind : Int) (w : World) (R : Ending → World → Prop) : (fnF Go.Proofs.Tryd.prog h10 Go.Proofs.Tryd.f10 [Value.int IntKind.i64 kind] w R).den = f10_vc kind w R := by kernel_rfl
theorem f10_calls (kind : Int) (w : World) (R : Ending → World → Prop) (h : f10_vc kind w R) : Calls Go.Proofs.Tryd.prog 10 (List.toArray [Value.int IntKind.i64 kind]) w R :=
 fn_sound (H := h10) (fn := Go.Proofs.Tryd.f10) (by kernel_rfl) (by kernel_rfl) (by kernel_rfl) ((f10_eq kind w R).mpr h)

/-! manciple/manciplelaw34.works -/
def h12 : Hints := ⟨[], [], [8, 13], [], [], [], [], [], []⟩
def f12_vc  (w : World) (R : Ending → World → Prop) : Prop :=
 OpW Proofs.Tryd.prog (valueS (Instr.buildSlice 45 1 #[(0, Value.agg #[Value.int IntKind.i64 0, Value.int IntKind.i64 0, Value.int IntKind.i64 1000])])) w fun (v1 : Value) (w2 : World) =>
 ∃ (a3 : Option Addr),
 ∃ (n4 : Nat),
 ∃ (n5 : Nat),
 v1 = Value.slice a3 n4 n5 ∧
 Calls Proofs.Tryd.prog 17 #[Value.agg #[Value.int IntKind.i64 6, Value.int IntKind.i64 1, Value.int IntKind.i64 2, Value.int IntKind.i64 3, Value.slice a3 n4 n5]] w2 fun (e6 : Ending) (w7 : World) =>
 ∃ (s8 : ByteArray),
 e6 = Ending.returned (Value.string s8) ∧
 ((s8.toList == (ByteArray.mk #[111, 102, 102, 101, 114, 101, 100, 32, 102, 114, 97, 109, 101, 32, 49, 32, 105, 100, 32, 50, 32, 97, 103, 101, 110, 116, 32, 51, 32, 99, 112, 117, 115, 58, 49]).toList) = true →
 Calls Proofs.Tryd.prog 6 #[Value.agg #[Value.int IntKind.i64 10, Value.slice none 0 0]] w7 fun (e9 : Ending) (w10 : World) =>
 ∃ (s11 : ByteArray),
 e9 = Ending.returned (Value.string s11) ∧
 ((s11.toList == (ByteArray.mk #[110, 111, 32, 102, 114, 97, 109, 101, 119, 111, 114, 107]).toList) = true →
 Calls Proofs.Tryd.prog 14
 #[Value.agg
 #[Value.int IntKind.i64 0, Value.int IntKind.i64 0, Value.int IntKind.i64 0, Value.int IntKind.i64 0, Value.int IntKind.i64 0, Value.int IntKind.i64 0, Value.int IntKind.i64 0, Value.int IntKind.i64 0,
 Value.int IntKind.i64 0, Value.int IntKind.i64 0, Value.int IntKind.i64 0, Value.slice none 0 0, Value.slice none 0 0, Value.slice none 0 0, Value.slice none 0 0, Value.slice none 0 0]]
 w10 fun (e12 : Ending) (w13 : World) =>
 ∃ (s14 : ByteArray), e12 = Ending.returned (Value.string s14) ∧ R (Ending.returned (Value.bool (s14.toList == (ByteArray.mk #[110, 111, 119, 32, 48, 32, 108, 97, 115, 116, 32, 48, 10]).toList))) w13) ∧
 ((s11.toList == (ByteArray.mk #[110, 111, 32, 102, 114, 97, 109, 101, 119, 111, 114, 107]).toList) = false → R (Ending.returned (Value.bool false)) w10)) ∧
 ((s8.toList == (ByteArray.mk #[111, 102, 102, 101, 114, 101, 100, 32, 102, 114, 97, 109, 101, 32, 49, 32, 105, 100, 32, 50, 32, 97, 103, 101, 110, 116, 32, 51, 32, 99, 112, 117, 115, 58, 49]).toList) = false →
 R (Ending.returned (Value.bool false)) w7)
theorem f12_eq  (w : World) (R : Ending → World → Prop) : (fnF Go.Proofs.Tryd.prog h12 Go.Proofs.Tryd.f12 [] w R).den = f12_vc  w R := by kernel_rfl
theorem f12_calls  (w : World) (R : Ending → World → Prop) (h : f12_vc  w R) : Calls Go.Proofs.Tryd.prog 12 (List.toArray []) w R :=
 fn_sound (H := h12) (fn := Go.Proofs.Tryd.f12) (by kernel_rfl) (by kernel_rfl) (by kernel_rfl) ((f12_eq  w R).mpr h)

/-! manciple/tell.Event -/
def h17 : Hints := ⟨[], [22, 34, 46, 58], [25, 37, 49], [(4, [0, 1, 2, 3, 4, 5, 6, 7, 8]), (5, [0, 1, 2, 3, 4, 5, 6, 7, 8, 9, 10, 11]), (6, [0, 1, 2, 3, 4, 5, 6, 7, 8, 9, 10, 11]), (7, [0, 1, 2, 3, 4, 5, 6, 7, 8, 9, 10, 11])], [], [], [], [], []⟩
def f17_vc (e_0 : Int) (e_1 : Int) (e_2 : Int) (e_3 : Int) (e_4a : Option Addr) (e_4n : Nat) (e_4c : Nat) (w : World) (R : Ending → World → Prop) : Prop :=
 OpW Proofs.Tryd.prog (valueS (Instr.box 47 (Value.agg #[Value.int IntKind.i64 e_0, Value.int IntKind.i64 e_1, Value.int IntKind.i64 e_2, Value.int IntKind.i64 e_3, Value.slice e_4a e_4n e_4c]))) w fun (v1 : Value) (w2 : World) =>
 ∃ (ad3 : Addr),
 v1 = Value.pointer (some ad3) ∧
 ∃ (x4 : Int),
 Reads Proofs.Tryd.prog [] (Instr.loadAt 3 (Value.pointer (some ad3))) w2 (Value.int IntKind.i64 x4) ∧
 Calls Proofs.Tryd.prog 10 #[Value.int IntKind.i64 x4] w2 fun (e5 : Ending) (w6 : World) =>
 ∃ (s7 : ByteArray),
 e5 = Ending.returned (Value.string s7) ∧
 OpW Proofs.Tryd.prog (valueS (Instr.buildSlice 52 1 #[(0, Value.string s7)])) w6 fun (v8 : Value) (w9 : World) =>
 ∃ (a10 : Option Addr),
 ∃ (n11 : Nat),
 ∃ (n12 : Nat),
 v8 = Value.slice a10 n11 n12 ∧
 OpW Proofs.Tryd.prog (valueS (Instr.alloc 52 true (Value.tuple #[]))) w9 fun (v13 : Value) (w14 : World) =>
 ∃ (ad15 : Addr),
 v13 = Value.pointer (some ad15) ∧
 OpW Proofs.Tryd.prog (skipS (Instr.storeAt 52 (Value.pointer (some ad15)) (Value.slice a10 n11 n12))) w14 fun (v16 : Value) (w17 : World) =>
 ∃ (x18 : Int),
 Reads Proofs.Tryd.prog [] (Instr.loadAt 3 (Value.pointer (some ad3))) w17 (Value.int IntKind.i64 x18) ∧
 ∃ (x19 : Int),
 Reads Proofs.Tryd.prog [] (Instr.loadAt 3 (Value.pointer (some ad3))) w17 (Value.int IntKind.i64 x19) ∧
 ∃ (x20 : Int),
 Reads Proofs.Tryd.prog [] (Instr.loadAt 2 (Value.pointer (some (Addr.mk ad3.block (ad3.off + 1) none)))) w17 (Value.int IntKind.i64 x20) ∧
 ∀ (w21 : World),
 Bel w17 w21 →
 Calls Proofs.Tryd.prog 25 #[Value.int IntKind.i64 x20] w21 fun (e22 : Ending) (w23 : World) =>
 ∃ (s24 : ByteArray),
 e22 = Ending.returned (Value.string s24) ∧
 Reads Proofs.Tryd.prog [] (Instr.loadAt 3 (Value.pointer (some ad3))) w23 (Value.int IntKind.i64 x19) ∧
 OpW Proofs.Tryd.prog (valueS (Instr.buildSlice 52 2 #[(0, Value.string (ByteArray.mk #[102, 114, 97, 109, 101])), (1, Value.string s24)])) w23 fun (v25 : Value) (w26 : World) =>
 ∃ (a27 : Option Addr),
 ∃ (n28 : Nat),
 ∃ (n29 : Nat),
 v25 = Value.slice a27 n28 n29 ∧
 Reads Proofs.Tryd.prog [] (Instr.loadAt 3 (Value.pointer (some ad3))) w26 (Value.int IntKind.i64 x19) ∧
 OpW Proofs.Tryd.prog
 (invokeS (Value.func (Fn.func 34) #[] #[Value.pointer (some ad3), Value.pointer (some ad15)]) #[Value.bool (decide (x19 ≥ 3)), Value.slice a27 n28 n29]) w26
 fun (v30 : Value) (w31 : World) =>
 v30 = Value.tuple #[] ∧
 Reads Proofs.Tryd.prog [] (Instr.loadAt 3 (Value.pointer (some ad3))) w31 (Value.int IntKind.i64 x19) ∧
 (decide (x18 ≥ 6) = true →
 ∃ (x32 : Int),
 Reads Proofs.Tryd.prog [] (Instr.loadAt 3 (Value.pointer (some ad3))) w31 (Value.int IntKind.i64 x32) ∧
 ∃ (x33 : Int),
 Reads Proofs.Tryd.prog [] (Instr.loadAt 2 (Value.pointer (some (Addr.mk ad3.block (ad3.off + 2) none)))) w31 (Value.int IntKind.i64 x33) ∧
 ∀ (w34 : World),
 Bel w31 w34 →
 Calls Proofs.Tryd.prog 25 #[Value.int IntKind.i64 x33] w34 fun (e35 : Ending) (w36 : World) =>
 ∃ (s37 : ByteArray),
 e35 = Ending.returned (Value.string s37) ∧
 Reads Proofs.Tryd.prog [] (Instr.loadAt 3 (Value.pointer (some ad3))) w36 (Value.int IntKind.i64 x32) ∧
 OpW Proofs.Tryd.prog (valueS (Instr.buildSlice 52 2 #[(0, Value.string (ByteArray.mk #[105, 100])), (1, Value.string s37)])) w36
 fun (v38 : Value) (w39 : World) =>
 ∃ (a40 : Option Addr),
 ∃ (n41 : Nat),
 ∃ (n42 : Nat),
 v38 = Value.slice a40 n41 n42 ∧
 Reads Proofs.Tryd.prog [] (Instr.loadAt 3 (Value.pointer (some ad3))) w39 (Value.int IntKind.i64 x32) ∧
 OpW Proofs.Tryd.prog
 (invokeS (Value.func (Fn.func 34) #[] #[Value.pointer (some ad3), Value.pointer (some ad15)])
 #[Value.bool (decide (x32 ≤ 17)), Value.slice a40 n41 n42])
 w39 fun (v43 : Value) (w44 : World) =>
 v43 = Value.tuple #[] ∧
 Reads Proofs.Tryd.prog [] (Instr.loadAt 3 (Value.pointer (some ad3))) w44 (Value.int IntKind.i64 x32) ∧
 (decide (x18 ≥ 6) = true →
 ∃ (x45 : Int),
 Reads Proofs.Tryd.prog [] (Instr.loadAt 2 (Value.pointer (some (Addr.mk ad3.block (ad3.off + 3) none)))) w44
 (Value.int IntKind.i64 x45) ∧
 ∀ (w46 : World),
 Bel w44 w46 →
 Calls Proofs.Tryd.prog 25 #[Value.int IntKind.i64 x45] w46 fun (e47 : Ending) (w48 : World) =>
 ∃ (s49 : ByteArray),
 e47 = Ending.returned (Value.string s49) ∧
 OpW Proofs.Tryd.prog
 (valueS
 (Instr.buildSlice 52 2
 #[(0, Value.string (ByteArray.mk #[97, 103, 101, 110, 116])), (1, Value.string s49)]))
 w48 fun (v50 : Value) (w51 : World) =>
 ∃ (a52 : Option Addr),
 ∃ (n53 : Nat),
 ∃ (n54 : Nat),
 v50 = Value.slice a52 n53 n54 ∧
 OpW Proofs.Tryd.prog
 (invokeS
 (Value.func (Fn.func 34) #[] #[Value.pointer (some ad3), Value.pointer (some ad15)])
 #[Value.bool true, Value.slice a52 n53 n54])
 w51 fun (v55 : Value) (w56 : World) =>
 v55 = Value.tuple #[] ∧
 (decide (x18 ≥ 6) = true →
 ∃ (a57 : Option Addr),
 ∃ (n58 : Nat),
 ∃ (n59 : Nat),
 Reads Proofs.Tryd.prog []
 (Instr.loadAt 45
 (Value.pointer (some (Addr.mk ad3.block (ad3.off + 4) none))))
 w56 (Value.slice a57 n58 n59) ∧
 ∀ (w60 : World),
 Bel w56 w60 →
 Calls Proofs.Tryd.prog 27 #[Value.slice a57 n58 n59] w60
 fun (e61 : Ending) (w62 : World) =>
 ∃ (s63 : ByteArray),
 e61 = Ending.returned (Value.string s63) ∧
 OpW Proofs.Tryd.prog
 (valueS (Instr.buildSlice 52 1 #[(0, Value.string s63)])) w62
 fun (v64 : Value) (w65 : World) =>
 ∃ (a66 : Option Addr),
 ∃ (n67 : Nat),
 ∃ (n68 : Nat),
 v64 = Value.slice a66 n67 n68 ∧
 OpW Proofs.Tryd.prog
 (invokeS
 (Value.func (Fn.func 34) #[]
 #[Value.pointer (some ad3),
 Value.pointer (some ad15)])
 #[Value.bool true, Value.slice a66 n67 n68])
 w65 fun (v69 : Value) (w70 : World) =>
 v69 = Value.tuple #[] ∧
 ∃ (a71 : Option Addr),
 ∃ (n72 : Nat),
 ∃ (n73 : Nat),
 Reads Proofs.Tryd.prog []
 (Instr.loadAt 52
 (Value.pointer (some ad15)))
 w70 (Value.slice a71 n72 n73) ∧
 Calls Proofs.Tryd.prog 23
 #[Value.slice a71 n72 n73] w70
 fun (e74 : Ending) (w75 : World) =>
 ∃ (s76 : ByteArray),
 e74 = Ending.returned (Value.string s76) ∧
 R (Ending.returned (Value.string s76))
 w75) ∧
 (decide (x18 ≥ 6) = false →
 ∃ (x77 : Int),
 Reads Proofs.Tryd.prog [] (Instr.loadAt 3 (Value.pointer (some ad3))) w56
 (Value.int IntKind.i64 x77) ∧
 ∃ (a78 : Option Addr),
 ∃ (n79 : Nat),
 ∃ (n80 : Nat),
 Reads Proofs.Tryd.prog []
 (Instr.loadAt 45
 (Value.pointer (some (Addr.mk ad3.block (ad3.off + 4) none))))
 w56 (Value.slice a78 n79 n80) ∧
 ∀ (w81 : World),
 Bel w56 w81 →
 Calls Proofs.Tryd.prog 27 #[Value.slice a78 n79 n80] w81
 fun (e82 : Ending) (w83 : World) =>
 ∃ (s84 : ByteArray),
 e82 = Ending.returned (Value.string s84) ∧
 Reads Proofs.Tryd.prog []
 (Instr.loadAt 3 (Value.pointer (some ad3))) w83
 (Value.int IntKind.i64 x77) ∧
 OpW Proofs.Tryd.prog
 (valueS (Instr.buildSlice 52 1 #[(0, Value.string s84)]))
 w83 fun (v85 : Value) (w86 : World) =>
 ∃ (a87 : Option Addr),
 ∃ (n88 : Nat),
 ∃ (n89 : Nat),
 v85 = Value.slice a87 n88 n89 ∧
 Reads Proofs.Tryd.prog []
 (Instr.loadAt 3 (Value.pointer (some ad3))) w86
 (Value.int IntKind.i64 x77) ∧
 OpW Proofs.Tryd.prog
 (invokeS
 (Value.func (Fn.func 34) #[]
 #[Value.pointer (some ad3),
 Value.pointer (some ad15)])
 #[Value.bool (x77 == 1),
 Value.slice a87 n88 n89])
 w86 fun (v90 : Value) (w91 : World) =>
 v90 = Value.tuple #[] ∧
 Reads Proofs.Tryd.prog []
 (Instr.loadAt 3
 (Value.pointer (some ad3)))
 w91 (Value.int IntKind.i64 x77) ∧
 ∃ (a92 : Option Addr),
 ∃ (n93 : Nat),
 ∃ (n94 : Nat),
 Reads Proofs.Tryd.prog []
 (Instr.loadAt 52
 (Value.pointer (some ad15)))
 w91 (Value.slice a92 n93 n94) ∧
 Calls Proofs.Tryd.prog 23
 #[Value.slice a92 n93 n94] w91
 fun (e95 : Ending)
 (w96 : World) =>
 ∃ (s97 : ByteArray),
 e95 =
 Ending.returned
 (Value.string s97) ∧
 R
 (Ending.returned
 (Value.string s97))
 w96)) ∧
 (decide (x18 ≥ 6) = false →
 ∃ (x98 : Int),
 Reads Proofs.Tryd.prog [] (Instr.loadAt 3 (Value.pointer (some ad3))) w44 (Value.int IntKind.i64 x98) ∧
 ∃ (x99 : Int),
 Reads Proofs.Tryd.prog [] (Instr.loadAt 2 (Value.pointer (some (Addr.mk ad3.block (ad3.off + 3) none)))) w44
 (Value.int IntKind.i64 x99) ∧
 ∀ (w100 : World),
 Bel w44 w100 →
 Calls Proofs.Tryd.prog 25 #[Value.int IntKind.i64 x99] w100 fun (e101 : Ending) (w102 : World) =>
 ∃ (s103 : ByteArray),
 e101 = Ending.returned (Value.string s103) ∧
 Reads Proofs.Tryd.prog [] (Instr.loadAt 3 (Value.pointer (some ad3))) w102
 (Value.int IntKind.i64 x98) ∧
 OpW Proofs.Tryd.prog
 (valueS
 (Instr.buildSlice 52 2
 #[(0, Value.string (ByteArray.mk #[97, 103, 101, 110, 116])), (1, Value.string s103)]))
 w102 fun (v104 : Value) (w105 : World) =>
 ∃ (a106 : Option Addr),
 ∃ (n107 : Nat),
 ∃ (n108 : Nat),
 v104 = Value.slice a106 n107 n108 ∧
 Reads Proofs.Tryd.prog [] (Instr.loadAt 3 (Value.pointer (some ad3))) w105
 (Value.int IntKind.i64 x98) ∧
 OpW Proofs.Tryd.prog
 (invokeS
 (Value.func (Fn.func 34) #[]
 #[Value.pointer (some ad3), Value.pointer (some ad15)])
 #[Value.bool (decide (x98 ≤ 2)), Value.slice a106 n107 n108])
 w105 fun (v109 : Value) (w110 : World) =>
 v109 = Value.tuple #[] ∧
 Reads Proofs.Tryd.prog [] (Instr.loadAt 3 (Value.pointer (some ad3))) w110
 (Value.int IntKind.i64 x98) ∧
 (decide (x18 ≥ 6) = true →
 ∃ (a111 : Option Addr),
 ∃ (n112 : Nat),
 ∃ (n113 : Nat),
 Reads Proofs.Tryd.prog []
 (Instr.loadAt 45
 (Value.pointer (some (Addr.mk ad3.block (ad3.off + 4) none))))
 w110 (Value.slice a111 n112 n113) ∧
 ∀ (w114 : World),
 Bel w110 w114 →
 Calls Proofs.Tryd.prog 27 #[Value.slice a111 n112 n113] w114
 fun (e115 : Ending) (w116 : World) =>
 ∃ (s117 : ByteArray),
 e115 = Ending.returned (Value.string s117) ∧
 OpW Proofs.Tryd.prog
 (valueS
 (Instr.buildSlice 52 1 #[(0, Value.string s117)]))
 w116 fun (v118 : Value) (w119 : World) =>
 ∃ (a120 : Option Addr),
 ∃ (n121 : Nat),
 ∃ (n122 : Nat),
 v118 = Value.slice a120 n121 n122 ∧
 OpW Proofs.Tryd.prog
 (invokeS
 (Value.func (Fn.func 34) #[]
 #[Value.pointer (some ad3),
 Value.pointer (some ad15)])
 #[Value.bool true,
 Value.slice a120 n121 n122])
 w119 fun (v123 : Value) (w124 : World) =>
 v123 = Value.tuple #[] ∧
 ∃ (a125 : Option Addr),
 ∃ (n126 : Nat),
 ∃ (n127 : Nat),
 Reads Proofs.Tryd.prog []
 (Instr.loadAt 52
 (Value.pointer (some ad15)))
 w124
 (Value.slice a125 n126 n127) ∧
 Calls Proofs.Tryd.prog 23
 #[Value.slice a125 n126 n127] w124
 fun (e128 : Ending)
 (w129 : World) =>
 ∃ (s130 : ByteArray),
 e128 =
 Ending.returned
 (Value.string s130) ∧
 R
 (Ending.returned
 (Value.string s130))
 w129) ∧
 (decide (x18 ≥ 6) = false →
 ∃ (x131 : Int),
 Reads Proofs.Tryd.prog [] (Instr.loadAt 3 (Value.pointer (some ad3))) w110
 (Value.int IntKind.i64 x131) ∧
 ∃ (a132 : Option Addr),
 ∃ (n133 : Nat),
 ∃ (n134 : Nat),
 Reads Proofs.Tryd.prog []
 (Instr.loadAt 45
 (Value.pointer
 (some (Addr.mk ad3.block (ad3.off + 4) none))))
 w110 (Value.slice a132 n133 n134) ∧
 ∀ (w135 : World),
 Bel w110 w135 →
 Calls Proofs.Tryd.prog 27 #[Value.slice a132 n133 n134] w135
 fun (e136 : Ending) (w137 : World) =>
 ∃ (s138 : ByteArray),
 e136 = Ending.returned (Value.string s138) ∧
 Reads Proofs.Tryd.prog []
 (Instr.loadAt 3 (Value.pointer (some ad3))) w137
 (Value.int IntKind.i64 x131) ∧
 OpW Proofs.Tryd.prog
 (valueS
 (Instr.buildSlice 52 1
 #[(0, Value.string s138)]))
 w137 fun (v139 : Value) (w140 : World) =>
 ∃ (a141 : Option Addr),
 ∃ (n142 : Nat),
 ∃ (n143 : Nat),
 v139 = Value.slice a141 n142 n143 ∧
 Reads Proofs.Tryd.prog []
 (Instr.loadAt 3
 (Value.pointer (some ad3)))
 w140 (Value.int IntKind.i64 x131) ∧
 OpW Proofs.Tryd.prog
 (invokeS
 (Value.func (Fn.func 34) #[]
 #[Value.pointer (some ad3),
 Value.pointer (some ad15)])
 #[Value.bool (x131 == 1),
 Value.slice a141 n142 n143])
 w140
 fun (v144 : Value) (w145 : World) =>
 v144 = Value.tuple #[] ∧
 Reads Proofs.Tryd.prog []
 (Instr.loadAt 3
 (Value.pointer (some ad3)))
 w145
 (Value.int IntKind.i64 x131) ∧
 ∃ (a146 : Option Addr),
 ∃ (n147 : Nat),
 ∃ (n148 : Nat),
 Reads Proofs.Tryd.prog []
 (Instr.loadAt 52
 (Value.pointer
 (some ad15)))
 w145
 (Value.slice a146 n147
 n148) ∧
 Calls Proofs.Tryd.prog 23
 #[Value.slice a146 n147
 n148]
 w145
 fun (e149 : Ending)
 (w150 : World) =>
 ∃ (s151 : ByteArray),
 e149 =
 Ending.returned
 (Value.string
 s151) ∧
 R
 (Ending.returned
 (Value.string
 s151))
 w150))) ∧
 (decide (x18 ≥ 6) = false →
 ∃ (x152 : Int),
 Reads Proofs.Tryd.prog [] (Instr.loadAt 2 (Value.pointer (some (Addr.mk ad3.block (ad3.off + 2) none)))) w31 (Value.int IntKind.i64 x152) ∧
 ∀ (w153 : World),
 Bel w31 w153 →
 Calls Proofs.Tryd.prog 25 #[Value.int IntKind.i64 x152] w153 fun (e154 : Ending) (w155 : World) =>
 ∃ (s156 : ByteArray),
 e154 = Ending.returned (Value.string s156) ∧
 OpW Proofs.Tryd.prog (valueS (Instr.buildSlice 52 2 #[(0, Value.string (ByteArray.mk #[105, 100])), (1, Value.string s156)])) w155
 fun (v157 : Value) (w158 : World) =>
 ∃ (a159 : Option Addr),
 ∃ (n160 : Nat),
 ∃ (n161 : Nat),
 v157 = Value.slice a159 n160 n161 ∧
 OpW Proofs.Tryd.prog
 (invokeS (Value.func (Fn.func 34) #[] #[Value.pointer (some ad3), Value.pointer (some ad15)])
 #[Value.bool false, Value.slice a159 n160 n161])
 w158 fun (v162 : Value) (w163 : World) =>
 v162 = Value.tuple #[] ∧
 (decide (x18 ≥ 6) = true →
 ∃ (x164 : Int),
 Reads Proofs.Tryd.prog [] (Instr.loadAt 2 (Value.pointer (some (Addr.mk ad3.block (ad3.off + 3) none)))) w163
 (Value.int IntKind.i64 x164) ∧
 ∀ (w165 : World),
 Bel w163 w165 →
 Calls Proofs.Tryd.prog 25 #[Value.int IntKind.i64 x164] w165 fun (e166 : Ending) (w167 : World) =>
 ∃ (s168 : ByteArray),
 e166 = Ending.returned (Value.string s168) ∧
 OpW Proofs.Tryd.prog
 (valueS
 (Instr.buildSlice 52 2 #[(0, Value.string (ByteArray.mk #[97, 103, 101, 110, 116])), (1, Value.string s168)]))
 w167 fun (v169 : Value) (w170 : World) =>
 ∃ (a171 : Option Addr),
 ∃ (n172 : Nat),
 ∃ (n173 : Nat),
 v169 = Value.slice a171 n172 n173 ∧
 OpW Proofs.Tryd.prog
 (invokeS (Value.func (Fn.func 34) #[] #[Value.pointer (some ad3), Value.pointer (some ad15)])
 #[Value.bool true, Value.slice a171 n172 n173])
 w170 fun (v174 : Value) (w175 : World) =>
 v174 = Value.tuple #[] ∧
 (decide (x18 ≥ 6) = true →
 ∃ (a176 : Option Addr),
 ∃ (n177 : Nat),
 ∃ (n178 : Nat),
 Reads Proofs.Tryd.prog []
 (Instr.loadAt 45 (Value.pointer (some (Addr.mk ad3.block (ad3.off + 4) none)))) w175
 (Value.slice a176 n177 n178) ∧
 ∀ (w179 : World),
 Bel w175 w179 →
 Calls Proofs.Tryd.prog 27 #[Value.slice a176 n177 n178] w179
 fun (e180 : Ending) (w181 : World) =>
 ∃ (s182 : ByteArray),
 e180 = Ending.returned (Value.string s182) ∧
 OpW Proofs.Tryd.prog
 (valueS (Instr.buildSlice 52 1 #[(0, Value.string s182)])) w181
 fun (v183 : Value) (w184 : World) =>
 ∃ (a185 : Option Addr),
 ∃ (n186 : Nat),
 ∃ (n187 : Nat),
 v183 = Value.slice a185 n186 n187 ∧
 OpW Proofs.Tryd.prog
 (invokeS
 (Value.func (Fn.func 34) #[]
 #[Value.pointer (some ad3), Value.pointer (some ad15)])
 #[Value.bool true, Value.slice a185 n186 n187])
 w184 fun (v188 : Value) (w189 : World) =>
 v188 = Value.tuple #[] ∧
 ∃ (a190 : Option Addr),
 ∃ (n191 : Nat),
 ∃ (n192 : Nat),
 Reads Proofs.Tryd.prog []
 (Instr.loadAt 52 (Value.pointer (some ad15))) w189
 (Value.slice a190 n191 n192) ∧
 Calls Proofs.Tryd.prog 23 #[Value.slice a190 n191 n192]
 w189 fun (e193 : Ending) (w194 : World) =>
 ∃ (s195 : ByteArray),
 e193 = Ending.returned (Value.string s195) ∧
 R (Ending.returned (Value.string s195)) w194) ∧
 (decide (x18 ≥ 6) = false →
 ∃ (x196 : Int),
 Reads Proofs.Tryd.prog [] (Instr.loadAt 3 (Value.pointer (some ad3))) w175
 (Value.int IntKind.i64 x196) ∧
 ∃ (a197 : Option Addr),
 ∃ (n198 : Nat),
 ∃ (n199 : Nat),
 Reads Proofs.Tryd.prog []
 (Instr.loadAt 45 (Value.pointer (some (Addr.mk ad3.block (ad3.off + 4) none))))
 w175 (Value.slice a197 n198 n199) ∧
 ∀ (w200 : World),
 Bel w175 w200 →
 Calls Proofs.Tryd.prog 27 #[Value.slice a197 n198 n199] w200
 fun (e201 : Ending) (w202 : World) =>
 ∃ (s203 : ByteArray),
 e201 = Ending.returned (Value.string s203) ∧
 Reads Proofs.Tryd.prog [] (Instr.loadAt 3 (Value.pointer (some ad3))) w202
 (Value.int IntKind.i64 x196) ∧
 OpW Proofs.Tryd.prog
 (valueS (Instr.buildSlice 52 1 #[(0, Value.string s203)])) w202
 fun (v204 : Value) (w205 : World) =>
 ∃ (a206 : Option Addr),
 ∃ (n207 : Nat),
 ∃ (n208 : Nat),
 v204 = Value.slice a206 n207 n208 ∧
 Reads Proofs.Tryd.prog []
 (Instr.loadAt 3 (Value.pointer (some ad3))) w205
 (Value.int IntKind.i64 x196) ∧
 OpW Proofs.Tryd.prog
 (invokeS
 (Value.func (Fn.func 34) #[]
 #[Value.pointer (some ad3),
 Value.pointer (some ad15)])
 #[Value.bool (x196 == 1), Value.slice a206 n207 n208])
 w205 fun (v209 : Value) (w210 : World) =>
 v209 = Value.tuple #[] ∧
 Reads Proofs.Tryd.prog []
 (Instr.loadAt 3 (Value.pointer (some ad3))) w210
 (Value.int IntKind.i64 x196) ∧
 ∃ (a211 : Option Addr),
 ∃ (n212 : Nat),
 ∃ (n213 : Nat),
 Reads Proofs.Tryd.prog []
 (Instr.loadAt 52
 (Value.pointer (some ad15)))
 w210 (Value.slice a211 n212 n213) ∧
 Calls Proofs.Tryd.prog 23
 #[Value.slice a211 n212 n213] w210
 fun (e214 : Ending) (w215 : World) =>
 ∃ (s216 : ByteArray),
 e214 =
 Ending.returned (Value.string s216) ∧
 R (Ending.returned (Value.string s216))
 w215)) ∧
 (decide (x18 ≥ 6) = false →
 ∃ (x217 : Int),
 Reads Proofs.Tryd.prog [] (Instr.loadAt 3 (Value.pointer (some ad3))) w163 (Value.int IntKind.i64 x217) ∧
 ∃ (x218 : Int),
 Reads Proofs.Tryd.prog [] (Instr.loadAt 2 (Value.pointer (some (Addr.mk ad3.block (ad3.off + 3) none)))) w163
 (Value.int IntKind.i64 x218) ∧
 ∀ (w219 : World),
 Bel w163 w219 →
 Calls Proofs.Tryd.prog 25 #[Value.int IntKind.i64 x218] w219 fun (e220 : Ending) (w221 : World) =>
 ∃ (s222 : ByteArray),
 e220 = Ending.returned (Value.string s222) ∧
 Reads Proofs.Tryd.prog [] (Instr.loadAt 3 (Value.pointer (some ad3))) w221 (Value.int IntKind.i64 x217) ∧
 OpW Proofs.Tryd.prog
 (valueS
 (Instr.buildSlice 52 2
 #[(0, Value.string (ByteArray.mk #[97, 103, 101, 110, 116])), (1, Value.string s222)]))
 w221 fun (v223 : Value) (w224 : World) =>
 ∃ (a225 : Option Addr),
 ∃ (n226 : Nat),
 ∃ (n227 : Nat),
 v223 = Value.slice a225 n226 n227 ∧
 Reads Proofs.Tryd.prog [] (Instr.loadAt 3 (Value.pointer (some ad3))) w224
 (Value.int IntKind.i64 x217) ∧
 OpW Proofs.Tryd.prog
 (invokeS (Value.func (Fn.func 34) #[] #[Value.pointer (some ad3), Value.pointer (some ad15)])
 #[Value.bool (decide (x217 ≤ 2)), Value.slice a225 n226 n227])
 w224 fun (v228 : Value) (w229 : World) =>
 v228 = Value.tuple #[] ∧
 Reads Proofs.Tryd.prog [] (Instr.loadAt 3 (Value.pointer (some ad3))) w229
 (Value.int IntKind.i64 x217) ∧
 (decide (x18 ≥ 6) = true →
 ∃ (a230 : Option Addr),
 ∃ (n231 : Nat),
 ∃ (n232 : Nat),
 Reads Proofs.Tryd.prog []
 (Instr.loadAt 45
 (Value.pointer (some (Addr.mk ad3.block (ad3.off + 4) none))))
 w229 (Value.slice a230 n231 n232) ∧
 ∀ (w233 : World),
 Bel w229 w233 →
 Calls Proofs.Tryd.prog 27 #[Value.slice a230 n231 n232] w233
 fun (e234 : Ending) (w235 : World) =>
 ∃ (s236 : ByteArray),
 e234 = Ending.returned (Value.string s236) ∧
 OpW Proofs.Tryd.prog
 (valueS (Instr.buildSlice 52 1 #[(0, Value.string s236)])) w235
 fun (v237 : Value) (w238 : World) =>
 ∃ (a239 : Option Addr),
 ∃ (n240 : Nat),
 ∃ (n241 : Nat),
 v237 = Value.slice a239 n240 n241 ∧
 OpW Proofs.Tryd.prog
 (invokeS
 (Value.func (Fn.func 34) #[]
 #[Value.pointer (some ad3),
 Value.pointer (some ad15)])
 #[Value.bool true, Value.slice a239 n240 n241])
 w238 fun (v242 : Value) (w243 : World) =>
 v242 = Value.tuple #[] ∧
 ∃ (a244 : Option Addr),
 ∃ (n245 : Nat),
 ∃ (n246 : Nat),
 Reads Proofs.Tryd.prog []
 (Instr.loadAt 52
 (Value.pointer (some ad15)))
 w243 (Value.slice a244 n245 n246) ∧
 Calls Proofs.Tryd.prog 23
 #[Value.slice a244 n245 n246] w243
 fun (e247 : Ending) (w248 : World) =>
 ∃ (s249 : ByteArray),
 e247 =
 Ending.returned (Value.string s249) ∧
 R (Ending.returned (Value.string s249))
 w248) ∧
 (decide (x18 ≥ 6) = false →
 ∃ (x250 : Int),
 Reads Proofs.Tryd.prog [] (Instr.loadAt 3 (Value.pointer (some ad3))) w229
 (Value.int IntKind.i64 x250) ∧
 ∃ (a251 : Option Addr),
 ∃ (n252 : Nat),
 ∃ (n253 : Nat),
 Reads Proofs.Tryd.prog []
 (Instr.loadAt 45
 (Value.pointer (some (Addr.mk ad3.block (ad3.off + 4) none))))
 w229 (Value.slice a251 n252 n253) ∧
 ∀ (w254 : World),
 Bel w229 w254 →
 Calls Proofs.Tryd.prog 27 #[Value.slice a251 n252 n253] w254
 fun (e255 : Ending) (w256 : World) =>
 ∃ (s257 : ByteArray),
 e255 = Ending.returned (Value.string s257) ∧
 Reads Proofs.Tryd.prog []
 (Instr.loadAt 3 (Value.pointer (some ad3))) w256
 (Value.int IntKind.i64 x250) ∧
 OpW Proofs.Tryd.prog
 (valueS (Instr.buildSlice 52 1 #[(0, Value.string s257)]))
 w256 fun (v258 : Value) (w259 : World) =>
 ∃ (a260 : Option Addr),
 ∃ (n261 : Nat),
 ∃ (n262 : Nat),
 v258 = Value.slice a260 n261 n262 ∧
 Reads Proofs.Tryd.prog []
 (Instr.loadAt 3 (Value.pointer (some ad3))) w259
 (Value.int IntKind.i64 x250) ∧
 OpW Proofs.Tryd.prog
 (invokeS
 (Value.func (Fn.func 34) #[]
 #[Value.pointer (some ad3),
 Value.pointer (some ad15)])
 #[Value.bool (x250 == 1),
 Value.slice a260 n261 n262])
 w259 fun (v263 : Value) (w264 : World) =>
 v263 = Value.tuple #[] ∧
 Reads Proofs.Tryd.prog []
 (Instr.loadAt 3
 (Value.pointer (some ad3)))
 w264 (Value.int IntKind.i64 x250) ∧
 ∃ (a265 : Option Addr),
 ∃ (n266 : Nat),
 ∃ (n267 : Nat),
 Reads Proofs.Tryd.prog []
 (Instr.loadAt 52
 (Value.pointer (some ad15)))
 w264
 (Value.slice a265 n266 n267) ∧
 Calls Proofs.Tryd.prog 23
 #[Value.slice a265 n266 n267] w264
 fun (e268 : Ending)
 (w269 : World) =>
 ∃ (s270 : ByteArray),
 e268 =
 Ending.returned
 (Value.string s270) ∧
 R
 (Ending.returned
 (Value.string s270))
 w269)))
theorem f17_eq (e_0 : Int) (e_1 : Int) (e_2 : Int) (e_3 : Int) (e_4a : Option Addr) (e_4n : Nat) (e_4c : Nat) (w : World) (R : Ending → World → Prop) : (fnF Go.Proofs.Tryd.prog h17 Go.Proofs.Tryd.f17 [Value.agg #[Value.int IntKind.i64 e_0, Value.int IntKind.i64 e_1, Value.int IntKind.i64 e_2, Value.int IntKind.i64 e_3, Value.slice e_4a e_4n e_4c]] w R).den = f17_vc e_0 e_1 e_2 e_3 e_4a e_4n e_4c w R := by kernel_rfl
theorem f17_calls (e_0 : Int) (e_1 : Int) (e_2 : Int) (e_3 : Int) (e_4a : Option Addr) (e_4n : Nat) (e_4c : Nat) (w : World) (R : Ending → World → Prop) (h : f17_vc e_0 e_1 e_2 e_3 e_4a e_4n e_4c w R) : Calls Go.Proofs.Tryd.prog 17 (List.toArray [Value.agg #[Value.int IntKind.i64 e_0, Value.int IntKind.i64 e_1, Value.int IntKind.i64 e_2, Value.int IntKind.i64 e_3, Value.slice e_4a e_4n e_4c]]) w R :=
 fn_sound (H := h17) (fn := Go.Proofs.Tryd.f17) (by kernel_rfl) (by kernel_rfl) (by kernel_rfl) ((f17_eq e_0 e_1 e_2 e_3 e_4a e_4n e_4c w R).mpr h)

/-! manciple/tell.word -/
def h19 : Hints := ⟨[], [18, 23, 26, 29], [21, 9, 15], [], [], [], [], [], []⟩
def f19_vc (la : Option Addr) (ln : Nat) (lc : Nat) (n : Int) (what : ByteArray) (w : World) (R : Ending → World → Prop) : Prop :=
 (decide (n < 0) = true →
 ∃ (s1 : ByteArray),
 Gives Proofs.Tryd.prog (binOpS BinOp.add 9 (Operand.tmp 22) (Operand.const (Value.string (ByteArray.mk #[32]))) (Value.string what) (Value.string (ByteArray.mk #[32]))) (Value.string s1) ∧
 Calls Proofs.Tryd.prog 25 #[Value.int IntKind.i64 n] w fun (e2 : Ending) (w3 : World) =>
 ∃ (s4 : ByteArray),
 e2 = Ending.returned (Value.string s4) ∧
 ∃ (s5 : ByteArray), Gives Proofs.Tryd.prog (binOpS BinOp.add 9 (Operand.tmp 23) (Operand.tmp 25) (Value.string s1) (Value.string s4)) (Value.string s5) ∧ R (Ending.returned (Value.string s5)) w3) ∧
 (decide (n < 0) = false →
 (decide (n ≥ (↑ln : Int)) = true →
 ∃ (s6 : ByteArray),
 Gives Proofs.Tryd.prog (binOpS BinOp.add 9 (Operand.tmp 22) (Operand.const (Value.string (ByteArray.mk #[32]))) (Value.string what) (Value.string (ByteArray.mk #[32]))) (Value.string s6) ∧
 Calls Proofs.Tryd.prog 25 #[Value.int IntKind.i64 n] w fun (e7 : Ending) (w8 : World) =>
 ∃ (s9 : ByteArray),
 e7 = Ending.returned (Value.string s9) ∧
 ∃ (s10 : ByteArray), Gives Proofs.Tryd.prog (binOpS BinOp.add 9 (Operand.tmp 23) (Operand.tmp 25) (Value.string s6) (Value.string s9)) (Value.string s10) ∧ R (Ending.returned (Value.string s10)) w8) ∧
 (decide (n ≥ (↑ln : Int)) = false →
 ∃ (ad11 : Addr),
 Gives Proofs.Tryd.prog (Instr.indexAt 52 (Value.slice la ln lc) (Value.int IntKind.i64 n)) (Value.pointer (some ad11)) ∧
 ∃ (s12 : ByteArray),
 Reads Proofs.Tryd.prog [] (Instr.loadAt 9 (Value.pointer (some ad11))) w (Value.string s12) ∧
 ((s12.toList == (ByteArray.mk #[]).toList) = true →
 ∃ (s13 : ByteArray),
 Gives Proofs.Tryd.prog (binOpS BinOp.add 9 (Operand.tmp 22) (Operand.const (Value.string (ByteArray.mk #[32]))) (Value.string what) (Value.string (ByteArray.mk #[32]))) (Value.string s13) ∧
 Calls Proofs.Tryd.prog 25 #[Value.int IntKind.i64 n] w fun (e14 : Ending) (w15 : World) =>
 ∃ (s16 : ByteArray),
 e14 = Ending.returned (Value.string s16) ∧
 ∃ (s17 : ByteArray), Gives Proofs.Tryd.prog (binOpS BinOp.add 9 (Operand.tmp 23) (Operand.tmp 25) (Value.string s13) (Value.string s16)) (Value.string s17) ∧ R (Ending.returned (Value.string s17)) w15) ∧
 ((s12.toList == (ByteArray.mk #[]).toList) = false →
 ∃ (ad18 : Addr),
 Gives Proofs.Tryd.prog (Instr.indexAt 52 (Value.slice la ln lc) (Value.int IntKind.i64 n)) (Value.pointer (some ad18)) ∧
 ∃ (s19 : ByteArray), Reads Proofs.Tryd.prog [] (Instr.loadAt 9 (Value.pointer (some ad18))) w (Value.string s19) ∧ R (Ending.returned (Value.string s19)) w)))
theorem f19_eq (la : Option Addr) (ln : Nat) (lc : Nat) (n : Int) (what : ByteArray) (w : World) (R : Ending → World → Prop) : (fnF Go.Proofs.Tryd.prog h19 Go.Proofs.Tryd.f19 [Value.slice la ln lc, Value.int IntKind.i64 n, Value.string what] w R).den = f19_vc la ln lc n what w R := by kernel_rfl
theorem f19_calls (la : Option Addr) (ln : Nat) (lc : Nat) (n : Int) (what : ByteArray) (w : World) (R : Ending → World → Prop) (h : f19_vc la ln lc n what w R) : Calls Go.Proofs.Tryd.prog 19 (List.toArray [Value.slice la ln lc, Value.int IntKind.i64 n, Value.string what]) w R :=
 fn_sound (H := h19) (fn := Go.Proofs.Tryd.f19) (by kernel_rfl) (by kernel_rfl) (by kernel_rfl) ((f19_eq la ln lc n what w R).mpr h)

/-! manciple/tell.join -/
def h23 : Hints := ⟨[], [], [], [], [], [], [], [], []⟩
def f23_vc (wordsa : Option Addr) (wordsn : Nat) (wordsc : Nat) (w : World) (R : Ending → World → Prop) : Prop :=
 Calls Proofs.Tryd.prog 38 #[Value.slice wordsa wordsn wordsc, Value.string (ByteArray.mk #[32])] w fun (e1 : Ending) (w2 : World) => ∃ (s3 : ByteArray), e1 = Ending.returned (Value.string s3) ∧ R (Ending.returned (Value.string s3)) w2
theorem f23_eq (wordsa : Option Addr) (wordsn : Nat) (wordsc : Nat) (w : World) (R : Ending → World → Prop) : (fnF Go.Proofs.Tryd.prog h23 Go.Proofs.Tryd.f23 [Value.slice wordsa wordsn wordsc] w R).den = f23_vc wordsa wordsn wordsc w R := by kernel_rfl
theorem f23_calls (wordsa : Option Addr) (wordsn : Nat) (wordsc : Nat) (w : World) (R : Ending → World → Prop) (h : f23_vc wordsa wordsn wordsc w R) : Calls Go.Proofs.Tryd.prog 23 (List.toArray [Value.slice wordsa wordsn wordsc]) w R :=
 fn_sound (H := h23) (fn := Go.Proofs.Tryd.f23) (by kernel_rfl) (by kernel_rfl) (by kernel_rfl) ((f23_eq wordsa wordsn wordsc w R).mpr h)

/-! manciple/tell.num -/
def h25 : Hints := ⟨[], [], [], [], [], [], [], [], []⟩
def f25_vc (n : Int) (w : World) (R : Ending → World → Prop) : Prop :=
 Calls Proofs.Tryd.prog 40 #[Value.int IntKind.i64 n, Value.int IntKind.i64 10] w fun (e1 : Ending) (w2 : World) => ∃ (s3 : ByteArray), e1 = Ending.returned (Value.string s3) ∧ R (Ending.returned (Value.string s3)) w2
theorem f25_eq (n : Int) (w : World) (R : Ending → World → Prop) : (fnF Go.Proofs.Tryd.prog h25 Go.Proofs.Tryd.f25 [Value.int IntKind.i64 n] w R).den = f25_vc n w R := by kernel_rfl
theorem f25_calls (n : Int) (w : World) (R : Ending → World → Prop) (h : f25_vc n w R) : Calls Go.Proofs.Tryd.prog 25 (List.toArray [Value.int IntKind.i64 n]) w R :=
 fn_sound (H := h25) (fn := Go.Proofs.Tryd.f25) (by kernel_rfl) (by kernel_rfl) (by kernel_rfl) ((f25_eq n w R).mpr h)

/-! manciple/tell.vector -/
def h27 : Hints := ⟨[], [], [5], [], [], [], [], [], []⟩
def f27_vc (va : Option Addr) (vn : Nat) (vc : Nat) (w : World) (R : Ending → World → Prop) : Prop :=
 Calls Proofs.Tryd.prog 41 #[Value.slice va vn vc] w fun (e1 : Ending) (w2 : World) =>
 ∃ (b3 : Bool),
 e1 = Ending.returned (Value.bool b3) ∧
 ((!b3) = true → R (Ending.returned (Value.string (ByteArray.mk #[63]))) w2) ∧
 ((!b3) = false → Calls Proofs.Tryd.prog 42 #[Value.slice va vn vc] w2 fun (e4 : Ending) (w5 : World) => ∃ (s6 : ByteArray), e4 = Ending.returned (Value.string s6) ∧ R (Ending.returned (Value.string s6)) w5)
theorem f27_eq (va : Option Addr) (vn : Nat) (vc : Nat) (w : World) (R : Ending → World → Prop) : (fnF Go.Proofs.Tryd.prog h27 Go.Proofs.Tryd.f27 [Value.slice va vn vc] w R).den = f27_vc va vn vc w R := by kernel_rfl
theorem f27_calls (va : Option Addr) (vn : Nat) (vc : Nat) (w : World) (R : Ending → World → Prop) (h : f27_vc va vn vc w R) : Calls Go.Proofs.Tryd.prog 27 (List.toArray [Value.slice va vn vc]) w R :=
 fn_sound (H := h27) (fn := Go.Proofs.Tryd.f27) (by kernel_rfl) (by kernel_rfl) (by kernel_rfl) ((f27_eq va vn vc w R).mpr h)

/-! manciple/tell.Event$1 -/
def h34 : Hints := ⟨[], [], [16, 7, 12], [], [], [], [], [], []⟩
def f34_vc (is : Bool) (morea : Option Addr) (moren : Nat) (morec : Nat) (cap0 : Addr) (cap1 : Addr) (w : World) (R : Ending → World → Prop) : Prop :=
 (is = true →
 ∃ (x1 : Int),
 Reads Proofs.Tryd.prog [] (Instr.loadAt 3 (Value.pointer (some cap0))) w (Value.int IntKind.i64 x1) ∧
 (decide (x1 ≥ 1) = true →
 ∃ (x2 : Int),
 Reads Proofs.Tryd.prog [] (Instr.loadAt 3 (Value.pointer (some cap0))) w (Value.int IntKind.i64 x2) ∧
 (decide (x2 ≤ 19) = true →
 ∃ (a3 : Option Addr),
 ∃ (n4 : Nat),
 ∃ (n5 : Nat),
 Reads Proofs.Tryd.prog [] (Instr.loadAt 52 (Value.pointer (some cap1))) w (Value.slice a3 n4 n5) ∧
 OpW Proofs.Tryd.prog (builtin Builtin.append #[52, 52] 52 #[false, false] #[Value.slice a3 n4 n5, Value.slice morea moren morec]) w fun (v6 : Value) (w7 : World) =>
 ∃ (a8 : Option Addr),
 ∃ (n9 : Nat),
 ∃ (n10 : Nat),
 v6 = Value.slice a8 n9 n10 ∧
 OpW Proofs.Tryd.prog (skipS (Instr.storeAt 52 (Value.pointer (some cap1)) (Value.slice a8 n9 n10))) w7 fun (v11 : Value) (w12 : World) => R (Ending.returned (Value.tuple #[])) w12) ∧
 (decide (x2 ≤ 19) = false → R (Ending.returned (Value.tuple #[])) w)) ∧
 (decide (x1 ≥ 1) = false → R (Ending.returned (Value.tuple #[])) w)) ∧
 (is = false → R (Ending.returned (Value.tuple #[])) w)
theorem f34_eq (is : Bool) (morea : Option Addr) (moren : Nat) (morec : Nat) (cap0 : Addr) (cap1 : Addr) (w : World) (R : Ending → World → Prop) : (fnF Go.Proofs.Tryd.prog h34 Go.Proofs.Tryd.f34 [Value.bool is, Value.slice morea moren morec, Value.pointer (some cap0), Value.pointer (some cap1)] w R).den = f34_vc is morea moren morec cap0 cap1 w R := by kernel_rfl
theorem f34_calls (is : Bool) (morea : Option Addr) (moren : Nat) (morec : Nat) (cap0 : Addr) (cap1 : Addr) (w : World) (R : Ending → World → Prop) (h : f34_vc is morea moren morec cap0 cap1 w R) : Calls Go.Proofs.Tryd.prog 34 (List.toArray [Value.bool is, Value.slice morea moren morec, Value.pointer (some cap0), Value.pointer (some cap1)]) w R :=
 fn_sound (H := h34) (fn := Go.Proofs.Tryd.f34) (by kernel_rfl) (by kernel_rfl) (by kernel_rfl) ((f34_eq is morea moren morec cap0 cap1 w R).mpr h)

/-! manciple/manciplelaw34.TellReplies -/
def h3 : Hints := ⟨[2], [], [8, 14, 21, 28], [(3, [0, 2, 1, 3, 4, 5, 6, 8, 7, 9, 10, 11, 12, 13, 15, 14, 16, 17, 18, 19, 20, 21, 22])], [], [], [], [], []⟩
def f3_vc (r_0 : Int) (r_1a : Option Addr) (r_1n : Nat) (r_1c : Nat) (e : Int) (w : World) (R : Ending → World → Prop) : Prop :=
 ∀ (n1 : Nat),
 w.heap.size ≤ n1 →
 ∀ (w2 : World),
 Bel w w2 →
 Under [n1] w2 →
 OpW Proofs.Tryd.prog (valueS (Instr.buildSlice 27 1 #[(0, Value.agg #[Value.int IntKind.i64 r_0, Value.slice r_1a r_1n r_1c])])) w2 fun (v3 : Value) (w4 : World) =>
 ∃ (a5 : Option Addr),
 ∃ (n6 : Nat),
 ∃ (n7 : Nat),
 v3 = Value.slice a5 n6 n7 ∧
 Keeps [n1] w2 w4 ∧
 Calls Proofs.Tryd.prog 5 #[Value.slice a5 n6 n7] w4 fun (e8 : Ending) (w9 : World) =>
 ∃ (b10 : Bool),
 e8 = Ending.returned (Value.bool b10) ∧
 Keeps [n1] w4 w9 ∧
 ((!b10) = true → R (Ending.returned (Value.bool true)) w9) ∧
 ((!b10) = false →
 ∀ (w11 : World),
 Bel w9 w11 →
 Under [n1] w11 →
 Calls Proofs.Tryd.prog 6 #[Value.agg #[Value.int IntKind.i64 r_0, Value.slice r_1a r_1n r_1c]] w11 fun (e12 : Ending) (w13 : World) =>
 ∃ (s14 : ByteArray),
 e12 = Ending.returned (Value.string s14) ∧
 Keeps [n1] w11 w13 ∧
 Calls Proofs.Tryd.prog 7 #[Value.agg #[Value.int IntKind.i64 r_0, Value.slice r_1a r_1n r_1c]] w13 fun (e15 : Ending) (w16 : World) =>
 ∃ (s17 : ByteArray),
 e15 = Ending.returned (Value.string s17) ∧
 Keeps [n1] w13 w16 ∧
 ((s14.toList == s17.toList) = true →
 Calls Proofs.Tryd.prog 8 #[Value.int IntKind.i64 e] w16 fun (e18 : Ending) (w19 : World) =>
 ∃ (s20 : ByteArray),
 e18 = Ending.returned (Value.string s20) ∧
 Keeps [n1] w16 w19 ∧
 Calls Proofs.Tryd.prog 9 #[Value.int IntKind.i64 e] w19 fun (e21 : Ending) (w22 : World) =>
 ∃ (s23 : ByteArray),
 e21 = Ending.returned (Value.string s23) ∧
 Keeps [n1] w19 w22 ∧
 ((s20.toList == s23.toList) = true →
 Calls Proofs.Tryd.prog 10 #[Value.int IntKind.i64 e] w22 fun (e24 : Ending) (w25 : World) =>
 ∃ (s26 : ByteArray),
 e24 = Ending.returned (Value.string s26) ∧
 Keeps [n1] w22 w25 ∧
 Calls Proofs.Tryd.prog 11 #[Value.int IntKind.i64 e] w25 fun (e27 : Ending) (w28 : World) =>
 ∃ (s29 : ByteArray),
 e27 = Ending.returned (Value.string s29) ∧
 Keeps [n1] w25 w28 ∧
 ((s26.toList == s29.toList) = true →
 Calls Proofs.Tryd.prog 12 #[] w28 fun (e30 : Ending) (w31 : World) =>
 ∃ (b32 : Bool), e30 = Ending.returned (Value.bool b32) ∧ Keeps [n1] w28 w31 ∧ R (Ending.returned (Value.bool b32)) w31) ∧
 ((s26.toList == s29.toList) = false → R (Ending.returned (Value.bool false)) w28)) ∧
 ((s20.toList == s23.toList) = false → R (Ending.returned (Value.bool false)) w22)) ∧
 ((s14.toList == s17.toList) = false → R (Ending.returned (Value.bool false)) w16))
theorem f3_eq (r_0 : Int) (r_1a : Option Addr) (r_1n : Nat) (r_1c : Nat) (e : Int) (w : World) (R : Ending → World → Prop) : (fnF Go.Proofs.Tryd.prog h3 Go.Proofs.Tryd.f3 [Value.agg #[Value.int IntKind.i64 r_0, Value.slice r_1a r_1n r_1c], Value.int IntKind.i64 e] w R).den = f3_vc r_0 r_1a r_1n r_1c e w R := by kernel_rfl
theorem f3_calls (r_0 : Int) (r_1a : Option Addr) (r_1n : Nat) (r_1c : Nat) (e : Int) (w : World) (R : Ending → World → Prop) (h : f3_vc r_0 r_1a r_1n r_1c e w R) : Calls Go.Proofs.Tryd.prog 3 (List.toArray [Value.agg #[Value.int IntKind.i64 r_0, Value.slice r_1a r_1n r_1c], Value.int IntKind.i64 e]) w R :=
 fn_sound (H := h3) (fn := Go.Proofs.Tryd.f3) (by kernel_rfl) (by kernel_rfl) (by kernel_rfl) ((f3_eq r_0 r_1a r_1n r_1c e w R).mpr h)

end Vcq

/- Tell: tables, numbers, words. -/
set_option maxRecDepth 20000
set_option maxHeartbeats 1000000
set_option linter.unusedVariables false
namespace Go.Vc.Q
open Go Go.Vc Go.Vc.V Go.RowKit Go.Proofs Vcq

variable {w W W' W1 : World} {M N : Nat → Prop} {gs ds : List Nat} {n : Int} {l : List PartT} {a : Option Addr} {ln lc : Nat}

abbrev zro (w : World) : World := { w with drawn := 0 }
theorem at_zro (w : World) (M : Nat → Prop) : AtF (zro w) M [] w := ⟨⟨rfl, rfl, rfl, Nat.le_refl _, fun _ _ _ => rfl, Nat.zero_le _⟩, fun _ h => by cases h⟩
theorem at_callW {f : FuncId} {args : Array Value} {v : Value} {K : Ending → World → Prop} (hA : AtF (zro w) M gs W) (hc : RetW Tryd.prog f args W v) (hK : ∀ w', AtF (zro w) M gs w' → Keeps gs W w' → Below W.heap.size W w' → K (.returned v) w') : Calls Tryd.prog f args W K :=
  hc K fun w' hb => hK w' ⟨⟨hb.os.trans hA.chg.os, hb.tape.trans hA.chg.tape, hb.output.trans hA.chg.output, Nat.le_trans hA.chg.size hb.size, fun b hl hm => (hb.block b (Nat.lt_of_lt_of_le hl hA.chg.size)).trans (hA.chg.block b hl hm), Nat.zero_le _⟩, fun g hg => Nat.lt_of_lt_of_le (hA.under g hg) hb.size⟩ (fun g hg => hb.block g (hA.under g hg)) hb
theorem leafW {R : Ending → World → Prop} {v v' : Value} (h : ∀ w', Below w.heap.size w w' → R (.returned v) w') (hA : At (zro w) gs W) (e : v' = v) : R (.returned v') W := by
  subst e
  exact h W ⟨hA.chg.os, hA.chg.tape, hA.chg.output, hA.chg.size, fun b hb => hA.chg.block b hb id⟩

/-! ### Tables -/
def bs (l : List UInt8) : ByteArray := ⟨l.toArray⟩
def errsL : List ByteArray := [bs [111, 107], bs [102, 111, 114, 109], bs [116, 119, 105, 99, 101], bs [], bs [], bs [], bs [], bs [], bs [], bs [], bs [110, 111, 32, 102, 114, 97, 109, 101, 119, 111, 114, 107], bs [110, 111, 32, 97, 103, 101, 110, 116], bs [110, 111, 32, 111, 102, 102, 101, 114], bs [110, 111, 32, 116, 97, 115, 107], bs [], bs [], bs [], bs [], bs [], bs [], bs [116, 111, 116, 97, 108, 115], bs [114, 111, 108, 101], bs [119, 101, 105, 103, 104, 116], bs [103, 111, 110, 101], bs [111, 119, 110, 101, 114], bs [115, 112, 97, 110], bs [108, 105, 118, 101], bs [102, 111, 114, 101, 105, 103, 110], bs [], bs [], bs [115, 104, 111, 114, 116], bs [109, 111, 115, 116], bs [99, 97, 112], bs [104, 111, 114, 105, 122, 111, 110], bs [105, 100, 115], bs [], bs [], bs [], bs [], bs [], bs [110, 105, 108], bs [97, 114, 103, 117, 109, 101, 110, 116], bs [116, 104, 101, 114, 101], bs [110, 111, 110, 101], bs [116, 101, 120, 116]]
def kindsL : List ByteArray := [bs [], bs [114, 101, 103, 105, 115, 116, 101, 114, 101, 100], bs [108, 101, 102, 116], bs [115, 117, 98, 115, 99, 114, 105, 98, 101, 100], bs [100, 105, 115, 99, 111, 110, 110, 101, 99, 116, 101, 100], bs [103, 111, 110, 101], bs [111, 102, 102, 101, 114, 101, 100], bs [97, 99, 99, 101, 112, 116, 101, 100], bs [100, 101, 99, 108, 105, 110, 101, 100], bs [114, 101, 115, 99, 105, 110, 100, 101, 100], bs [101, 120, 112, 105, 114, 101, 100], bs [108, 111, 115, 116], bs [100, 114, 111, 112, 112, 101, 100], bs [108, 97, 117, 110, 99, 104, 101, 100], bs [107, 105, 108, 108, 101, 100], bs [102, 105, 110, 105, 115, 104, 101, 100], bs [116, 97, 115, 107, 45, 108, 111, 115, 116], bs [116, 97, 115, 107, 45, 100, 114, 111, 112, 112, 101, 100], bs [114, 101, 115, 101, 114, 118, 101, 100], bs [117, 110, 114, 101, 115, 101, 114, 118, 101, 100]]
/-- What the tables hold. -/
structure TabQ (W : World) : Prop where
  errs : Elt W ⟨0, 0, none⟩ (errsL.map Value.string)
  kinds : Elt W ⟨1, 0, none⟩ (kindsL.map Value.string)
  slot : Tab W
  pow : Lib.TabIs Tryd.prog W "internal/strconv.uint64pow10" .u64 Lib.pow10Tab
theorem Elt.low {cs : List Value} {ad : Addr} (h : Elt W ad cs) (hb : Below W.heap.size W W') : Elt W' ad cs := fun j v hv => cell_below hb _ _ (h j v hv)
theorem pow_g : Tryd.prog.globalNamed "internal/strconv.uint64pow10" = some 2 := by kernel_rfl
theorem TabQ.low (h : TabQ W) (hb : Below W.heap.size W W') : TabQ W' :=
  ⟨Elt.low h.errs hb, Elt.low h.kinds hb, Tab.low h.slot hb, Joins.var_stays pow_g h.pow hb (Nat.le_refl _)⟩
theorem TabQ.call (h : TabQ W) (hb : Bel W W') : TabQ W' := h.low hb.below

/-! ### Numbers -/
def numB (n : Int) : ByteArray := bs (Lib.itoa n)
theorem bs_append (a b : List UInt8) : bs a ++ bs b = bs (a ++ b) := by
  unfold bs
  apply ba_ext
  simp
theorem c25 (n : Int) (hn : I64 n) (w : World) (hT : TabQ w) : Ret Tryd.prog 25 #[.int .i64 n] w (.string (numB n)) := by
  intro R h
  refine f25_calls n w R ?_
  unfold f25_vc
  refine (Tryd.strconv_FormatInt_10 n hn.1 hn.2 w hT.pow).mono fun e w' ⟨he, k, os, hw⟩ => ⟨_, he, ?_⟩
  subst hw
  refine h _ ⟨⟨rfl, rfl, rfl, ?_, fun b hb => ?_⟩, ?_⟩
  · show w.heap.size ≤ (w.heap ++ os).size
    simp
  · show (w.heap ++ os)[b]? = w.heap[b]?
    exact Array.getElem?_append_left hb
  · exact Nat.le_add_right _ _
/-! ### The document's numbers -/
theorem str_bs : ∀ (l : List Int), (∀ x ∈ l, 48 ≤ x ∧ x ≤ 57) → strOfNums l = bs (l.map fun x => UInt8.ofNat x.toNat) := fun l _ => by
  unfold strOfNums bs
  apply ba_ext
  simp
theorem dec_digits (u : Nat) : (decL (u : Int) 1).map (fun x => UInt8.ofNat x.toNat) = Lib.decDigits u := by
  rw [decL, Lib.decDigits]
  by_cases h : u < 10
  · rw [if_neg (by omega), dif_pos h]
    have : (48 + (u : Int) % 10).toNat = 48 + u := by omega
    simp [this]
  · rw [if_pos (.inl (by omega)), dif_neg h, List.map_append, decL_one _ _ (by omega), show ((u : Int) / 10) = ((u / 10 : Nat) : Int) by omega, dec_digits (u / 10)]
    have : (48 + (u : Int) % 10).toNat = 48 + u % 10 := by omega
    simp [this]
termination_by u
decreasing_by omega
theorem digits_bs {n : Int} (h : 0 ≤ n) : strOfNums (decL n 1) = bs (Lib.decDigits n.toNat) := by
  rw [str_bs _ (decL_byte n 1 h), ← dec_digits, Int.toNat_of_nonneg h]
theorem dig_split {u : Nat} (h : 10 ≤ u) : Lib.decDigits u = Lib.decDigits (u / 10) ++ Lib.decDigits (u % 10) := by
  conv => lhs; rw [Lib.decDigits, dif_neg (by omega)]
  rw [Lib.decDigits_one (show u % 10 < 10 by omega)]
theorem bs_size (l : List UInt8) : (bs l).size = l.length := by unfold bs; simp [ByteArray.size]
theorem dig_len {u : Nat} (h : u ≤ 9223372036854775807) : (Lib.decDigits u).length ≤ 21 := by
  rw [← Lib.itoa_nonneg]
  exact Lib.itoa_length_le _ (by omega) (by omega)
theorem num_len {n : Int} (hn : I64 n) : (numB n).size ≤ 21 := by
  unfold numB
  rw [bs_size]
  exact Lib.itoa_length_le _ hn.1 hn.2
theorem c35d (u : Nat) (w : World) (hn : u ≤ 9223372036854775807) : Ret Tryd.prog 35 #[.int .i64 (u : Int)] w (.string (bs (Lib.decDigits u))) := by
  have := c35 (u : Int) w ⟨by omega, by omega⟩
  rwa [digits_bs (by omega), Int.toNat_natCast] at this
theorem c36 (n : Int) (hn : I64 n) (hb : 0 ≤ n ∨ n ≤ -10) (w : World) : Ret Tryd.prog 36 #[.int .i64 n] w (.string (numB n)) := by
  intro R h
  refine f36_calls n w R ?_
  unfold f36_vc
  obtain ⟨h1, h2⟩ := hn
  refine brD (fun hp => ?_) fun hng => ?_
  · obtain ⟨m, rfl⟩ : ∃ m : Nat, n = (m : Int) := ⟨n.toNat, by omega⟩
    refine at_callb (At.refl w) (c35d m w (by omega)) fun w2 hA _ _ => ⟨_, rfl, leaf h hA ?_⟩
    unfold numB
    rw [Lib.itoa_nonneg]
  · obtain ⟨m, rfl⟩ : ∃ m : Nat, n = -(m : Int) := ⟨n.natAbs, by omega⟩
    have e1 : IntKind.i64.wrap (0 - IntKind.i64.wrap ((-(m : Int)).tdiv 10)) = ((m / 10 : Nat) : Int) := by
      have : (-(m : Int)).tdiv 10 = -((m / 10 : Nat) : Int) := by
        rw [Int.neg_tdiv, Int.tdiv_eq_ediv_of_nonneg (by omega)]
        omega
      rw [this, wrap_i64 (x := -((m / 10 : Nat) : Int)) (by omega) (by omega), wrap_i64 (by omega) (by omega)]
      omega
    have e2 : IntKind.i64.wrap (0 - (-(m : Int)).tmod 10) = ((m % 10 : Nat) : Int) := by
      have : (-(m : Int)).tmod 10 = -((m % 10 : Nat) : Int) := by
        rw [Int.neg_tmod, Int.tmod_eq_emod_of_nonneg (by omega)]
        omega
      rw [this, wrap_i64 (by omega) (by omega)]
      omega
    rw [e1, e2]
    have l1 := dig_len (u := m / 10) (by omega)
    have l2 := dig_len (u := m % 10) (by omega)
    have this : ByteArray.mk #[45] = bs [45] := rfl
    rw [this]
    refine at_callb (At.refl w) (c35d _ w (by omega)) fun w2 hA _ _ => ⟨_, rfl, _, gives_sadd ?_, at_callb hA (c35d _ w2 (by omega)) fun w4 hA _ _ => ⟨_, rfl, _, gives_sadd ?_, leaf h hA ?_⟩⟩
    · rw [bs_size, bs_size]
      simp only [List.length_singleton]
      omega
    · rw [bs_append, bs_size, bs_size, List.length_append]
      simp only [List.length_singleton]
      omega
    · rw [bs_append, bs_append]
      unfold numB
      rw [Lib.itoa_neg _ (by omega), dig_split (u := m) (by omega)]
      simp
theorem c20 (n : Int) (hn : I64 n) (w : World) : Ret Tryd.prog 20 #[.int .i64 n] w (.string (numB n)) := by
  intro R h
  refine f20_calls n w R ?_
  unfold f20_vc
  refine brD (fun hneg => brD (fun hs => ?_) fun hb => ?_) fun hp => ?_
  · obtain ⟨m, rfl⟩ : ∃ m : Nat, n = -(m : Int) := ⟨n.natAbs, by omega⟩
    have e1 : IntKind.i64.wrap (0 - -(m : Int)) = (m : Int) := by
      rw [wrap_i64 (by omega) (by omega)]
      omega
    rw [e1]
    have l1 := dig_len (u := m) (by omega)
    have this : ByteArray.mk #[45] = bs [45] := rfl
    rw [this]
    refine at_callb (At.refl w) (c35d _ w (by omega)) fun w2 hA _ _ => ⟨_, rfl, _, gives_sadd ?_, leaf h hA ?_⟩
    · rw [bs_size, bs_size]
      simp only [List.length_singleton]
      omega
    · rw [bs_append]
      unfold numB
      rw [Lib.itoa_neg _ (by omega)]
      simp
  · exact at_callb (At.refl w) (c36 n hn (.inr (by omega)) w) fun w2 hA _ _ => ⟨_, rfl, leaf h hA rfl⟩
  · exact at_callb (At.refl w) (c36 n hn (.inl (by omega)) w) fun w2 hA _ _ => ⟨_, rfl, leaf h hA rfl⟩
end Go.Vc.Q

/- Tell: vectors, words, errors, kinds. -/
set_option maxRecDepth 20000
set_option maxHeartbeats 1000000
set_option linter.unusedVariables false
namespace Go.Vc.Q
open Go Go.Vc Go.Vc.V Go.RowKit Go.Proofs Vcq

variable {w W W' W1 : World} {M N : Nat → Prop} {gs ds : List Nat} {n : Int} {l : List PartT} {a : Option Addr} {ln lc : Nat} {L : List ByteArray} {wh : List UInt8}

noncomputable def vecT (l : List PartT) : ByteArray := if vecB l = true then vtext l else bs [63]
theorem c27 (hT : TabQ w) (hs : SlE w 3 partE l a ln lc) : RetW Tryd.prog 27 #[.slice a ln lc] w (.string (vecT l)) := by
  intro R h
  refine f27_calls _ _ _ w R ?_
  unfold f27_vc
  refine at_callb (at_zro w noB) (c41 w hs) fun w2 hA _ hb2 => ⟨_, rfl, brNB (fun hv => leafW h hA ?_) fun hv => ?_⟩
  · unfold vecT
    rw [if_neg (by rw [hv]; decide)]
    rfl
  · refine at_callW hA (c42 w2 (hT.call hb2).slot (hs.call hb2)) fun w5 hA _ _ => ⟨_, rfl, leafW h hA ?_⟩
    unfold vecT
    rw [if_pos hv]
theorem c30 (w : World) (hs : SlE w 3 partE l a ln lc) : Ret Tryd.prog 30 #[.slice a ln lc] w (.string (vecT l)) := by
  intro R h
  refine f30_calls _ _ _ w R ?_
  unfold f30_vc
  refine at_callb (At.refl w) (c16 w hs) fun w2 hA _ hb2 => ⟨_, rfl, brNB (fun hv => leaf h hA ?_) fun hv => ?_⟩
  · unfold vecT
    rw [if_neg (by rw [hv]; decide)]
    rfl
  · refine at_callb hA (c43 w2 (hs.call hb2)) fun w5 hA _ _ => ⟨_, rfl, leaf h hA ?_⟩
    unfold vecT
    rw [if_pos hv]
theorem brS {t s : ByteArray} {A B : Prop} (h : t = s → A) (k : t ≠ s → B) : ((t.toList == s.toList) = true → A) ∧ ((t.toList == s.toList) = false → B) := by
  rw [toList_beq]
  exact brD h k
theorem brNS {t s : ByteArray} {A B : Prop} (h : t ≠ s → A) (k : t = s → B) : ((!t.toList == s.toList) = true → A) ∧ ((!t.toList == s.toList) = false → B) := by
  rw [toList_beq]
  exact brND h k
/-- The word at a place of a table, or what it is, and its number. -/
def wordT (L : List ByteArray) (n : Int) (wh : List UInt8) : ByteArray := if 0 ≤ n ∧ n < L.length ∧ (L[n.toNat]?).getD (bs []) ≠ bs [] then (L[n.toNat]?).getD (bs []) else bs (wh ++ [32] ++ Lib.itoa n)
theorem c19 (hT : TabQ w) (hn : I64 n) (hs : SlE w 1 strE L a ln lc) (hL : L.length ≤ 1000) (hw : wh.length ≤ 1000) : Ret Tryd.prog 19 #[.slice a ln lc, .int .i64 n, .string (bs wh)] w (.string (wordT L n wh)) := by
  intro R h
  refine f19_calls _ _ _ _ _ w R ?_
  unfold f19_vc
  have hln := hs.1
  have e32 : ByteArray.mk #[32] = bs [32] := rfl
  have e0 : ByteArray.mk #[] = bs [] := rfl
  rw [e32, e0]
  have nl := num_len hn
  have num : (¬ (0 ≤ n ∧ n < L.length ∧ (L[n.toNat]?).getD (bs []) ≠ bs [])) → ∀ {W : World}, At w [] W → ∃ s1, Gives Tryd.prog (binOpS .add 9 (.tmp 22) (.const (.string (bs [32]))) (.string (bs wh)) (.string (bs [32]))) (.string s1) ∧ Calls Tryd.prog 25 #[.int .i64 n] W fun e2 w3 => ∃ s4, e2 = .returned (.string s4) ∧ ∃ s5, Gives Tryd.prog (binOpS .add 9 (.tmp 23) (.tmp 25) (.string s1) (.string s4)) (.string s5) ∧ R (.returned (.string s5)) w3 := by
    intro hno W hA
    refine ⟨_, gives_sadd ?_, at_callb hA (c25 n hn W (hT.call hA.below)) fun w3 hA _ _ => ⟨_, rfl, _, gives_sadd ?_, leaf h hA ?_⟩⟩
    · rw [bs_size, bs_size]
      simp only [List.length_singleton]
      omega
    · rw [bs_append, bs_size, List.length_append]
      simp only [List.length_singleton]
      omega
    · unfold wordT
      rw [if_neg hno]
      unfold numB
      rw [bs_append, bs_append]
  refine brD (fun h1 => num (fun hh => by omega) (At.refl w)) fun h1 => brD (fun h2 => num (fun hh => by omega) (At.refl w)) fun h2 => ?_
  obtain ⟨m, rfl⟩ : ∃ m : Nat, n = (m : Int) := ⟨n.toNat, by omega⟩
  have hm : m < L.length := by omega
  have hg := List.getElem?_eq_getElem hm
  obtain ⟨ad, g1, el, _⟩ := elt_at (P := Tryd.prog) (k := .i64) (t := 52) hs hg (e := 9) (by kernel_rfl) (by kernel_rfl)
  refine ⟨ad, g1, _, el.one (by kernel_rfl) no_ds, brS (fun he => num (fun hh => ?_) (At.refl w)) fun hne => ⟨ad, g1, _, el.one (by kernel_rfl) no_ds, leaf h (At.refl w) ?_⟩⟩
  · refine hh.2.2 ?_
    rw [Int.toNat_natCast, hg]
    exact he
  · unfold wordT
    rw [if_pos ⟨by omega, by omega, by rw [Int.toNat_natCast, hg]; exact hne⟩, Int.toNat_natCast, hg]
    rfl
theorem elt_sl {m : Nat} (hm : L.length = m) {b : Nat} (hb : m ≤ 1000) (h : Elt w ⟨b, 0, none⟩ (L.map Value.string)) : SlE w 1 strE L (some ⟨b, 0, none⟩) m m := by
  refine ⟨hm.symm, Nat.le_refl _, by unfold maxLen; omega, (fun e => by cases e), fun i x hx => ⟨_, strE x, rfl, rfl, fun j v hv => ?_, rfl⟩⟩
  have hj : j = 0 := by
    have := (List.getElem?_eq_some_iff.1 hv).1
    simp at this
    exact this
  subst hj
  simp at hv
  subst hv
  rw [add_add, Nat.mul_one, Nat.add_zero]
  exact h i _ (by rw [List.getElem?_map, hx]; rfl)
def errT (n : Int) : ByteArray := wordT errsL n [101, 114, 114, 111, 114]
def kindT (n : Int) : ByteArray := wordT kindsL n [101, 118, 101, 110, 116]
theorem c8 (hT : TabQ w) (hn : I64 n) : Ret Tryd.prog 8 #[.int .i64 n] w (.string (errT n)) := by
  intro R h
  refine f8_calls n w R ?_
  unfold f8_vc
  refine ⟨some ⟨0, 0, none⟩, 45, 45, fun W => rfl, at_callb (At.refl w) (c19 hT hn (elt_sl (m := 45) rfl (by omega) hT.errs) (by decide) (by decide)) fun w5 hA _ _ => ⟨_, rfl, leaf h hA rfl⟩⟩
theorem c10 (hT : TabQ w) (hn : I64 n) : Ret Tryd.prog 10 #[.int .i64 n] w (.string (kindT n)) := by
  intro R h
  refine f10_calls n w R ?_
  unfold f10_vc
  refine ⟨some ⟨1, 0, none⟩, 20, 20, fun W => rfl, at_callb (At.refl w) (c19 hT hn (elt_sl (m := 20) rfl (by omega) hT.kinds) (by decide) (by decide)) fun w5 hA _ _ => ⟨_, rfl, leaf h hA rfl⟩⟩
/-! ### The document's -/
theorem wordT_in {i : Nat} (hi : i < L.length) (h : L[i] ≠ bs []) : wordT L (i : Int) wh = L[i] := by
  unfold wordT
  rw [if_pos ⟨by omega, by omega, by rw [Int.toNat_natCast, List.getElem?_eq_getElem hi]; exact h⟩, Int.toNat_natCast, List.getElem?_eq_getElem hi]
  rfl
theorem wordT_out (h : ¬ (0 ≤ n ∧ n < L.length ∧ (L[n.toNat]?).getD (bs []) ≠ bs [])) : wordT L n wh = bs (wh ++ [32] ++ Lib.itoa n) := by unfold wordT; rw [if_neg h]
theorem c9 (hn : I64 n) (w : World) : Ret Tryd.prog 9 #[.int .i64 n] w (.string (errT n)) := by
  intro R h
  refine f9_calls n w R ?_
  unfold f9_vc
  refine opw_litL (e' := 9) (size := 1) (f := strE) (l := errsL) (At.refl w) rfl (fun _ _ => rfl) (by decide) (by kernel_rfl) fun g w2 hg hA _ hb2 ho => ⟨_, _, _, rfl, ?_⟩
  have hs := ho.sl fun _ _ => rfl
  have nl := num_len hn
  have ew : ByteArray.mk #[101, 114, 114, 111, 114, 32] = bs [101, 114, 114, 111, 114, 32] := rfl
  have e0 : ByteArray.mk #[] = bs [] := rfl
  rw [ew, e0]
  have num : (¬ (0 ≤ n ∧ n < errsL.length ∧ (errsL[n.toNat]?).getD (bs []) ≠ bs [])) → ∀ {W : World}, At w [] W → Calls Tryd.prog 20 #[.int .i64 n] W fun e2 w3 => ∃ s4, e2 = .returned (.string s4) ∧ ∃ s5, Gives Tryd.prog (binOpS .add 9 (.const (.string (bs [101, 114, 114, 111, 114, 32]))) (.tmp 30) (.string (bs [101, 114, 114, 111, 114, 32])) (.string s4)) (.string s5) ∧ R (.returned (.string s5)) w3 := by
    intro hno W hA
    refine at_callb hA (c20 n hn W) fun w3 hA _ _ => ⟨_, rfl, _, gives_sadd ?_, leaf h hA ?_⟩
    · rw [bs_size]
      simp only [List.length_cons, List.length_nil]
      omega
    · unfold errT
      rw [wordT_out hno]
      unfold numB
      rw [bs_append]
      rfl
  have h45 : errsL.length = 45 := rfl
  refine brD (fun h1 => brD (fun h2 => ?_) fun h2 => num (fun hh => by omega) hA) fun h1 => num (fun hh => by omega) hA
  obtain ⟨m, rfl⟩ : ∃ m : Nat, n = (m : Int) := ⟨n.toNat, by omega⟩
  have hm : m < errsL.length := by omega
  have hgm := List.getElem?_eq_getElem hm
  have ei : (if (if IntKind.i64.wrap ((45 : Nat) - 1 : Int) < (m : Int) then IntKind.i64.wrap ((45 : Nat) - 1 : Int) else (m : Int)) > 0 then (if IntKind.i64.wrap ((45 : Nat) - 1 : Int) < (m : Int) then IntKind.i64.wrap ((45 : Nat) - 1 : Int) else (m : Int)) else 0) = (m : Int) := by
    rw [wrap_i64 (by omega) (by omega)]
    have h44 : ¬ ((45 : Nat) - 1 : Int) < (m : Int) := by omega
    rw [if_neg h44]
    split <;> omega
  obtain ⟨ad, g1, el, _⟩ := elt_at (P := Tryd.prog) (k := .i64) (t := 52) hs hgm (e := 9) (by kernel_rfl) (by kernel_rfl)
  rw [ei]
  refine ⟨ad, g1, _, el.one (by kernel_rfl) no_ds, brNS (fun hne => ⟨ad, g1, _, el.one (by kernel_rfl) no_ds, leaf h hA ?_⟩) fun he => num (fun hh => ?_) hA⟩
  · unfold errT
    rw [wordT_in hm hne]
  · refine hh.2.2 ?_
    rw [Int.toNat_natCast, hgm]
    exact he
theorem kinds_ne : ∀ i : Fin 20, 1 ≤ i.val → kindsL[i.val]'(by have := i.2; show i.val < 20; omega) ≠ bs [] := by decide
theorem c11 (hn : I64 n) (w : World) : Ret Tryd.prog 11 #[.int .i64 n] w (.string (kindT n)) := by
  intro R h
  refine f11_calls n w R ?_
  unfold f11_vc
  refine opw_litL (e' := 9) (size := 1) (f := strE) (l := kindsL) (At.refl w) rfl (fun _ _ => rfl) (by decide) (by kernel_rfl) fun g w2 hg hA _ hb2 ho => ⟨_, _, _, rfl, ?_⟩
  have hs := ho.sl fun _ _ => rfl
  have nl := num_len hn
  have ew : ByteArray.mk #[101, 118, 101, 110, 116, 32] = bs [101, 118, 101, 110, 116, 32] := rfl
  rw [ew]
  have h20 : kindsL.length = 20 := rfl
  have num : (¬ (1 ≤ n ∧ n ≤ 19)) → ∀ {W : World}, At w [] W → Calls Tryd.prog 20 #[.int .i64 n] W fun e2 w3 => ∃ s4, e2 = .returned (.string s4) ∧ ∃ s5, Gives Tryd.prog (binOpS .add 9 (.const (.string (bs [101, 118, 101, 110, 116, 32]))) (.tmp 16) (.string (bs [101, 118, 101, 110, 116, 32])) (.string s4)) (.string s5) ∧ R (.returned (.string s5)) w3 := by
    intro hno W hA
    refine at_callb hA (c20 n hn W) fun w3 hA _ _ => ⟨_, rfl, _, gives_sadd ?_, leaf h hA ?_⟩
    · rw [bs_size]
      simp only [List.length_cons, List.length_nil]
      omega
    · unfold kindT
      rw [wordT_out fun hh => ?_]
      · unfold numB
        rw [bs_append]
        rfl
      · have : n = 0 := by omega
        subst this
        exact hh.2.2 rfl
  refine brD (fun h1 => brD (fun h2 => ?_) fun h2 => num (fun hh => by omega) hA) fun h1 => num (fun hh => by omega) hA
  obtain ⟨m, rfl⟩ : ∃ m : Nat, n = (m : Int) := ⟨n.toNat, by omega⟩
  have hm : m < kindsL.length := by omega
  have hgm := List.getElem?_eq_getElem hm
  obtain ⟨ad, g1, el, _⟩ := elt_at (P := Tryd.prog) (k := .i64) (t := 52) hs hgm (e := 9) (by kernel_rfl) (by kernel_rfl)
  refine ⟨ad, g1, _, el.one (by kernel_rfl) no_ds, leaf h hA ?_⟩
  unfold kindT
  rw [wordT_in hm (kinds_ne ⟨m, by omega⟩ (by show 1 ≤ m; omega))]
end Go.Vc.Q

