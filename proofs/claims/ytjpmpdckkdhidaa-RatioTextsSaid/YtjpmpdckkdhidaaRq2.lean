/- Own text of this claim: Rq2. -/
import Derived.Test.YtjpmpdckkdhidaaRq1
set_option maxRecDepth 20000
namespace Go.Vc.Q
open Go Go.Vc Go.RowKit Go.Proofs Vca

/-- A number's digits, at least so many. -/
def decL (n least : Int) : List Int := if 10 ≤ n ∨ (1 < least ∧ 0 ≤ n) then decL (n / 10) (least - 1) ++ [48 + n % 10] else [48 + n % 10]
termination_by n.toNat + least.toNat
decreasing_by
  rename_i h
  rcases h with h | h <;> omega

theorem decL_len (n least : Int) : (decL n least).length ≤ n.toNat + least.toNat + 1 := by
  rw [decL]
  split
  · rename_i h
    have := decL_len (n / 10) (least - 1)
    rw [List.length_append, List.length_singleton]
    rcases h with h | h <;> omega
  · simp
termination_by n.toNat + least.toNat
decreasing_by
  rename_i h
  rcases h with h | h <;> omega

theorem decL_byte (n least : Int) (hn : 0 ≤ n) : ∀ x ∈ decL n least, 48 ≤ x ∧ x ≤ 57 := by
  rw [decL]
  split
  · rename_i h
    intro x hx
    rcases List.mem_append.1 hx with hx | hx
    · exact decL_byte (n / 10) (least - 1) (by omega) x hx
    · simp at hx
      omega
  · intro x hx
    simp at hx
    omega
termination_by n.toNat + least.toNat
decreasing_by
  all_goals omega

theorem decL_one (n least : Int) (h : least ≤ 1) : decL n least = decL n 1 := by
  rw [decL, decL.eq_def n 1]
  by_cases hn : 10 ≤ n
  · rw [if_pos (.inl hn), if_pos (.inl hn), decL_one (n / 10) (least - 1) (by omega), decL_one (n / 10) (1 - 1) (by omega)]
  · rw [if_neg (by omega), if_neg (by omega)]
termination_by n.toNat
decreasing_by
  all_goals omega

theorem u8_digit {x : Int} (h : 0 ≤ x) : IntKind.u8.wrap (IntKind.i64.wrap (48 + x.tmod 10)) = 48 + x % 10 := by
  rw [Int.tmod_eq_emod_of_nonneg h, wrap_i64 (by omega) (by omega), wrap_u8]
  omega

theorem c40 {w0 : World} {gs : List Nat} (n least : Int) (h0 : 0 ≤ n) (h1 : n ≤ 9223372036854775807) (h2 : least ≤ 1000) (h3 : -4611686018427387904 ≤ least - n) {W : World} {a : Option Addr} {m c : Nat} {l : List Int} (hA : At w0 gs W) (ho : OwnL w0 gs W 5 1 u8e (.slice a m c) l) (hb : l.length + n.toNat + least.toNat + 1 ≤ 70368744177664)
    (R : Ending → World → Prop) (h : ∀ a' c' w', At w0 gs w' → Keeps gs W w' → OwnL w0 gs w' 5 1 u8e (.slice a' (l ++ decL n least).length c') (l ++ decL n least) → R (.returned (.slice a' (l ++ decL n least).length c')) w') :
    Calls Try.prog 40 #[.slice a m c, .int .i64 n, .int .i64 least] W R := by
  refine f40_calls a m c n least W R ?_
  unfold f40_vc
  rw [u8_digit h0]
  have fin : ∀ {W : World} {a : Option Addr} {m c : Nat} {l' : List Int}, At w0 gs W → OwnL w0 gs W 5 1 u8e (.slice a m c) l' → l'.length + 1 ≤ 70368744177664 → ∀ {K : Value → World → Prop}, (∀ a' c' w', At w0 gs w' → Keeps gs W w' → OwnL w0 gs w' 5 1 u8e (.slice a' (l' ++ [48 + n % 10]).length c') (l' ++ [48 + n % 10]) → K (.slice a' (l' ++ [48 + n % 10]).length c') w') → OpW Try.prog (valueS (Instr.buildSlice 61 1 #[(0, .int .u8 (48 + n % 10))])) W fun v w' => ∃ a1 n1 c1, v = .slice a1 n1 c1 ∧ OpW Try.prog (builtin .append #[61, 61] 61 #[false, false] #[.slice a m c, .slice a1 n1 c1]) w' K := by
    intro W a m c l' hA ho hlen K hK
    refine opw_lit hA (e' := 5) (cs := u8e (48 + n % 10)) (by kernel_rfl) fun w' hA hk hb hc _ => ⟨_, _, _, rfl, ?_⟩
    refine opw_append1 (bytes := 1) (by kernel_rfl) hA (ho.call hb) (x := 48 + n % 10) rfl hc (by simp [Value.oneCell']) hlen (.inl rfl) fun v' w'' hA hk2 hg ho' _ => ?_
    obtain ⟨a', c', rfl, _⟩ := ho'.slice (by simp)
    exact hK a' c' w'' hA (fun g hg => (hk2 g hg).trans (hk g hg)) ho'
  have hlen := decL_len (n / 10) (least - 1)
  have rec' : (10 ≤ n ∨ (1 < least ∧ 0 ≤ n)) → ∀ (R : Ending → World → Prop), (∀ a' c' w', At w0 gs w' → Keeps gs W w' → OwnL w0 gs w' 5 1 u8e (.slice a' (l ++ decL (n / 10) (least - 1)).length c') (l ++ decL (n / 10) (least - 1)) → R (.returned (.slice a' (l ++ decL (n / 10) (least - 1)).length c')) w') →
      Calls Try.prog 40 #[.slice a m c, .int .i64 (IntKind.i64.wrap (n.tdiv 10)), .int .i64 (IntKind.i64.wrap (least - 1))] W R := by
    intro hc R h
    rw [Int.tdiv_eq_ediv_of_nonneg h0, wrap_i64 (by omega) (by omega), wrap_i64 (by omega) (by omega)]
    exact c40 (n / 10) (least - 1) (by omega) (by omega) (by omega) (by omega) hA ho (by rcases hc with hc | hc <;> omega) R h
  have hstep : (10 ≤ n ∨ (1 < least ∧ 0 ≤ n)) → decL n least = decL (n / 10) (least - 1) ++ [48 + n % 10] := fun hc => by rw [decL, if_pos hc]
  have go : (10 ≤ n ∨ (1 < least ∧ 0 ≤ n)) → Calls Try.prog 40 #[.slice a m c, .int .i64 (IntKind.i64.wrap (n.tdiv 10)), .int .i64 (IntKind.i64.wrap (least - 1))] W fun e w' => ∃ a3 n4 n5, e = .returned (.slice a3 n4 n5) ∧ OpW Try.prog (valueS (Instr.buildSlice 61 1 #[(0, .int .u8 (48 + n % 10))])) w' fun v w' => ∃ a1 n1 c1, v = .slice a1 n1 c1 ∧ OpW Try.prog (builtin .append #[61, 61] 61 #[false, false] #[.slice a3 n4 n5, .slice a1 n1 c1]) w' fun v w' => ∃ a1 n1 c1, v = .slice a1 n1 c1 ∧ R (.returned (.slice a1 n1 c1)) w' := by
    intro hc
    refine rec' hc _ fun a' c' w' hA hk ho => ⟨_, _, _, rfl, ?_⟩
    refine fin hA ho (by rw [List.length_append]; rcases hc with hc | hc <;> omega) fun a' c' w'' hA hk2 ho => ⟨_, _, _, rfl, ?_⟩
    have e : l ++ decL (n / 10) (least - 1) ++ [48 + n % 10] = l ++ decL n least := by rw [hstep hc, List.append_assoc]
    rw [e] at ho ⊢
    exact h a' c' w'' hA (fun g hg => (hk2 g hg).trans (hk g hg)) ho
  refine brD (fun h10 => go (.inl h10)) (fun h10 => brD (fun hl => go (.inr ⟨hl, h0⟩)) (fun hl => ?_))
  refine fin hA ho (by omega) fun a' c' w' hA hk ho => ⟨_, _, _, rfl, ?_⟩
  have e : [48 + n % 10] = decL n least := by rw [decL, if_neg (by omega)]
  rw [e] at ho ⊢
  exact h a' c' w' hA hk ho
termination_by n.toNat + least.toNat
decreasing_by
  rcases hc with hc | hc <;> omega

/-! ### Text -/
def strip (l : List Int) : List Int := (l.reverse.dropWhile (· == 48)).reverse
def txtL (n : Int) : List Int := if 0 ≤ n ∧ n ≤ 9007199254740992 then (if n % 1000 = 0 then decL (n / 1000) 1 else strip (decL (n / 1000) 1 ++ [46] ++ decL (n % 1000) 3)) else []

theorem strip_snoc (l : List Int) : strip (l ++ [48]) = strip l := by simp [strip]
theorem strip_keep (l : List Int) {x : Int} (h : x ≠ 48) : strip (l ++ [x]) = l ++ [x] := by
  simp [strip, h]

theorem c27 (n : Int) (w : World) (hn : I64 n) : Ret Try.prog 27 #[.int .i64 n] w (.string (strOfNums (txtL n))) := by
  intro R h
  refine f27_calls n w R ?_
  unfold f27_vc
  have hA := At.refl w
  refine at_call hA (c28 _ _) (fun _ hA hk => ⟨_, rfl, ?_⟩)
  refine brND (fun hr => leaf h hA (by rw [txtL, if_neg hr]; rfl)) (fun hr => ?_)
  rw [txtL, if_pos hr] at h
  rw [Int.tdiv_eq_ediv_of_nonneg hr.1, Int.tmod_eq_emod_of_nonneg hr.1, wrap_i64 (by omega) (by omega)]
  refine c40 (n / 1000) 1 (by omega) (by omega) (by omega) (by omega) hA OwnL.nil (by simp; omega) _ fun a' c' w' hA hk ho => ⟨_, _, _, rfl, ?_⟩
  rw [List.nil_append] at ho ⊢
  have hd := decL_len (n / 1000) 1
  refine brE (fun h0 => ?_) (fun h0 => ?_)
  · rw [if_pos h0] at h
    refine opw_b2s (e := 5) (by kernel_rfl) (by kernel_rfl) (by kernel_rfl) (ho.sl (by simp)) ⟨_, rfl, ?_⟩
    exact leaf h hA rfl
  · rw [if_neg h0] at h
    refine opw_lit hA (e' := 5) (cs := u8e 46) (by kernel_rfl) fun w' hA hk hb hc _ => ⟨_, _, _, rfl, ?_⟩
    refine opw_append1 (bytes := 1) (by kernel_rfl) hA (ho.call hb) (x := 46) rfl hc (by simp [Value.oneCell']) (by omega) (.inl rfl) fun v' w'' hA hk2 hg ho' _ => ?_
    obtain ⟨a1, c1, rfl, _⟩ := ho'.slice (by simp)
    refine ⟨_, _, _, rfl, ?_⟩
    refine c40 (n % 1000) 3 (by omega) (by omega) (by omega) (by omega) hA ho' (by simp; omega) _ fun a' c' w' hA hk ho => ⟨_, _, _, rfl, ?_⟩
    generalize hL : decL (n / 1000) 1 ++ [46] ++ decL (n % 1000) 3 = L at ho h ⊢
    have hne : ∃ x ∈ L, x ≠ 48 := ⟨46, by rw [← hL]; simp, by decide⟩
    have hlen : L.length ≤ 70368744177664 := by
      have := decL_len (n % 1000) 3
      rw [← hL]
      simp
      omega
    have hby : ∀ x ∈ L, 0 ≤ x ∧ x ≤ 57 := by
      rw [← hL]
      intro x hx
      simp at hx
      rcases hx with hx | rfl | hx
      · have := decL_byte _ _ (by omega) x hx; omega
      · omega
      · have := decL_byte _ _ (by omega) x hx; omega
    refine ⟨fun s W => At w [] W ∧ ∃ l : List Int, OwnL w [] W 5 1 u8e (.slice s.1.1 s.1.2.1 s.1.2.2) l ∧ l <+: L ∧ (∃ x ∈ l, x ≠ 48) ∧ strip l = strip L, fun s _ => s.1.2.1, ⟨hA, L, ho, List.prefix_rfl, hne, rfl⟩, ?_⟩
    intro a2 m2 c2 W ⟨hA, l, ho, hpre, hnz, hst⟩
    have hm := ho.len
    simp only at hm ho
    subst hm
    have hll := hpre.length_le
    have hpos : 0 < l.length := by
      obtain ⟨x, hx, _⟩ := hnz
      exact List.length_pos_of_mem hx
    have hidx : IntKind.i64.wrap ((l.length : Int) - 1) = ((l.length - 1 : Nat) : Int) := by
      rw [wrap_i64 (by omega) (by omega)]
      omega
    rw [hidx]
    obtain ⟨l', x, rfl⟩ : ∃ l' x, l = l' ++ [x] := ⟨l.dropLast, l.getLast (List.length_pos_iff.1 hpos), (List.dropLast_concat_getLast _).symm⟩
    have hx : (l' ++ [x])[(l' ++ [x]).length - 1]? = some x := by simp
    obtain ⟨ad, g1, r1⟩ := rd_one (te := 5) (ds := []) (k := .i64) (t := 61) (P := Try.prog) (e := 5) (ho.sl (by simp)) hx rfl (by kernel_rfl) (by kernel_rfl) (by kernel_rfl) (fun _ h => by cases h)
    refine ⟨_, g1, _, r1, brE (fun h48 => ?_) (fun h48 => ?_)⟩
    · subst h48
      obtain ⟨g, cur, _, _, _, hcap, _⟩ := ho.ptr hpos
      refine ⟨_, _, _, gives_front (e := 5) (size := 1) (by kernel_rfl) (by kernel_rfl) (by omega), ⟨hA, l', ?_, ?_, ?_, ?_⟩, ?_⟩
      · have hf := ho.front (by simp) (m := (l' ++ [(48 : Int)]).length - 1) (by omega)
        have e : (l' ++ [(48 : Int)]).take ((l' ++ [(48 : Int)]).length - 1) = l' := by simp
        rw [e] at hf
        exact hf
      · exact (List.prefix_append l' [48]).trans hpre
      · obtain ⟨y, hy, hy48⟩ := hnz
        rcases List.mem_append.1 hy with hy | hy
        · exact ⟨y, hy, hy48⟩
        · simp at hy
          exact absurd hy hy48
      · rw [← hst, strip_snoc]
      · simp only
        omega
    · refine opw_b2s (e := 5) (by kernel_rfl) (by kernel_rfl) (by kernel_rfl) (ho.sl (by simp)) ⟨_, rfl, ?_⟩
      exact leaf h hA (by rw [← hst, strip_keep _ h48])
end Go.Vc.Q
