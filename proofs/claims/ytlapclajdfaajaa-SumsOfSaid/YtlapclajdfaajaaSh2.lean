/- Own text of this claim: Sh2. -/
import Derived.Test.YtlapclajdfaajaaSh1
set_option maxRecDepth 20000
namespace Go.Vc.B
open Go Go.Vc Go.RowKit Go.Proofs Vcb Go.Vc.BQ Go.Vc.BT

theorem c42 (n : Int) (h0 : 0 ≤ n) (h1 : n ≤ 9223372036854775807) (w : World) : Ret Try.prog 42 #[.int .i64 n] w (.string (strOfNums (decL n 1))) := by
  intro R h
  refine f42_calls n w R ?_
  unfold f42_vc
  have hA := At.refl w
  refine brD (fun hlt => ?_) (fun hge => ?_)
  · have e : IntKind.u8.wrap (IntKind.i64.wrap (48 + n)) = 48 + n := by
      rw [wrap_i64 (by omega) (by omega), wrap_u8]
      omega
    rw [e]
    refine opw_lit hA (e' := 5) (cs := u8e (48 + n)) (by kernel_rfl) fun w' hA hk hbw hc hh => ⟨_, _, _, rfl, ?_⟩
    have ho : OwnL w [] w' 5 1 u8e (.slice (some ⟨w.heap.size, 0, none⟩) 1 1) [48 + n] :=
      ⟨⟨rfl, .inr ⟨_, 1, _, rfl, Nat.le_refl _, hh, Nat.le_refl _, by decide, rfl, rfl⟩⟩, fun _ h => by cases h⟩
    refine opw_b2s (e := 5) (by kernel_rfl) (by kernel_rfl) (by kernel_rfl) (ho.sl (by simp)) ⟨_, rfl, ?_⟩
    exact leaf h hA (by rw [digit1 ⟨h0, by omega⟩])
  · rw [Int.tdiv_eq_ediv_of_nonneg h0, Int.tmod_eq_emod_of_nonneg h0, wrap_i64 (x := n / 10) (by omega) (by omega)]
    refine at_call hA (c42 (n / 10) (by omega) (by omega) _) (fun _ hA hk => ⟨_, rfl, ?_⟩)
    refine at_call hA (c42 (n % 10) (by omega) (by omega) _) (fun _ hA hk => ⟨_, rfl, ?_⟩)
    have d1 := dec_small (n := n / 10) (by omega)
    have d2 := dec_small (n := n % 10) (by omega)
    refine ⟨_, gives_sadd (by omega), ?_⟩
    refine leaf h hA ?_
    rw [strOfNums_append, digit1 (d := n % 10) (by omega), decL.eq_def n 1, if_pos (.inl (by omega)), decL_one _ (1 - 1) (by omega)]
termination_by n.toNat
decreasing_by
  all_goals omega

noncomputable def sText (a b c : Int) : ByteArray := if sRight a b c then ftext a b ++ ByteArray.mk #[58] ++ strOfNums (decL c 1) else ByteArray.mk #[]

theorem ftext_size {a b : Int} (ha : a ≤ 9223372036854775807) (hb : b ≤ 9223372036854775807) : (ftext a b).size ≤ 39 := by
  unfold ftext
  split
  · rename_i hr
    have h1 := hr.1; have h2 := hr.2
    have d1 := dec_small (n := a) (by omega)
    have d2 := dec_small (n := b) (by omega)
    have e1 : (ByteArray.mk #[47]).size = 1 := rfl
    rw [ByteArray.size_append, ByteArray.size_append]
    omega
  · show 0 ≤ 39
    omega

theorem c17 (a b c : Int) (ha : BQ.I64 a) (hb : BQ.I64 b) (w : World) : Ret Try.prog 17 #[shV a b c] w (.string (sText a b c)) := by
  intro R h
  refine f17_calls a b c w R ?_
  unfold f17_vc
  have hA := At.refl w
  refine go_n hA fun n1 h1 => ?_
  refine go_below hA fun w2 hA => ?_
  refine at_call hA (c13 _ _ _ _) (fun _ hA hk => ⟨_, rfl, hk, ?_⟩)
  refine brND (fun hr => leaf h hA (by rw [sText, if_neg hr])) (fun hr => ?_)
  have hr' := hr
  obtain ⟨⟨p0, p1⟩, p2, p3, p4, p5⟩ := hr'
  refine go_below hA fun w6 hA => ?_
  refine at_call hA (c18 a b ha hb _) (fun _ hA hk => ⟨_, rfl, hk, ?_⟩)
  have e1 : (ByteArray.mk #[58]).size = 1 := rfl
  have d1 := ftext_size (a := a) (b := b) (by omega) (by omega)
  have d2 := dec_small (n := c) (by omega)
  refine ⟨_, gives_sadd (by omega), ?_⟩
  refine at_call hA (c42 c (by omega) (by omega) _) (fun _ hA hk => ⟨_, rfl, hk, ?_⟩)
  refine ⟨_, gives_sadd (by rw [ByteArray.size_append]; omega), ?_⟩
  exact leaf h hA (by rw [sText, if_pos hr])

abbrev ShT := Int × Int × Int
abbrev shE (x : ShT) : List Value := [.int .i64 x.1, .int .i64 x.2.1, .int .i64 x.2.2]
noncomputable def lstep (l : List ShT) (s : ShT) (i : Int) (out : List Int) : List Int :=
  if sRight s.1 s.2.1 s.2.2 then (match out with
    | [] => [i]
    | j :: o => match l[j.toNat]? with
      | none => []
      | some t => if sCmp s.1 s.2.1 s.2.2 t.1 t.2.1 t.2.2 = -1 then [i] else if sCmp s.1 s.2.1 s.2.2 t.1 t.2.1 t.2.2 = 1 then j :: o else j :: o ++ [i]) else out
noncomputable def lgo (l : List ShT) : List ShT → Int → List Int → List Int
  | [], _, out => out
  | s :: r, i, out => lgo l r (i + 1) (lstep l s i out)
noncomputable def least (l : List ShT) : List Int := lgo l l 0 []

theorem c15 {l : List ShT} {a : Option Addr} {n c : Nat} (w : World) (hs : SlE w 3 shE l a n c) (hl : l.length ≤ 1000000) : RetL Try.prog 15 #[.slice a n c] w 3 1 one (least l) := by
  intro R h
  refine f15_calls a n c w R ?_
  unfold f15_vc
  have hA := At.refl w
  have hn := hs.1
  subst hn
  have hat : ∀ {W : World} {gs : List Nat} {i : Nat} {x : ShT}, At w gs W → l[i]? = some x → ∃ ad, Gives Try.prog (Instr.indexAt 26 (.slice a l.length c) (.int .i64 (i : Int))) (.pointer (some ad)) ∧ Reads Try.prog [] (Instr.loadAt 25 (.pointer (some ad))) W (shV x.1 x.2.1 x.2.2) := fun hA hx =>
    rd_agg (f := shE) (hs.call hA.below) hx (e := 25) (by kernel_rfl) (by kernel_rfl) (by kernel_rfl) (by kernel_rfl) (fun _ h => by cases h)
  refine ⟨fun s W => At w [] W ∧ ∃ (k : Nat) (out : List Int), s.2.1 = k ∧ k ≤ l.length ∧ OwnL w [] W 3 1 one (.slice s.1.1 s.1.2.1 s.1.2.2) out ∧ out.length ≤ k ∧ (∀ j ∈ out, ∃ q : Nat, j = q ∧ q < l.length) ∧ lgo l (l.drop k) k out = least l, fun s _ => l.length - s.2.1.toNat,
    ⟨hA, 0, [], rfl, Nat.zero_le _, OwnL.nil, Nat.le_refl _, fun _ h => (by cases h), rfl⟩, ?_⟩
  intro a3 n4 n5 i W ⟨hA, k, out, hik, hk, ho, hol, hout, hg⟩
  simp only at hik ho
  subst hik
  have hn4 := ho.len
  subst hn4
  refine brD (fun hlt => ?_) (fun hge => ?_)
  · obtain ⟨x, hx⟩ : ∃ x, l[k]? = some x := ⟨_, List.getElem?_eq_getElem (by omega)⟩
    obtain ⟨ad, g1, r1⟩ := hat hA hx
    rw [drop_cons hx] at hg
    have hg : lgo l (l.drop (k + 1)) ((k : Int) + 1) (lstep l x k out) = least l := hg
    unfold lstep at hg
    refine ⟨_, g1, _, _, _, r1, ?_⟩
    intro n12 h12
    have e1 : IntKind.i64.wrap ((k : Int) + 1) = ((k + 1 : Nat) : Int) := by rw [wrap_i64 (by omega) (by omega)]; rfl
    rw [e1]
    have hsz := hA.size
    refine go_evo_too hA (by intro d hd; simp at hd; omega) fun w13 hA13 hev => ?_
    have ho13 : OwnL w [n12] w13 3 1 one (.slice a3 out.length n5) out := by
      have h1 := ho.evo (W' := w13) (ds := [n12]) (by intro d hd _; simp at hd; omega) hev
      exact ⟨h1.row, fun g hg hv => by simp at hg; have := (ho.row.lt g hv).2; omega⟩
    -- the next round
    have next : ∀ {W' : World} {a' : Option Addr} {n' c' : Nat} {out' : List Int}, At w [n12] W' → OwnL w [n12] W' 3 1 one (.slice a' n' c') out' → out'.length ≤ k + 1 → (∀ j ∈ out', ∃ q : Nat, j = q ∧ q < l.length) → lgo l (l.drop (k + 1)) ((k : Int) + 1) out' = least l →
        (At w [] W' ∧ ∃ (k' : Nat) (o : List Int), ((k + 1 : Nat) : Int) = k' ∧ k' ≤ l.length ∧ OwnL w [] W' 3 1 one (.slice a' n' c') o ∧ o.length ≤ k' ∧ (∀ j ∈ o, ∃ q : Nat, j = q ∧ q < l.length) ∧ lgo l (l.drop k') k' o = least l) ∧ l.length - ((k + 1 : Nat) : Int).toNat < l.length - (k : Int).toNat := by
      intro W' a' n' c' out' hA ho h1 h2 h3
      exact ⟨⟨⟨hA.below, fun _ h => by cases h⟩, k + 1, out', rfl, by omega, ⟨ho.row, fun _ h => by cases h⟩, h1, h2, h3⟩, by omega⟩
    -- one place more, behind an own list
    have add : ∀ {W' : World} {a' : Option Addr} {n' c' : Nat} {o : List Int}, At w [n12] W' → OwnL w [n12] W' 3 1 one (.slice a' n' c') o → o.length ≤ k → (∀ j ∈ o, ∃ q : Nat, j = q ∧ q < l.length) → lgo l (l.drop (k + 1)) ((k : Int) + 1) (o ++ [(k : Int)]) = least l → ∀ {K : Option Addr → Nat → Nat → World → Prop}, (∀ a2 n2 c2 W2, ((At w [] W2 ∧ ∃ (k' : Nat) (o : List Int), ((k + 1 : Nat) : Int) = k' ∧ k' ≤ l.length ∧ OwnL w [] W2 3 1 one (.slice a2 n2 c2) o ∧ o.length ≤ k' ∧ (∀ j ∈ o, ∃ q : Nat, j = q ∧ q < l.length) ∧ lgo l (l.drop k') k' o = least l) ∧ l.length - ((k + 1 : Nat) : Int).toNat < l.length - (k : Int).toNat) → K a2 n2 c2 W2) →
        OpW Try.prog (valueS (Instr.buildSlice 31 1 #[(0, .int .i64 (k : Int))])) W' fun v w1 => ∃ a1 n1 c1, v = .slice a1 n1 c1 ∧ Keeps [n12] W' w1 ∧ OpW Try.prog (builtin .append #[31, 31] 31 #[false, false] #[.slice a' n' c', .slice a1 n1 c1]) w1 fun v w2 => ∃ a2 n2 c2, v = .slice a2 n2 c2 ∧ Keeps [n12] w1 w2 ∧ K a2 n2 c2 w2 := by
      intro W' a' n' c' o hA ho h1 h2 h3 K hK
      refine opw_lit hA (e' := 3) (cs := one (k : Int)) (by kernel_rfl) fun w' hA hk hb hc _ => ⟨_, _, _, rfl, hk, ?_⟩
      refine opw_append1 (bytes := 8) (by kernel_rfl) hA (ho.call hb) (x := (k : Int)) rfl hc (by simp [Value.oneCell']) (by omega) (.inr (by omega)) fun v' w2 hA hk2 hg ho' _ => ?_
      obtain ⟨a2, c2, rfl, _⟩ := ho'.slice (by simp)
      refine ⟨_, _, _, rfl, hk2, hK _ _ _ _ (next hA ho' (by simp; omega) (fun j hj => ?_) h3)⟩
      rcases List.mem_append.1 hj with hj | hj
      · exact h2 j hj
      · simp at hj
        exact ⟨k, hj, by omega⟩
    refine at_callq (Q := fun v _ => v = .bool (decide (sRight x.1 x.2.1 x.2.2))) hA13 (fun R h => c13 _ _ _ _ R fun w' hb => h _ w' hb rfl) (fun v w15 hA15 hk15 hb15 hv => ?_)
    subst hv
    refine ⟨_, rfl, hk15, ?_⟩
    have ho15 := ho13.call hb15
    refine brND (fun hr => ?_) (fun hr => ?_)
    · rw [if_neg hr] at hg
      exact next hA15 ho15 (by omega) hout hg
    rw [if_pos hr] at hg
    cases out with
    | nil =>
      refine brD (fun hpos => by simp at hpos) (fun _ => ?_)
      exact add hA15 ho15 (by omega) hout hg fun a2 n2 c2 W2 h => h
    | cons j o =>
      refine brD (fun _ => ?_) (fun hneg => by simp at hneg)
      obtain ⟨q, rfl, hq⟩ := hout j (List.mem_cons_self ..)
      obtain ⟨t, ht⟩ : ∃ t, l[q]? = some t := ⟨_, List.getElem?_eq_getElem hq⟩
      have ht' : l[(q : Int).toNat]? = some t := by simpa using ht
      simp only [ht'] at hg
      obtain ⟨ad2, g2, r2⟩ := rd_one (te := 3) (ds := []) (k := .i64) (t := 31) (P := Try.prog) (e := 3) (i := 0) (ho15.sl (by simp)) rfl rfl (by kernel_rfl) (by kernel_rfl) (by kernel_rfl) (fun _ h => by cases h)
      obtain ⟨ad3, g3, r3⟩ := hat hA15 ht
      refine ⟨_, g2, _, r2, _, g3, _, _, _, r3, go_below_too hA15 fun w23 hA23 hb23 => ?_⟩
      refine at_callq (Q := fun v _ => v = .int .i64 (sCmp x.1 x.2.1 x.2.2 t.1 t.2.1 t.2.2)) hA23 (fun R h => c11 _ _ _ _ _ _ _ R fun w' hb => h _ w' hb rfl) (fun v w25 hA25 hk25 hb25 hv => ?_)
      subst hv
      have ho25 := (ho15.call hb23).call hb25
      refine ⟨_, rfl, hk25, fun W hW => r2 W (Below_tr hb23 (Below_tr hb25 hW)), ?_⟩
      refine brE (fun hc => ?_) (fun hc => ?_)
      · rw [if_pos hc] at hg
        exact add hA25 OwnL.nil (by simp) (fun _ h => by cases h) hg fun a2 n2 c2 W2 h => h
      rw [if_neg hc] at hg
      refine brE (fun hc2 => ?_) (fun hc2 => ?_)
      · rw [if_pos hc2] at hg
        exact next hA25 ho25 (by omega) hout hg
      · rw [if_neg hc2] at hg
        exact add hA25 ho25 hol hout hg fun a2 n2 c2 W2 h => h
  · have hke : k = l.length := by omega
    subst hke
    rw [List.drop_length] at hg
    have hg : out = least l := hg
    exact leafl h hA ho hg
end Go.Vc.B
