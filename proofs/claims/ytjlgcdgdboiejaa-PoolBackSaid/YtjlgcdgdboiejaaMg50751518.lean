/- Own texts of this claim, laid together: V1, VcCopy, VcMap2, VcRange, V2, V3, VcSort, PtShelf, V4, VcPart, V5, V6, PoP, Fe2, VcInv, Po1, Po2. -/
import Derived.Test.YtjlgcdgdboiejaaMg5ab43a94
import Derived.Laws.CopyRow
import Derived.Maps.RangeRun
import Derived.Shelf.SlSortCmp.NoneTotal
import Derived.Shelf.SlLaysF0
import Derived.Shelf.SlGeneric
import Derived.Test.YtjlgcdgdboiejaaProg

/- quant, slot, vec.Right. -/
set_option maxRecDepth 20000
namespace Go.Vc.V
open Go Go.Vc Go.RowKit Go.Proofs Vce

/-! ### Amounts -/
def qgo (most : Int) : Int → List Int → Int × Bool
  | s, [] => (s, true)
  | s, n :: r => if n < 0 ∨ n > most - s then (0, false) else qgo most (s + n) r
def qsum (most : Int) (l : List Int) : Int × Bool := if most < 0 then (0, false) else qgo most 0 l
abbrev pairV (p : Int × Bool) : Value := .tuple #[.int .i64 p.1, .bool p.2]

theorem c46 {most : Int} {l : List Int} {a : Option Addr} {n c : Nat} (w : World) (hm : I64 most) (hs : SlE w 1 one l a n c) (hI : ∀ x ∈ l, I64 x) : Ret Try.prog 46 #[.int .i64 most, .slice a n c] w (pairV (qsum most l)) := by
  intro R h
  refine f46_calls most a n c w R ?_
  unfold f46_vc
  have hA := At.refl w
  have hlen := hs.len_le
  have hn := hlen.1
  subst hn
  refine brD (fun hneg => leaf h hA (by rw [qsum, if_pos hneg])) (fun hpos => ?_)
  rw [qsum, if_neg hpos] at h
  refine ⟨fun s W => At w [] W ∧ ∃ k : Nat, s.2.1 = k ∧ k ≤ l.length ∧ (0 ≤ s.1 ∧ s.1 ≤ most) ∧ qgo most s.1 (l.drop k) = qgo most 0 l, fun s _ => l.length - s.2.1.toNat, ⟨hA, 0, rfl, Nat.zero_le _, by show (0 : Int) ≤ 0 ∧ (0 : Int) ≤ most; omega, rfl⟩, ?_⟩
  intro s i W ⟨hA, k, hik, hk, hb, hg⟩
  simp only at hik hb hg
  subst hik
  refine brD (fun hlt => ?_) (fun hge => ?_)
  · obtain ⟨x, hx⟩ : ∃ x, l[k]? = some x := ⟨_, List.getElem?_eq_getElem (by omega)⟩
    have hIx := hI x (List.mem_of_getElem? hx)
    obtain ⟨ad, g1, r1⟩ := rd_one (te := 2) (ds := []) (k := .i64) (t := 50) (P := Try.prog) (e := 2) (hs.call hA.below) hx rfl (by kernel_rfl) (by kernel_rfl) (by kernel_rfl) (fun _ h => by cases h)
    rw [drop_cons hx, qgo] at hg
    refine ⟨_, g1, _, r1, ?_⟩
    rw [wrap_i64 (x := most - s) (by omega) (by omega), wrap_i64 (x := (k : Int) + 1) (by omega) (by omega)]
    refine brD (fun h1 => ?_) (fun h1 => brD (fun h2 => ?_) (fun h2 => ?_))
    · rw [if_pos (.inl h1)] at hg
      exact leaf h hA (by rw [← hg])
    · rw [if_pos (.inr h2)] at hg
      exact leaf h hA (by rw [← hg])
    · rw [if_neg (by omega)] at hg
      rw [wrap_i64 (x := s + x) (by omega) (by omega)]
      exact ⟨⟨hA, k + 1, rfl, by omega, by show (0 : Int) ≤ s + x ∧ s + x ≤ most; omega, hg⟩, by simp only; omega⟩
  · have hke : k = l.length := by omega
    subst hke
    rw [List.drop_length, qgo] at hg
    exact leaf h hA (by rw [← hg])

theorem c36 (n : Int) (w : World) : Ret Try.prog 36 #[.int .i64 n] w (.bool (decide (0 ≤ n ∧ n ≤ 9007199254740992))) := by
  intro R h
  refine f36_calls n w R ?_
  unfold f36_vc
  have hA := At.refl w
  refine brD (fun h1 => leaf h hA ?_) (fun h1 => leaf h hA ?_)
  · simp [h1]
  · simp only [ge_iff_le] at h1
    simp [h1]

theorem c38 (a b most : Int) (ha : I64 a) (hb : I64 b) (hm : I64 most) (w : World) : Ret Try.prog 38 #[.int .i64 a, .int .i64 b, .int .i64 most] w (pairV (qsum most [a, b])) := by
  intro R h
  refine f38_calls a b most w R ?_
  unfold f38_vc
  have hA := At.refl w
  refine opw_lit hA (e' := 2) (cs := [a, b].flatMap one) (by kernel_rfl) fun w' hA hk hbw hc hh => ⟨_, _, _, rfl, ?_⟩
  have ho : OwnL w [] w' 2 1 one (.slice (some ⟨w.heap.size, 0, none⟩) 2 2) [a, b] :=
    OwnL.of ⟨rfl, .inr ⟨_, 2, _, rfl, Nat.le_refl _, hh, Nat.le_refl _, by decide, rfl, rfl⟩⟩ (fun _ h => by cases h)
  refine at_call hA (c46 (l := [a, b]) _ hm (ho.sl (by simp)) (by simp; exact ⟨ha, hb⟩)) (fun _ hA hk => ⟨_, _, rfl, ?_⟩)
  exact leaf h hA rfl

/-- A difference of amounts. -/
def qsub (a b : Int) : Int × Bool := if b < 0 ∨ b > a then (0, false) else (a - b, true)
theorem c40 (a b : Int) (ha : I64 a) (w : World) : Ret Try.prog 40 #[.int .i64 a, .int .i64 b] w (pairV (qsub a b)) := by
  intro R h
  refine f40_calls a b w R ?_
  unfold f40_vc
  unfold qsub at h
  have hA := At.refl w
  refine brD (fun h1 => ?_) (fun h1 => brD (fun h2 => ?_) (fun h2 => ?_))
  · rw [if_pos (.inl h1)] at h; exact leaf h hA rfl
  · rw [if_pos (.inr h2)] at h; exact leaf h hA rfl
  · rw [if_neg (by omega)] at h
    rw [wrap_i64 (by omega) (by omega)]
    exact leaf h hA rfl
theorem qsum2 {a b : Int} (ha : 0 ≤ a ∧ a ≤ 9007199254740992) (hb : 0 ≤ b ∧ b ≤ 9007199254740992) : qsum 9007199254740992 [a, b] = if a + b ≤ 9007199254740992 then (a + b, true) else (0, false) := by
  unfold qsum
  rw [if_neg (by omega)]
  simp only [qgo]
  repeat' split
  all_goals first | omega | (congr 1; omega) | rfl | skip

/-! ### Slots -/
theorem c27 (k r : Int) (w : World) : Ret Try.prog 27 #[slotV k r] w (.bool (decide (slotR k r))) := by
  intro R h
  refine f27_calls k r w R ?_
  unfold f27_vc
  have hA := At.refl w
  refine go_n hA fun n1 h_n1 => ?_
  refine brD (fun h1 => brD (fun h2 => brD (fun h3 => ?_) (fun h3 => ?_)) (fun h2 => ?_)) (fun h1 => ?_)
  all_goals refine go_below hA fun _ hA => leaf h hA ?_
  · rw [show decide (slotR k r) = decide (r ≤ 32) from decide_eq_decide.2 ⟨fun hh => hh.2.2.2, fun hh => ⟨h1, h2, h3, hh⟩⟩]
  · rw [decide_eq_false (show ¬ slotR k r from fun hh => h3 hh.2.2.1)]
  · rw [decide_eq_false (show ¬ slotR k r from fun hh => h2 hh.2.1)]
  · rw [decide_eq_false (show ¬ slotR k r from fun hh => h1 hh.1)]

theorem c35 (a b c : Int) (w : World) : Ret Try.prog 35 #[.agg #[.int .i64 a, .int .i64 b, .int .i64 c]] w (slotV a b) := by
  intro R h
  refine f35_calls a b c w R ?_
  unfold f35_vc
  intro n1 h1 n2 h2 w' hev _
  exact h _ (Chg.below ((Chg.of_evo hev).mono fun b hb hm => by simp at hm; omega))

theorem c37 (a b c d : Int) (w : World) : Ret Try.prog 37 #[slotV a b, slotV c d] w (.int .i64 (slotC a b c d)) := by
  intro R h
  refine f37_calls a b c d w R ?_
  unfold f37_vc
  have hA := At.refl w
  refine go_n hA fun n1 h_n1 => ?_
  refine go_n hA fun n2 h_n2 => ?_
  refine ⟨fun he => go_below hA fun _ hA => leaf h hA ?_, fun hne => ?_⟩
  · simp at he
    rw [slotC, if_pos he]
  simp at hne
  refine brD (fun h1 => go_below hA fun _ hA => leaf h hA ?_) (fun h1 => brE (fun h2 => brD (fun h3 => go_below hA fun _ hA => leaf h hA ?_) (fun h3 => go_below hA fun _ hA => leaf h hA ?_)) (fun h2 => go_below hA fun _ hA => leaf h hA ?_))
  · rw [slotC, if_neg (by omega), if_pos (.inl h1)]
  · rw [slotC, if_neg (by omega), if_pos (.inr ⟨h2, h3⟩)]
  · rw [slotC, if_neg (fun hh => hne hh.1 hh.2), if_neg (by omega)]
  · rw [slotC, if_neg (fun hh => hne hh.1 hh.2), if_neg (by omega)]

theorem c48 (p q : PartT) (w : World) : Ret Try.prog 48 #[partV p, partV q] w (.int .i64 (slotC p.1 p.2.1 q.1 q.2.1)) := by
  intro R h
  refine f48_calls p.1 p.2.1 p.2.2 q.1 q.2.1 q.2.2 w R ?_
  unfold f48_vc
  intro n1 _ n2 _
  refine go_below (gs' := [n1, n2]) (At.refl w) fun w3 hA => ?_
  refine at_callb hA (c35 _ _ _ w3) fun w5 hA hk _ => ⟨_, _, rfl, hk, ?_⟩
  refine at_callb hA (c35 _ _ _ w5) fun w9 hA hk _ => ⟨_, _, rfl, hk, ?_⟩
  refine at_callb hA (c37 _ _ _ _ w9) fun w13 hA hk _ => ⟨_, rfl, hk, leaf h hA rfl⟩

/-! ### Right -/
theorem c25 {l : List PartT} {a : Option Addr} {n c : Nat} (w : World) (hs : SlE w 3 partE l a n c) : Ret Try.prog 25 #[.slice a n c] w (.bool (vecB l)) := by
  intro R h
  refine f25_calls a n c w R ?_
  unfold f25_vc
  have hA := At.refl w
  have hn := hs.1
  subst hn
  have hlen := hs.len_le.2
  have hat : ∀ {W : World} {gs : List Nat} {i : Nat} {x : PartT}, At w gs W → l[i]? = some x → ∃ ad, Gives Try.prog (Instr.indexAt 26 (.slice a l.length c) (.int .i64 (i : Int))) (.pointer (some ad)) ∧ Reads Try.prog [] (Instr.loadAt 55 (.pointer (some ad))) W (partV x) := fun hA hx =>
    rd_agg (f := partE) (hs.call hA.below) hx (e := 55) (by kernel_rfl) (by kernel_rfl) (by kernel_rfl) (by kernel_rfl) (fun _ h => by cases h)
  refine ⟨fun s W => At w [] W ∧ ∃ k : Nat, s.1 = k ∧ k ≤ l.length ∧ vok (if k = 0 then none else l[k - 1]?) (l.drop k) = vecB l, fun s _ => l.length - s.1.toNat, ⟨hA, 0, rfl, Nat.zero_le _, rfl⟩, ?_⟩
  intro i W ⟨hA, k, hi, hk, hv⟩
  simp only at hi
  subst hi
  refine brD (fun hlt => ?_) (fun hge => ?_)
  · obtain ⟨p, hp⟩ : ∃ x, l[k]? = some x := ⟨_, List.getElem?_eq_getElem (by omega)⟩
    obtain ⟨ad, g1, r1⟩ := hat hA hp
    rw [vok_step hp] at hv
    have e1 : IntKind.i64.wrap ((k : Int) + 1) = ((k + 1 : Nat) : Int) := by rw [wrap_i64 (by omega) (by omega)]; rfl
    rw [e1]
    refine ⟨_, g1, _, _, _, r1, ?_⟩
    refine go_n hA fun n9 h_n9 => ?_
    refine go_evo hA (by intro d hd; simp at hd; omega) fun _ hA => ?_
    refine at_call hA (c35 _ _ _ _) (fun _ hA hk => ?_)
    refine ⟨_, _, rfl, hk, ?_⟩
    refine at_call hA (c27 _ _ _) (fun _ hA hk => ?_)
    refine ⟨_, rfl, hk, ?_⟩
    have next : (∀ W', At w [n9] W' → decide (partR p) = true → okB (if k = 0 then none else l[k - 1]?) p = true → (At w [] W' ∧ ∃ k' : Nat, ((k + 1 : Nat) : Int) = k' ∧ k' ≤ l.length ∧ vok (if k' = 0 then none else l[k' - 1]?) (l.drop k') = vecB l) ∧ l.length - ((k + 1 : Nat) : Int).toNat < l.length - (k : Int).toNat) := by
      intro W' hA h1 h2
      rw [h1, h2] at hv
      refine ⟨⟨hA.off, k + 1, rfl, by omega, ?_⟩, by omega⟩
      rw [if_neg (by omega), show k + 1 - 1 = k by omega, hp]
      simpa using hv
    refine brND (fun h1 => ?_) (fun h1 => brD (fun h2 => ?_) (fun h2 => ?_))
    · refine leaf h hA ?_
      rw [← hv, decide_eq_false (show ¬ partR p from fun hh => h1 hh.1)]
      rfl
    · refine leaf h hA ?_
      rw [← hv, decide_eq_false (show ¬ partR p from fun hh => by have := hh.2.1; omega)]
      rfl
    refine at_call hA (c36 _ _) (fun _ hA hk => ?_)
    refine ⟨_, rfl, hk, ?_⟩
    refine brND (fun h3 => leaf h hA ?_) (fun h3 => ?_)
    · rw [← hv, decide_eq_false (show ¬ partR p from fun hh => by have := hh.2; omega)]
      rfl
    have hR : partR p := ⟨h1, by omega, h3.2⟩
    refine brD (fun h4 => ?_) (fun h4 => ?_)
    · obtain ⟨q, hq⟩ : ∃ x, l[k - 1]? = some x := ⟨_, List.getElem?_eq_getElem (by omega)⟩
      obtain ⟨ad2, g2, r2⟩ := hat hA hq
      have e2 : IntKind.i64.wrap ((k : Int) - 1) = ((k - 1 : Nat) : Int) := by rw [wrap_i64 (by omega) (by omega)]; omega
      rw [e2]
      refine ⟨_, g2, _, _, _, r2, ?_⟩
      refine at_call hA (c35 _ _ _ _) (fun _ hA hk => ?_)
      refine ⟨_, _, rfl, hk, ?_⟩
      refine at_call hA (c35 _ _ _ _) (fun _ hA hk => ?_)
      refine ⟨_, _, rfl, hk, ?_⟩
      refine at_call hA (c37 _ _ _ _ _) (fun _ hA hk => ?_)
      refine ⟨_, rfl, hk, ?_⟩
      rw [if_neg (show ¬ k = 0 by omega), hq] at hv next
      refine brD (fun h5 => leaf h hA ?_) (fun h5 => next _ hA (by simpa using hR) (by rw [slotC_ge] at h5; simpa [okB] using h5))
      rw [slotC_ge] at h5
      rw [← hv]
      simp [okB, h5]
    · have h0 : k = 0 := by omega
      rw [if_pos h0] at next
      exact next _ hA (by simpa using hR) rfl
  · have hke : k = l.length := by omega
    subst hke
    rw [List.drop_length] at hv
    exact leaf h hA (by rw [← hv, vok_nil])
end Go.Vc.V

/- Copying all elements of a slice into an own one; a map made with a hint. -/
namespace Go.Vc
open Go Go.RowKit

section
variable {α : Type} {P : Program} {w W : World} {M : Nat → Prop} {gs : List Nat} {e : TypeId} {size : Nat} {f : α → List Value} {l l0 : List α} {t ty : TypeId} {fl : Array Bool} {bytes : Nat}

theorem SlE_cells {ad : Addr} {n c : Nat} (hs : SlE W size f l (some ad) n c) (hf : ∀ x ∈ l, (f x).length = size) : ∀ j u, (l.flatMap f)[j]? = some u → W.cell? (ad.add j) = some u := by
  intro j u hu
  have hj := (List.getElem?_eq_some_iff.1 hu).1
  rw [flatMap_len hf] at hj
  have hsz : 0 < size := by
    rcases Nat.eq_zero_or_pos size with h | h
    · subst h; omega
    · exact h
  have hi : j / size < l.length := Nat.div_lt_of_lt_mul (by rw [Nat.mul_comm]; exact hj)
  obtain ⟨ad', cs, hae, hcl, hcs, hcf⟩ := hs.at_ (List.getElem?_eq_getElem hi)
  cases hae
  subst hcf
  have hp := flatMap_part hf (List.getElem?_eq_getElem hi)
  have hm : j % size < size := Nat.mod_lt _ hsz
  have hdm : j / size * size + j % size = j := by rw [Nat.mul_comm]; exact Nat.div_add_mod j size
  have hv : (f l[j / size])[j % size]? = some u := by
    rw [← hp, List.getElem?_take, if_pos hm, List.getElem?_drop, hdm]
    exact hu
  have := hcs _ _ hv
  rw [add_add, hdm] at this
  exact this

theorem chg_setRow {g : Nat} {cs : Array Value} : Chg (fun b => b = g) W (W.setRow g cs) := by
  refine ⟨rfl, rfl, rfl, ?_, fun b _ hb => ?_, Nat.le_refl _⟩
  · simp [World.setRow]
  · simp [World.setRow, Array.getElem?_modify, Ne.symm hb]

theorem opw_copyAll {d : Option Addr} {n c n' c' : Nat} {a : Option Addr} (he : elemB P t e size bytes = true) (hA : AtF w M gs W) (ho : OwnF w M gs W e size f (.slice d n c) l0) (hs : SlE W size f l a n' c') (hl : l.length = l0.length) (hf : ∀ x ∈ l, (f x).length = size) (hf0 : ∀ x ∈ l0, (f x).length = size) (h1 : ∀ x ∈ l, ∀ u ∈ f x, u.oneCell' = true) {K : Value → World → Prop}
    (h : ∀ w', AtF w M gs w' → Keeps gs W w' → Chg (fun b => (Value.slice d n c).ownBlock = some b) W w' → OwnF w M gs w' e size f (.slice d n c) l → K (goInt l.length) w') :
    OpW P (builtin .copy #[t, t] ty fl #[.slice d n c, .slice a n' c']) W K := by
  obtain ⟨i, z, ok⟩ := elemB_ok he
  have hn := ho.len
  have hn' := hs.1
  subst hn hn'
  have hsz : ∀ W : World, (sizeOf e).run P W = .ok size W := fun W => by simp [sizeOf, typeInfo, ok.hi, ok.hsize]
  rcases ho.row0.2 with ⟨hv, h0⟩ | ⟨g, cap, cur, hv, _, hg, hnc, hcm, hcs, htk⟩
  · obtain ⟨rfl, hn0, rfl⟩ := Value.slice.inj hv
    have e1 : l0 = [] := List.eq_nil_of_length_eq_zero h0
    have e2 : l = [] := List.eq_nil_of_length_eq_zero (by omega)
    subst e1 e2
    have hr : (Builtin.copy_ #[t, t] ty #[.slice none 0 0, .slice a 0 c']).run P W = .ok (goInt 0) W := by
      unfold Builtin.copy_
      simp only [List.getElem?_toArray, List.getElem?_cons_zero, List.getElem?_cons_succ]
      rw [run_bind_ok (run_underlying ok.ht W)]
      simp only [Builtin.lenOf, pure_bind]
      rw [run_bind_ok (hsz W)]
      cases a with
      | none => rfl
      | some ad =>
        have this : (loadCells ad 0).run P W = .ok #[] W := run_loadCells_list (P := P) W ad [] (fun j v hv => by simp at hv)
        simp only [Builtin.firstCells, Nat.min_self, Nat.zero_mul]
        rw [run_bind_ok this]
        rfl
    have hrun : (builtin .copy #[t, t] ty fl #[.slice none 0 0, .slice a 0 c']).run P W = .ok (.value (goInt 0)) W := by
      show (do pure (Next.value (← Builtin.copy_ #[t, t] ty #[.slice none 0 0, .slice a 0 c'])) : Sem Next).run P W = _
      rw [run_bind_ok hr]
      rfl
    unfold OpW
    simp only [List.length_nil] at *
    rw [hrun]
    exact h W hA (fun _ _ => rfl) (Chg.refl _ _) ho
  · obtain ⟨rfl, _, rfl⟩ := Value.slice.inj hv
    have hlen : (l.flatMap f).length = l.length * size := flatMap_len hf
    have hone : ∀ u ∈ l.flatMap f, u.oneCell' = true := fun u hu => by
      obtain ⟨x, hx, hxu⟩ := List.mem_flatMap.1 hu
      exact h1 x hx u hxu
    have hfit : (l.flatMap f).length ≤ cur.size := by
      rw [hlen, hcs, hl]
      exact Nat.mul_le_mul_right _ hnc
    have hst := run_storeCells_at P g 0 e (l.flatMap f) 0 cur W hg (by simpa using hfit) hone
    simp only [Nat.zero_add] at hst
    have hr : (Builtin.copy_ #[t, t] ty #[.slice (some ⟨g, 0, none⟩) l0.length c, .slice a l.length c']).run P W = .ok (goInt l.length) (W.setRow g (cur.toList.take 0 ++ l.flatMap f ++ cur.toList.drop (l.flatMap f).length).toArray) := by
      unfold Builtin.copy_
      simp only [List.getElem?_toArray, List.getElem?_cons_zero, List.getElem?_cons_succ]
      rw [run_bind_ok (run_underlying ok.ht W)]
      simp only [Builtin.lenOf, pure_bind]
      rw [run_bind_ok (hsz W)]
      have hmin : Nat.min l.length l0.length = l.length := by rw [hl]; exact Nat.min_self _
      rw [hmin]
      have hld : (Builtin.firstCells size l.length (.slice a l.length c')).run P W = .ok (l.flatMap f).toArray W := by
        cases a with
        | none =>
          have hc0 := hs.2.2.2.1 rfl
          have : l = [] := List.eq_nil_of_length_eq_zero (by have := hs.2.1; omega)
          subst this
          rfl
        | some ad =>
          have := run_loadCells_list (P := P) W ad (l.flatMap f) (SlE_cells hs hf)
          rw [hlen] at this
          exact this
      rw [run_bind_ok hld]
      simp only
      rw [run_bind_ok hst]
      rfl
    have hrun : (builtin .copy #[t, t] ty fl #[.slice (some ⟨g, 0, none⟩) l0.length c, .slice a l.length c']).run P W = .ok (.value (goInt l.length)) (W.setRow g (cur.toList.take 0 ++ l.flatMap f ++ cur.toList.drop (l.flatMap f).length).toArray) := by
      show (do pure (Next.value (← Builtin.copy_ #[t, t] ty #[.slice (some ⟨g, 0, none⟩) l0.length c, .slice a l.length c'])) : Sem Next).run P W = _
      rw [run_bind_ok hr]
      rfl
    unfold OpW
    rw [hrun]
    have hch : Chg (fun b => (Value.slice (some ⟨g, 0, none⟩) l0.length c).ownBlock = some b) W (W.setRow g (cur.toList.take 0 ++ l.flatMap f ++ cur.toList.drop (l.flatMap f).length).toArray) := chg_setRow.mono fun b _ hb => by subst hb; rfl
    refine h _ (hA.step hch fun b _ hb => ho.mine b hb) (hA.keepsC hch fun x hx hb => ho.apart x hx hb) hch ⟨?_, ho.mine, ho.apart⟩
    refine ⟨hlen, .inr ⟨g, c, _, by rw [hl], Nat.zero_le _, setRow_heap W g cur _ e (0, 0) hg, by omega, hcm, ?_, ?_⟩⟩
    · simp only [List.take_zero, List.nil_append, List.size_toArray, List.length_append, List.length_drop, Array.length_toList]
      omega
    · simp only [List.take_zero, List.nil_append]
      rw [← hlen, List.take_left]
end

theorem opw_makeMapR {κ α : Type} {P : Program} {w W : World} {M : Nat → Prop} {gs : List Nat} {kf : κ → Value} {vf : α → Value} {t kt et : TypeId} {k : IntKind} {x : Int} {K : Value → World → Prop} (ht : P.underlying t = some (.map kt et)) (hA : AtF w M gs W) (h : ∀ g w', W.heap.size = g → AtF w M gs w' → Keeps gs W w' → Bel W w' → OwnM w M gs w' g kf vf ([] : List (κ × α)) → K (.map (some g)) w') : OpW P (valueS (Instr.makeMap t (some (.int k x)))) W K := by
  have hr : (Instr.makeMap t (some (.int k x))).run P W = .ok (.map (some W.heap.size)) (W.alloc (.map #[] 0)) := by
    unfold Instr.makeMap
    simp only
    rw [run_bind_ok (run_underlying ht W)]
    rfl
  unfold OpW
  rw [run_valueS hr]
  refine h _ _ rfl (hA.call (below_alloc _)) (hA.keeps (below_alloc _)) (below_alloc _) ⟨.inl hA.size, fun hm => ?_, #[], 0, heap_alloc_new W _, rfl, by simp, fun e he => by simp at he⟩
  have := hA.under _ hm
  omega
end Go.Vc

/- A map's entry made, then filled: two steps that are a set. -/
namespace Go.Vc
open Go Go.RowKit

section
variable {κ α : Type} {P : Program} {w W : World} {M : Nat → Prop} {gs : List Nat} {r : Nat} {kt : TypeId} {kf : κ → Value} {vf : α → Value} {m : List (κ × α)}

/-- An own map with an entry that is to be filled. -/
structure OwnE (w : World) (M : Nat → Prop) (gs : List Nat) (W : World) (r : Nat) (kf : κ → Value) (vf : α → Value) (m : List (κ × α)) (j : Nat) (k : κ) (stamp : Nat) : Prop where
  mine : w.heap.size ≤ r ∨ M r
  apart : r ∉ gs
  obj : ∃ (es : Array MapEntry) (clock : Nat), W.heap[r]? = some (.map es clock) ∧ EntR kf vf es.toList m ∧ (es.toList.map (·.born)).Nodup ∧ (∀ e ∈ es.toList, e.born < clock) ∧ ∃ e, es[j]? = some e ∧ e.born = stamp
  key : ∃ v, m[j]? = some (k, v)
theorem OwnE.lt {j : Nat} {k : κ} {stamp : Nat} (h : OwnE w M gs W r kf vf m j k stamp) : r < W.heap.size := by
  obtain ⟨es, clock, hr, _⟩ := h.obj
  exact (Array.getElem?_eq_some_iff.1 hr).1

theorem opw_mapEntry [DecidableEq κ] {t et : TypeId} {k : κ} {z : α} {K : Value → World → Prop} (Ko : KeyOk P kt kf) (ht : P.underlying t = some (.map kt et)) (hz : pureRun P (zeroValue et) = some (vf z)) (hA : AtF w M gs W) (ho : OwnM w M gs W r kf vf m)
    (h : ∀ w' m1 j v0 stamp, AtF w M gs w' → Keeps gs W w' → Chg (fun b => b = r) W w' → OwnE w M gs w' r kf vf m1 j k stamp → (∀ v, m1.set j (k, v) = mset k v m) → K (.tuple #[vf v0, .int .i64 (stamp : Int)]) w') : OpW P (valueS (Instr.mapEntry t (.map (some r)) (kf k))) W K := by
  have hl := ho.lt
  obtain ⟨es, clock, hr, he, hn, hb⟩ := ho.obj
  unfold OpW
  cases hm : midx k m with
  | none =>
    have hrun : (Instr.mapEntry t (.map (some r)) (kf k)).run P W = .ok (.tuple #[vf z, .int .i64 (clock : Int)]) { W with heap := W.heap.setIfInBounds r (.map (es.push { key := kf k, val := vf z, born := clock }) (clock + 1)) } := by
      unfold Instr.mapEntry
      rw [run_bind_ok (run_underlying ht W)]
      simp only
      rw [run_bind_ok (run_getObj_m hr)]
      simp only
      rw [run_bind_ok (Ko.chk false k W), run_bind_ok (findKey_run Ko k W he), hm]
      simp only [Option.bind_none]
      rw [run_bind_ok (pureRun_run hz W), run_bind_ok (run_setObj_m hr _)]
      rfl
    rw [run_valueS hrun]
    have hlen := EntR.len he
    refine h _ (m ++ [(k, z)]) m.length z clock (hA.setObjF ho.mine) (keeps_setObj ho.apart) chg_setObj ⟨ho.mine, ho.apart, ⟨_, _, setObj_heap hl _, ?_, ?_, ?_, ⟨{ key := kf k, val := vf z, born := clock }, ?_, rfl⟩⟩, ⟨z, by simp⟩⟩ fun v => by rw [mset_new hm]; simp
    · rw [Array.toList_push]
      unfold EntR at he ⊢
      rw [List.map_append, List.map_append, he]
      rfl
    · rw [Array.toList_push, List.map_append]
      refine List.nodup_append.2 ⟨hn, by simp, fun a ha b hb' => ?_⟩
      simp at hb'
      obtain ⟨e, hem, rfl⟩ := List.mem_map.1 ha
      have := hb e hem
      omega
    · intro e hem
      rw [Array.toList_push] at hem
      rcases List.mem_append.1 hem with h1 | h1
      · have := hb e h1; omega
      · simp at h1; subst h1; simp
    · rw [← hlen, Array.length_toList]; simp
  | some j =>
    obtain ⟨v0, hv0⟩ := midx_key hm
    obtain ⟨e0, he0, hk0, hv00⟩ := EntR.at_ he hv0
    have he0' : es[j]? = some e0 := by simpa using he0
    have hks : (Instr.keyThatStays (kf k) (kf k)).run P W = .ok (kf k) W := by
      unfold Instr.keyThatStays
      rw [if_pos (Ko.bits k)]
      rfl
    have hrun : (Instr.mapEntry t (.map (some r)) (kf k)).run P W = .ok (.tuple #[vf v0, .int .i64 (e0.born : Int)]) { W with heap := W.heap.setIfInBounds r (.map (es.modify j fun e => { e with key := kf k }) clock) } := by
      unfold Instr.mapEntry
      rw [run_bind_ok (run_underlying ht W)]
      simp only
      rw [run_bind_ok (run_getObj_m hr)]
      simp only
      rw [run_bind_ok (Ko.chk false k W), run_bind_ok (findKey_run Ko k W he), hm]
      simp only [Option.bind_some, hv0, Option.map_some, he0', Option.getD_some, hk0]
      rw [run_bind_ok hks, run_bind_ok (run_setObj_m hr _)]
      rfl
    have hmod : es.modify j (fun e => { e with key := kf k }) = es := by
      apply Array.ext_getElem?
      intro i
      rw [Array.getElem?_modify]
      split
      · rename_i hij
        subst hij
        rw [he0']
        simp only [Option.map_some, Option.some.injEq]
        rw [← hk0]
      · rfl
    rw [run_valueS hrun, hmod]
    exact h _ m j v0 e0.born (hA.setObjF ho.mine) (keeps_setObj ho.apart) chg_setObj ⟨ho.mine, ho.apart, ⟨_, _, setObj_heap hl _, he, hn, hb, ⟨e0, he0', rfl⟩⟩, ⟨v0, hv0⟩⟩ fun v => (mset_at hm).symm

theorem opw_entryStore {t : TypeId} {k : κ} {j stamp : Nat} {v : α} {K : Value → World → Prop} (hA : AtF w M gs W) (ho : OwnE w M gs W r kf vf m j k stamp)
    (h : ∀ w', AtF w M gs w' → Keeps gs W w' → Chg (fun b => b = r) W w' → OwnM w M gs w' r kf vf (m.set j (k, v)) → K undef w') : OpW P (skipS (Instr.entryStore t (.map (some r)) (.int .i64 (stamp : Int)) (vf v))) W K := by
  have hl := ho.lt
  obtain ⟨es, clock, hr, he, hn, hb, e0, he0, hst⟩ := ho.obj
  obtain ⟨v0, hv0⟩ := ho.key
  obtain ⟨e1, he1, hk1, _⟩ := EntR.at_ he hv0
  have he1' : es[j]? = some e1 := by simpa using he1
  rw [he0] at he1'
  cases he1'
  have hjl := (Array.getElem?_eq_some_iff.1 he0).1
  have hfind : es.findIdx? (fun e => (e.born : Int) == (stamp : Int)) = some j := by
    rw [Array.findIdx?_eq_some_iff_getElem]
    refine ⟨hjl, ?_, fun q hq => ?_⟩
    · have := (Array.getElem?_eq_some_iff.1 he0).2
      simp [this, hst]
    · have hql : q < es.size := by omega
      have h2 : (es.toList.map (·.born))[q]'(by simpa using hql) ≠ (es.toList.map (·.born))[j]'(by simpa using hjl) := (List.pairwise_iff_getElem.1 hn) q j (by simpa using hql) (by simpa using hjl) hq
      have h3 := (Array.getElem?_eq_some_iff.1 he0).2
      simp only [List.getElem_map, Array.getElem_toList, h3, hst] at h2
      simp only [beq_iff_eq]
      intro e
      exact h2 (by omega)
  have hrun : (Instr.entryStore t (.map (some r)) (.int .i64 (stamp : Int)) (vf v)).run P W = .ok () { W with heap := W.heap.setIfInBounds r (.map (es.modify j fun e => { e with val := vf v }) clock) } := by
    unfold Instr.entryStore
    simp only
    rw [run_bind_ok (run_getObj_m hr)]
    simp only
    have hi : (asInt (.int .i64 (stamp : Int))).run P W = .ok (stamp : Int) W := rfl
    rw [run_bind_ok hi]
    simp only [hfind]
    exact run_setObj_m hr _
  unfold OpW skipS
  rw [run_bind_ok hrun]
  refine h _ (hA.setObjF ho.mine) (keeps_setObj ho.apart) chg_setObj ⟨ho.mine, ho.apart, _, clock, setObj_heap hl _, ?_, ?_, ?_⟩
  · unfold EntR at he ⊢
    rw [List.map_set, ← he]
    apply List.ext_getElem?
    intro i
    simp only [List.getElem?_map, Array.getElem?_toList, Array.getElem?_modify, List.getElem?_set, List.length_map, Array.length_toList]
    by_cases hij : j = i
    · subst hij
      have h3 := (Array.getElem?_eq_some_iff.1 he0).2
      simp [hjl, h3, hk1]
    · simp [hij]
  · have : (es.modify j fun e => { e with val := vf v }).toList.map (·.born) = es.toList.map (·.born) := by
      apply List.ext_getElem?
      intro i
      simp only [List.getElem?_map, Array.getElem?_toList, Array.getElem?_modify]
      by_cases hij : j = i
      · subst hij; simp [he0]
      · simp [hij]
    rw [this]
    exact hn
  · intro e hem
    obtain ⟨i, hi⟩ := List.mem_iff_getElem?.1 hem
    simp only [Array.getElem?_toList, Array.getElem?_modify] at hi
    by_cases hij : j = i
    · subst hij
      simp [he0] at hi
      subst hi
      exact hb e0 (List.mem_of_getElem? (i := j) (by simpa using he0))
    · simp [hij] at hi
      exact hb e (List.mem_of_getElem? (i := i) (by simpa using hi))
end
end Go.Vc

/- A range over a map: its iterator, the next round, the entry. -/
namespace Go.Vc
open Go Go.RowKit

theorem EntR_split {κ α : Type} {kf : κ → Value} {vf : α → Value} {A B : List MapEntry} {e : MapEntry} {rest : List (κ × α)} (h : EntR kf vf (A ++ e :: B) rest) :
    ∃ r1 x r2, rest = r1 ++ x :: r2 ∧ EntR kf vf (A ++ B) (r1 ++ r2) ∧ e.key = kf x.1 ∧ e.val = vf x.2 := by
  unfold EntR at h
  rw [List.map_append, List.map_cons] at h
  obtain ⟨r1, r', rfl, h1, h2⟩ := List.map_eq_append_iff.1 h.symm
  obtain ⟨x, r2, rfl, h3, h4⟩ := List.map_eq_cons_iff.1 h2
  refine ⟨r1, x, r2, rfl, ?_, (Prod.mk.inj h3).1.symm, (Prod.mk.inj h3).2.symm⟩
  unfold EntR
  rw [List.map_append, List.map_append, h1, h4]

theorem leftOf_push {es : Array MapEntry} {seen : Array Nat} {A B : List MapEntry} {e : MapEntry} (hn : (es.toList.map (·.born)).Nodup) (h : (leftOf es seen).toList = A ++ e :: B) :
    (leftOf es (seen.push e.born)).toList = A ++ B := by
  have h1 : (leftOf es (seen.push e.born)).toList = ((leftOf es seen).toList).filter (fun x => x.born != e.born) := by
    unfold leftOf
    rw [Array.toList_filter, Array.toList_filter, List.filter_filter]
    congr 1
    funext x
    by_cases hx : x.born = e.born
    · simp [hx]
    · simp [hx]
  have h2 : ((A ++ e :: B).map (·.born)).Nodup := by
    rw [← h]
    unfold leftOf
    rw [Array.toList_filter]
    exact hn.sublist (List.filter_sublist.map _)
  rw [h1, h, List.filter_append, List.filter_cons]
  rw [List.map_append, List.map_cons, List.nodup_append] at h2
  obtain ⟨h3, h4, h5⟩ := h2
  rw [List.nodup_cons] at h4
  have eA : A.filter (fun x => x.born != e.born) = A := List.filter_eq_self.2 fun x hx => by
    have := h5 x.born (List.mem_map.2 ⟨x, hx, rfl⟩) e.born (List.mem_cons_self ..)
    simpa using this
  have eB : B.filter (fun x => x.born != e.born) = B := List.filter_eq_self.2 fun x hx => by
    have : x.born ≠ e.born := fun he => h4.1 (he ▸ List.mem_map.2 ⟨x, hx, rfl⟩)
    simpa using this
  rw [eA, eB]
  simp

section
variable {κ α : Type} {P : Program} {w W W' : World} {M N : Nat → Prop} {gs gs' ds : List Nat} {q r : Nat} {kf : κ → Value} {vf : α → Value} {m rest : List (κ × α)} {cur : Option (κ × α)}

/-- An iterator over a map: what is left to come, and the entry at hand. -/
structure Itr (w : World) (M : Nat → Prop) (gs : List Nat) (W : World) (q r : Nat) (kf : κ → Value) (vf : α → Value) (m rest : List (κ × α)) (cur : Option (κ × α)) : Prop where
  mine : w.heap.size ≤ q ∨ M q
  apart : q ∉ gs
  obj : ∃ (es : Array MapEntry) (clock since c0 : Nat) (seen : Array Nat), W.heap[r]? = some (.map es clock) ∧ EntR kf vf es.toList m ∧ (es.toList.map (·.born)).Nodup ∧ (∀ e ∈ es.toList, e.born < clock) ∧
    W.heap[q]? = some (.mapIter (some r) since seen c0) ∧ (∀ e ∈ es.toList, e.born < since) ∧ since ≤ c0 ∧ since ≤ clock ∧ EntR kf vf (leftOf es seen).toList rest ∧
    (∀ x, cur = some x → c0 = clock ∧ ∃ e ∈ es.toList, seen.back? = some e.born ∧ e.key = kf x.1 ∧ e.val = vf x.2)

theorem Itr.lts (h : Itr w M gs W q r kf vf m rest cur) : q < W.heap.size ∧ r < W.heap.size ∧ q ≠ r := by
  obtain ⟨es, clock, since, c0, seen, h1, _, _, _, h2, _⟩ := h.obj
  refine ⟨(Array.getElem?_eq_some_iff.1 h2).1, (Array.getElem?_eq_some_iff.1 h1).1, fun e => ?_⟩
  subst e
  rw [h1] at h2
  cases h2
theorem Itr.keep (h : Itr w M gs W q r kf vf m rest cur) (hq : W'.heap[q]? = W.heap[q]?) (hr : W'.heap[r]? = W.heap[r]?) : Itr w M gs W' q r kf vf m rest cur := by
  obtain ⟨es, clock, since, c0, seen, h1, h2, h3, h4, h5, h6⟩ := h.obj
  exact ⟨h.mine, h.apart, es, clock, since, c0, seen, by rw [hr]; exact h1, h2, h3, h4, by rw [hq]; exact h5, h6⟩
theorem Itr.chg (h : Itr w M gs W q r kf vf m rest cur) (hc : Chg N W W') (hq : ¬ N q) (hr : ¬ N r) : Itr w M gs W' q r kf vf m rest cur :=
  h.keep (hc.block q h.lts.1 hq) (hc.block r h.lts.2.1 hr)
theorem Itr.call (h : Itr w M gs W q r kf vf m rest cur) (hb : Bel W W') : Itr w M gs W' q r kf vf m rest cur := h.keep (hb.block h.lts.1) (hb.block h.lts.2.1)
theorem Itr.more (h : Itr w M gs W q r kf vf m rest cur) (hg : ∀ g ∈ gs', g ∉ gs → W.heap.size ≤ g) : Itr w M gs' W q r kf vf m rest cur :=
  ⟨h.mine, fun hr => by
    by_cases hk : q ∈ gs
    · exact h.apart hk
    · have := hg q hr hk
      have := h.lts.1
      omega, h.obj⟩
theorem Itr.evo (h : Itr w M gs W q r kf vf m rest cur) (hd : ∀ d ∈ ds, d ≠ q ∧ d ≠ r) (hb : Evo ds W W') : Itr w M gs W' q r kf vf m rest cur :=
  h.chg (Chg.of_evo hb) (fun hm => (hd q hm).1 rfl) (fun hm => (hd r hm).2 rfl)
theorem Itr.ownM (h : Itr w M gs W q r kf vf m rest cur) {w0 : World} {M0 : Nat → Prop} {gs0 : List Nat} (hm : w0.heap.size ≤ r ∨ M0 r) (ha : r ∉ gs0) : OwnM w0 M0 gs0 W r kf vf m := by
  obtain ⟨es, clock, since, c0, seen, h1, h2, h3, h4, _⟩ := h.obj
  exact ⟨hm, ha, es, clock, h1, h2, h3, h4⟩

/-- How many entries are left to come. -/
def itLeft (W : World) (q r : Nat) : Nat := match W.heap[q]?, W.heap[r]? with
  | some (.mapIter _ _ seen _), some (.map es _) => (leftOf es seen).size
  | _, _ => 0
theorem Itr.left (h : Itr w M gs W q r kf vf m rest cur) : itLeft W q r = rest.length := by
  obtain ⟨es, clock, since, c0, seen, h1, h2, h3, h4, h5, _, _, _, h6, _⟩ := h.obj
  unfold itLeft
  rw [h1, h5]
  simp only
  have := congrArg List.length h6
  simpa using this
theorem Itr.base {w' : World} {M' : Nat → Prop} (h : Itr w M gs W q r kf vf m rest cur) (hm : w'.heap.size ≤ q ∨ M' q) (ha : q ∉ gs') : Itr w' M' gs' W q r kf vf m rest cur := ⟨hm, ha, h.obj⟩
theorem Evo.bel (h : Evo ds W W') (hd : ∀ d ∈ ds, W.heap.size ≤ d) : Bel W W' := ⟨⟨h.os, h.tape, h.output, h.size, fun b hb => h.block b hb fun hm => by have := hd b hm; omega⟩, h.drawn⟩

theorem opw_range {t kt et : TypeId} {w0 : World} {M0 : Nat → Prop} {gs0 : List Nat} {K : Value → World → Prop} (ht : P.underlying t = some (.map kt et)) (hA : AtF w M gs W) (ho : OwnM w0 M0 gs0 W r kf vf m)
    (h : ∀ q w', W.heap.size = q → AtF w M gs w' → Keeps gs W w' → Bel W w' → Itr w M gs w' q r kf vf m m none → K (.pointer (some ⟨q, 0, none⟩)) w') : OpW P (valueS (Instr.range t (.map (some r)))) W K := by
  have hl := ho.lt
  obtain ⟨es, clock, hr, he, hn, hb⟩ := ho.obj
  unfold OpW
  rw [run_valueS (run_range_map (P := P) W t kt et r es clock ht hr)]
  refine h _ _ rfl (hA.call (below_alloc _)) (hA.keeps (below_alloc _)) (below_alloc _) ⟨.inl hA.size, fun hm => ?_, es, clock, clock, clock, #[], ?_, he, hn, hb, heap_alloc_new W _, hb, Nat.le_refl _, Nat.le_refl _, ?_, fun x hx => by cases hx⟩
  · have := hA.under _ hm
    omega
  · rw [heap_alloc_old W _ hl, hr]
  · have : leftOf es #[] = es := by unfold leftOf; simp
    rw [this]
    exact he

theorem opw_next {ty : TypeId} {K : Value → World → Prop} (hA : AtF w M gs W) (hi : Itr w M gs W q r kf vf m rest cur) (h0 : rest = [] → K (.tuple #[.bool false]) W)
    (h1 : ∀ x r1 r2 w', rest = r1 ++ x :: r2 → AtF w M gs w' → Keeps gs W w' → Chg (fun b => b = q) W w' → Itr w M gs w' q r kf vf m (r1 ++ r2) (some x) → K (.tuple #[.bool true, kf x.1, vf x.2]) w') :
    OpW P (valueS (Instr.next (.pointer (some ⟨q, 0, none⟩)) false ty)) W K := by
  have hlt := hi.lts
  obtain ⟨es, clock, since, c0, seen, e1, e2, e3, e4, e5, e6, e7, e8, e9, _⟩ := hi.obj
  rcases run_next_at (P := P) W ty q r since c0 seen es clock e5 e1 e6 e7 with ⟨hz, hrun⟩ | ⟨e, hel, w1, hw1, hrun⟩
  · unfold OpW
    rw [run_valueS hrun]
    refine h0 ?_
    have : (leftOf es seen).toList = [] := List.eq_nil_of_length_eq_zero (by simpa using hz)
    rw [this] at e9
    unfold EntR at e9
    exact List.map_eq_nil_iff.1 e9.symm
  · obtain ⟨A, B, hAB⟩ := List.append_of_mem hel
    have hps := leftOf_push e3 hAB
    rw [hAB] at e9
    obtain ⟨x, r1, r2, hr0, he0, hk, hv⟩ : ∃ x r1 r2, rest = r1 ++ x :: r2 ∧ EntR kf vf (A ++ B) (r1 ++ r2) ∧ e.key = kf x.1 ∧ e.val = vf x.2 := by
      obtain ⟨r1, x, r2, a, b, c, d⟩ := EntR_split e9
      exact ⟨x, r1, r2, a, b, c, d⟩
    have hmem : e ∈ es.toList := by
      unfold leftOf at hel
      rw [Array.toList_filter] at hel
      exact (List.mem_filter.1 hel).1
    have hh : w1.heap = W.heap ∧ w1.os = W.os ∧ w1.tape = W.tape ∧ w1.output = W.output ∧ W.drawn ≤ w1.drawn := by
      rcases hw1 with rfl | rfl
      · exact ⟨rfl, rfl, rfl, rfl, Nat.le_refl _⟩
      · exact ⟨rfl, rfl, rfl, rfl, Nat.le_succ _⟩
    obtain ⟨a1, a2, a3, a4, a5⟩ := hh
    have hch : Chg (fun b => b = q) W (Go.ChangeMaps.setBlock w1 q (.mapIter (some r) since (seen.push e.born) clock)) :=
      ⟨a2, a3, a4, by simp [Go.ChangeMaps.setBlock, a1], fun b _ hb => by simp [Go.ChangeMaps.setBlock, a1, Ne.symm hb], a5⟩
    unfold OpW
    rw [run_valueS hrun, hk, hv]
    refine h1 x r1 r2 _ hr0 (hA.step hch fun b _ hb => hb ▸ hi.mine) (hA.keepsC hch fun g hg hb => hi.apart (hb ▸ hg)) hch ⟨hi.mine, hi.apart, es, clock, since, clock, seen.push e.born, ?_, e2, e3, e4, ?_, e6, e8, e8, ?_, fun y hy => ?_⟩
    · rw [hch.block r hlt.2.1 (Ne.symm hlt.2.2), e1]
    · have : q < w1.heap.size := by rw [a1]; exact hlt.1
      simp [Go.ChangeMaps.setBlock, this]
    · rw [hps]; exact he0
    · cases hy
      exact ⟨rfl, e, hmem, by simp, hk, hv⟩

theorem opw_entry {x : κ × α} {K : Value → World → Prop} (hi : Itr w M gs W q r kf vf m rest (some x)) (h : K (.tuple #[kf x.1, vf x.2]) W) : OpW P (valueS (Instr.entry (.pointer (some ⟨q, 0, none⟩)))) W K := by
  obtain ⟨es, clock, since, c0, seen, e1, e2, e3, e4, e5, e6, e7, e8, e9, e10⟩ := hi.obj
  obtain ⟨rfl, e, hem, hback, hk, hv⟩ := e10 x rfl
  obtain ⟨s, rfl⟩ := Array.back?_eq_some_iff.1 hback
  unfold OpW
  rw [run_valueS (run_entry_at (P := P) W q r since s es c0 e e5 e1 hem e3), hk, hv]
  exact h
end
end Go.Vc

/- vec.Copy, Same, Sub, Holds, Only. -/
set_option maxRecDepth 20000
namespace Go.Vc.V
open Go Go.Vc Go.RowKit Go.Proofs Vce

theorem succ_i (k : Nat) (h : k < 9223372036854775807) : IntKind.i64.wrap ((k : Int) + 1) = ((k + 1 : Nat) : Int) := by rw [wrap_i64 (by omega) (by omega)]; rfl
theorem part_len (x : PartT) : (partE x).length = 3 := rfl
theorem part_one (x : PartT) : ∀ u ∈ partE x, u.oneCell' = true := fun u hu => by
  simp at hu
  rcases hu with rfl | rfl | rfl <;> rfl
theorem part_cond (x y : PartT) : (x.1 == y.1 && (x.2.1 == y.2.1 && (x.2.2 == y.2.2 && true))) = decide (x = y) := by
  obtain ⟨a, b, c⟩ := x
  obtain ⟨a', b', c'⟩ := y
  rw [Bool.eq_iff_iff]
  simp
theorem slot_cond (x y : PartT) : (x.1 == y.1 && (x.2.1 == y.2.1 && true)) = decide (slotOf x = slotOf y) := by
  obtain ⟨a, b, c⟩ := x
  obtain ⟨a', b', c'⟩ := y
  rw [Bool.eq_iff_iff]
  simp [slotOf]

theorem c22 {l : List PartT} {a : Option Addr} {n c : Nat} (w : World) (hs : SlE w 3 partE l a n c) (hl : l.length ≤ 1000000) : RetL Try.prog 22 #[.slice a n c] w 55 3 partE l := by
  intro R h
  refine f22_calls a n c w R ?_
  unfold f22_vc
  have hn := hs.1
  subst hn
  refine opw_make (e := 55) (size := 3) (f := partE) (bytes := 24) (z := ((0, 0, 0) : PartT)) (by kernel_rfl) (At.refl w) ⟨_, _, rfl, rfl, by kernel_rfl⟩ (by omega) (by simp only [maxLen]; omega) fun w2 hA _ ho hg => ⟨_, _, _, rfl, ?_⟩
  have hb : Bel w w2 := hA.below
  refine opw_copyAll (bytes := 24) (by kernel_rfl) hA ho (hs.call hb) (by simp) (fun x _ => rfl) (fun x _ => rfl) (fun x _ => part_one x) fun w' hA _ _ ho => ⟨_, rfl, ?_⟩
  exact leafl h hA ho rfl


theorem c29 {l1 l2 : List PartT} {aa ba : Option Addr} {an ac bn bc : Nat} (w : World) (h1 : SlE w 3 partE l1 aa an ac) (h2 : SlE w 3 partE l2 ba bn bc) : Ret Try.prog 29 #[.slice aa an ac, .slice ba bn bc] w (.bool (decide (l1 = l2))) := by
  intro R h
  refine f29_calls aa an ac ba bn bc w R ?_
  unfold f29_vc
  have hn1 := h1.len_le
  have hn2 := h2.len_le
  refine brN (fun hne => leaf h (At.refl w) ?_) (fun he => ?_)
  · rw [decide_eq_false]
    rintro rfl
    exact hne (by rw [hn1.1, hn2.1])
  have he' : an = bn := by omega
  refine ⟨fun v w4 => ∃ i : Nat, v.1 = i ∧ At w [] w4 ∧ (∀ q, q < i → l1[q]? = l2[q]?), fun v _ => (an - v.1).toNat, ⟨0, rfl, At.refl w, fun q hq => by omega⟩, ?_⟩
  rintro x3 w4 ⟨i, hi, hA, hmin⟩
  simp only at hi
  subst hi
  refine brD (fun hlt => ?_) (fun hge => leaf h hA ?_)
  · obtain ⟨x, hx⟩ : ∃ x, l1[i]? = some x := ⟨_, List.getElem?_eq_getElem (by omega)⟩
    obtain ⟨y, hy⟩ : ∃ x, l2[i]? = some x := ⟨_, List.getElem?_eq_getElem (by omega)⟩
    obtain ⟨ad, g1, el, _⟩ := elt_at (P := Try.prog) (k := .i64) (t := 26) (h1.call hA.below) hx (e := 55) (by kernel_rfl) (by kernel_rfl)
    obtain ⟨ad2, g2, el2, _⟩ := elt_at (P := Try.prog) (k := .i64) (t := 26) (h2.call hA.below) hy (e := 55) (by kernel_rfl) (by kernel_rfl)
    refine ⟨ad, g1, _, _, _, el.agg 3 (by kernel_rfl) (by kernel_rfl) (by simp) (by simp), ad2, g2, _, _, _, el2.agg 3 (by kernel_rfl) (by kernel_rfl) (by simp) (by simp), ?_⟩
    rw [part_cond x y]
    refine brND (fun hne => go_below0 hA fun w13 hA => leaf h hA ?_) (fun he => go_below0 hA fun w14 hA => ?_)
    · rw [decide_eq_false]
      rintro rfl
      rw [hx] at hy
      exact hne (Option.some.inj hy)
    · rw [succ_i i (by omega)]
      refine ⟨⟨i + 1, rfl, hA, fun q hq => ?_⟩, by simp only; omega⟩
      by_cases hqi : q = i
      · subst hqi
        rw [hx, hy, he]
      · exact hmin q (by omega)
  · rw [decide_eq_true]
    apply List.ext_getElem?
    intro q
    by_cases hq : q < i
    · exact hmin q hq
    · rw [List.getElem?_eq_none (by omega), List.getElem?_eq_none (by omega)]
theorem c21 {l1 l2 : List PartT} {aa ba : Option Addr} {an ac bn bc : Nat} (w : World) (h1 : SlE w 3 partE l1 aa an ac) (h2 : SlE w 3 partE l2 ba bn bc) : Ret Try.prog 21 #[.slice aa an ac, .slice ba bn bc] w (.bool (decide (l1 = l2))) := by
  intro R h
  refine f21_calls aa an ac ba bn bc w R ?_
  unfold f21_vc
  have hn1 := h1.len_le
  have hn2 := h2.len_le
  refine brN (fun hne => leaf h (At.refl w) ?_) (fun he => ?_)
  · rw [decide_eq_false]
    rintro rfl
    exact hne (by rw [hn1.1, hn2.1])
  have he' : an = bn := by omega
  refine ⟨fun v w4 => ∃ i : Nat, v.1 = i ∧ At w [] w4 ∧ (∀ q, q < i → l1[q]? = l2[q]?), fun v _ => (an - v.1).toNat, ⟨0, rfl, At.refl w, fun q hq => by omega⟩, ?_⟩
  rintro x3 w4 ⟨i, hi, hA, hmin⟩
  simp only at hi
  subst hi
  refine brD (fun hlt => ?_) (fun hge => leaf h hA ?_)
  · obtain ⟨x, hx⟩ : ∃ x, l1[i]? = some x := ⟨_, List.getElem?_eq_getElem (by omega)⟩
    obtain ⟨y, hy⟩ : ∃ x, l2[i]? = some x := ⟨_, List.getElem?_eq_getElem (by omega)⟩
    obtain ⟨ad, g1, el, _⟩ := elt_at (P := Try.prog) (k := .i64) (t := 26) (h1.call hA.below) hx (e := 55) (by kernel_rfl) (by kernel_rfl)
    obtain ⟨ad2, g2, el2, _⟩ := elt_at (P := Try.prog) (k := .i64) (t := 26) (h2.call hA.below) hy (e := 55) (by kernel_rfl) (by kernel_rfl)
    refine ⟨ad, g1, _, _, _, el.agg 3 (by kernel_rfl) (by kernel_rfl) (by simp) (by simp), ad2, g2, _, _, _, el2.agg 3 (by kernel_rfl) (by kernel_rfl) (by simp) (by simp), ?_⟩
    rw [part_cond x y]
    refine brND (fun hne => go_below0 hA fun w13 hA => leaf h hA ?_) (fun he => go_below0 hA fun w14 hA => ?_)
    · rw [decide_eq_false]
      rintro rfl
      rw [hx] at hy
      exact hne (Option.some.inj hy)
    · rw [succ_i i (by omega)]
      refine ⟨⟨i + 1, rfl, hA, fun q hq => ?_⟩, by simp only; omega⟩
      by_cases hqi : q = i
      · subst hqi
        rw [hx, hy, he]
      · exact hmin q (by omega)
  · rw [decide_eq_true]
    apply List.ext_getElem?
    intro q
    by_cases hq : q < i
    · exact hmin q hq
    · rw [List.getElem?_eq_none (by omega), List.getElem?_eq_none (by omega)]
theorem c17 {l1 l2 : List PartT} {aa ba : Option Addr} {an ac bn bc : Nat} (w : World) (h1 : SlE w 3 partE l1 aa an ac) (h2 : SlE w 3 partE l2 ba bn bc) : Ret Try.prog 17 #[.slice aa an ac, .slice ba bn bc] w (.bool (decide (l1 = l2))) := by
  intro R h
  refine f17_calls aa an ac ba bn bc w R ?_
  unfold f17_vc
  exact at_callb (At.refl w) (c29 w h1 h2) fun w2 hA _ _ => ⟨_, rfl, leaf h hA rfl⟩

/-! ### Sub -/
theorem vsub_len : ∀ (a b c : List PartT), vsub a b = some c → c.length ≤ a.length
  | [], [], c, h => by rw [vsub] at h; cases h; simp
  | [], _ :: _, c, h => by rw [vsub] at h; cases h
  | p :: a, [], c, h => by
    rw [vsub] at h
    cases hv : vsub a [] with
    | none => rw [hv] at h; cases h
    | some d => rw [hv] at h; cases h; have := vsub_len a [] d hv; simp; omega
  | p :: a, q :: b, c, h => by
    rw [vsub] at h
    split at h
    · split at h
      · split at h
        · cases hv : vsub a b with
          | none => rw [hv] at h; cases h
          | some d => rw [hv] at h; cases h; have := vsub_len a b d hv; simp; omega
        · have := vsub_len a b c h; simp; omega
      · cases h
    · cases hv : vsub a (q :: b) with
      | none => rw [hv] at h; cases h
      | some d => rw [hv] at h; cases h; have := vsub_len a (q :: b) d hv; simp; omega

theorem c30 {l1 l2 : List PartT} {aa ba : Option Addr} {an ac bn bc : Nat} (w : World) (h1 : SlE w 3 partE l1 aa an ac) (h2 : SlE w 3 partE l2 ba bn bc) (hl1 : l1.length ≤ 1000000) :
    RetLB Try.prog 30 #[.slice aa an ac, .slice ba bn bc] w 55 3 partE (if vecB l1 = true ∧ vecB l2 = true then vout (vsub l1 l2) else []) (decide (vecB l1 = true ∧ vecB l2 = true) && (vsub l1 l2).isSome) := by
  intro R h
  refine f30_calls aa an ac ba bn bc w R ?_
  unfold f30_vc
  have hA := At.refl w
  have hn1 := h1.1
  refine at_callb hA (c25 w h1) fun w2 hA _ hb2 => ⟨_, rfl, brNB (fun hn => leaflb h hA OwnL.nil (by rw [if_neg (by rw [hn]; simp)]) (by rw [hn]; rfl)) (fun hv1 => ?_)⟩
  refine at_callb hA (c25 w2 (h2.call hb2)) fun w5 hA _ hb5 => ⟨_, rfl, brNB (fun hn => leaflb h hA OwnL.nil (by rw [if_neg (by rw [hn]; simp)]) (by rw [hn]; simp)) (fun hv2 => ?_)⟩
  rw [if_pos ⟨hv1, hv2⟩, decide_eq_true ⟨hv1, hv2⟩, Bool.true_and] at h
  have hp1 := (vecB_iff.1 hv1).1
  have hp2 := (vecB_iff.1 hv2).1
  refine ⟨fun v W => At w [] W ∧ ∃ (i : Nat) (b out : List PartT), v.2.2.1 = i ∧ i ≤ l1.length ∧ SlE w 3 partE b v.1.1 v.1.2.1 v.1.2.2 ∧ OwnL w [] W 55 3 partE (.slice v.2.1.1 v.2.1.2.1 v.2.1.2.2) out ∧ out.length ≤ i ∧ (∀ p ∈ b, partR p) ∧ (vsub (l1.drop i) b).map (out ++ ·) = vsub l1 l2, fun v _ => (l1.length - v.2.2.1).toNat,
    ⟨hA, 0, l2, [], rfl, Nat.zero_le _, h2, OwnL.nil, by simp, hp2, by simp⟩, ?_⟩
  rintro a9 n10 n11 a12 n13 n14 x15 w16 ⟨hA, i, b, out, hi, hil, hb, ho, hol, hpb, hg⟩
  simp only at hi hb ho
  subst hi
  have hnb := hb.1
  have hno := ho.len
  subst hnb hno
  refine brD (fun hlt => ?_) (fun hge => ?_)
  · obtain ⟨p, hp⟩ : ∃ x, l1[i]? = some x := ⟨_, List.getElem?_eq_getElem (by omega)⟩
    have hpr := hp1 p (List.mem_of_getElem? hp)
    rw [drop_cons hp] at hg
    obtain ⟨ad, g1, el, _⟩ := elt_at (P := Try.prog) (k := .i64) (t := 26) (h1.call hA.below) hp (e := 55) (by kernel_rfl) (by kernel_rfl)
    refine ⟨fun v W => At w [] W ∧ ∃ (b' out' : List PartT), SlE w 3 partE b' v.1.1 v.1.2.1 v.1.2.2 ∧ OwnL w [] W 55 3 partE (.slice v.2.1.1 v.2.1.2.1 v.2.1.2.2) out' ∧ out'.length ≤ i + 1 ∧ (∀ p ∈ b', partR p) ∧ (vsub (l1.drop (i + 1)) b').map (out' ++ ·) = vsub l1 l2, ⟨⟨ad, g1, _, _, _, el.agg 3 (by kernel_rfl) (by kernel_rfl) (by simp) (by simp), ?_⟩, ?_⟩⟩
    · intro n22 hn22
      refine ⟨fun v W => At w [n22] W ∧ OwnL w [n22] W 55 3 partE (.slice a12 out.length n14) out ∧ v.2.1 = p.1 ∧ v.2.2.1 = p.2.1 ∧ ∃ b' : List PartT, SlE w 3 partE b' v.1.1 v.1.2.1 v.1.2.2 ∧ (∀ p ∈ b', partR p) ∧ 0 ≤ v.2.2.2.1 ∧ (if 0 < v.2.2.2.1 then (vsub (l1.drop (i + 1)) b').map (out ++ [(p.1, p.2.1, v.2.2.2.1)] ++ ·) else (vsub (l1.drop (i + 1)) b').map (out ++ ·)) = vsub l1 l2, ⟨⟨?_, ?_⟩, ?_⟩⟩
      · intro hb0
        have hb0 : 0 < b.length := by simpa using hb0
        obtain ⟨q, t, rfl⟩ : ∃ q t, b = q :: t := by
          cases b with
          | nil => simp at hb0
          | cons q t => exact ⟨q, t, rfl⟩
        have hqr := hpb q (by simp)
        obtain ⟨ad2, g2, el2, _⟩ := elt_at (P := Try.prog) (k := .i64) (t := 26) (i := 0) (hb.call hA.below) rfl (e := 55) (by kernel_rfl) (by kernel_rfl)
        refine ⟨ad2, g2, _, _, _, el2.agg 3 (by kernel_rfl) (by kernel_rfl) (by simp) (el2.far (by simpa using hn22)), ?_⟩
        intro w28 hev hun
        have hbel := hev.bel (by simpa using hn22)
        have ho28 : OwnL w [n22] w28 55 3 partE (.slice a12 out.length n14) out := (ho.more (gs' := [n22]) (by intro g h1 _; simp at h1; omega)).call hbel
        have hA28 : At w [n22] w28 := ⟨(hA.call hbel).chg, hun⟩
        refine at_callb hA28 (c35 _ _ _ w28) fun w30 hA hk hb30 => ⟨_, _, rfl, hk, ?_⟩
        refine at_callb hA (c35 _ _ _ w30) fun w34 hA hk hb34 => ⟨_, _, rfl, hk, ?_⟩
        have ho34 := (ho28.call hb30).call hb34
        rw [slot_cond q p]
        refine brD (fun he => ?_) (fun hne => ?_)
        · obtain ⟨ad3, g3, el3, _⟩ := elt_at (P := Try.prog) (k := .i64) (t := 26) (i := 0) (hb.call hA.below) rfl (e := 55) (by kernel_rfl) (by kernel_rfl)
          refine ⟨ad3, g3, _, (el3.sub (o := 2) (by decide)).one (by kernel_rfl) (by simp), go_below_too hA fun w39 hA hb39 => ?_⟩
          refine at_callb hA (c40 p.2.2 q.2.2 (by have := hpr.2; unfold I64; omega) w39) fun w41 hA hk hb41 => ?_
          unfold qsub
          have hq0 := hqr.2
          by_cases hle : q.2.2 ≤ p.2.2
          · rw [if_neg (by omega)]
            refine ⟨_, _, rfl, hk, brB (fun e => by cases e) (fun _ => ?_)⟩
            obtain ⟨a', g4, k4⟩ := gives_from (P := Try.prog) (t := 26) (e := 55) (k := .i64) (i := 1) hb (by simp) (by kernel_rfl) (by kernel_rfl)
            have s4 := k4 w hb
            rw [List.drop_one, List.tail_cons] at s4
            refine ⟨_, _, _, g4, ?_⟩
            intro w47 hev hun
            have hsz := hA.size
            refine ⟨⟨(hA.evo (gs' := [n22]) (by intro d hd; simp at hd; have := ‹At w [] w16›.size; omega) hev hun).chg, hun⟩, ?_, rfl, rfl, t, s4, fun x hx => hpb x (by simp [hx]), by simp only; omega, ?_⟩
            · exact ((ho34.call hb39).call hb41).evo (by intro d hd h2; simp at hd h2; omega) hev
            · simp only
              rw [vsub, if_pos he, if_pos hle] at hg
              rw [← hg]
              split
              · rw [map_append]
              · rfl
          · rw [if_pos (by omega)]
            refine ⟨_, _, rfl, hk, brB (fun _ => ?_) (fun e => by cases e)⟩
            have : vsub l1 l2 = none := by rw [← hg, vsub, if_pos he, if_neg hle]; rfl
            exact leaflb h hA OwnL.nil (by rw [this]; rfl) (by rw [this]; rfl)
        · have hp0 := hpr.2
          refine ⟨hA, ho34, rfl, rfl, q :: t, hb, hpb, by simp only; omega, ?_⟩
          simp only
          rw [if_pos (by omega)]
          rw [vsub, if_neg hne] at hg
          rw [← hg, map_append]
      · intro hb0
        have hb0 : b = [] := List.eq_nil_of_length_eq_zero (by simpa using hb0)
        subst hb0
        intro w48 hev hun
        have hbel := hev.bel (by simpa using hn22)
        have hp0 := hpr.2
        refine ⟨⟨(hA.call hbel).chg, hun⟩, (ho.more (gs' := [n22]) (by intro g h1 _; simp at h1; omega)).call hbel, rfl, rfl, [], hb, by simp, by simp only; omega, ?_⟩
        simp only
        rw [if_pos (by omega)]
        rw [vsub] at hg
        rw [← hg, map_append]
      · rintro a49 n50 n51 x52 x53 x54 w55 ⟨hA, ho, e1, e2, b', hb', hpb', hx0, hg'⟩
        simp only at e1 e2 hb' hx0 hg'
        subst e1 e2
        refine brD (fun hpos => ?_) (fun hz => ?_)
        · rw [if_pos hpos] at hg'
          refine opw_push (e' := 55) (bytes := 24) hA ho (p.1, p.2.1, x54) (by kernel_rfl) (by kernel_rfl) rfl (fun _ _ => rfl) (part_one _) (by omega) (by decide) fun a2 c2 w62 hA ho _ _ => ⟨hA.off, b', _, hb', ho.more (by simp), by simp; omega, hpb', hg'⟩
        · rw [if_neg hz] at hg'
          exact ⟨hA.off, b', out, hb', ho.more (by simp), by omega, hpb', hg'⟩
    · rintro a66 n67 n68 a69 n70 n71 w72 ⟨hA, b', out', hb', ho', hol', hpb', hg'⟩
      rw [succ_i i (by omega)]
      exact ⟨⟨hA, i + 1, b', out', rfl, by omega, hb', ho', hol', hpb', hg'⟩, by simp only; omega⟩
  · rw [List.drop_of_length_le (by omega)] at hg
    refine brD (fun hpos => ?_) (fun hz => ?_)
    · obtain ⟨q, t, rfl⟩ : ∃ q t, b = q :: t := by
        cases b with
        | nil => simp at hpos
        | cons q t => exact ⟨q, t, rfl⟩
      have : vsub l1 l2 = none := by rw [← hg, vsub]; rfl
      exact leaflb h hA OwnL.nil (by rw [this]; rfl) (by rw [this]; rfl)
    · have hb0 : b = [] := List.eq_nil_of_length_eq_zero (by omega)
      subst hb0
      rw [vsub] at hg
      have : vsub l1 l2 = some out := by rw [← hg]; simp
      exact leaflb h hA ho (by rw [this]; rfl) (by rw [this]; rfl)

theorem c18 {l1 l2 : List PartT} {aa ba : Option Addr} {an ac bn bc : Nat} (w : World) (h1 : SlE w 3 partE l1 aa an ac) (h2 : SlE w 3 partE l2 ba bn bc) (hl1 : l1.length ≤ 1000000) : Ret Try.prog 18 #[.slice aa an ac, .slice ba bn bc] w (.bool (decide (vecB l1 = true ∧ vecB l2 = true) && (vsub l1 l2).isSome)) := by
  intro R h
  refine f18_calls aa an ac ba bn bc w R ?_
  unfold f18_vc
  exact at_calllb (At.refl w) (c30 w h1 h2 hl1) (fun _ _ => rfl) fun a c w2 hA _ _ _ _ => ⟨_, _, _, _, rfl, leaf h hA rfl⟩

/-! ### Only -/
theorem c41 {l : List Int} {a : Option Addr} {n c : Nat} (v : Int) (w : World) (hs : SlE w 1 one l a n c) : RetQ Try.prog 41 #[.slice a n c, .int .i64 v] w fun u _ => ∃ i : Int, u = .int .i64 i ∧ (i ≥ 0 ↔ v ∈ l) := by
  intro R h
  refine f41_calls a n c v w R ?_
  unfold f41_vc
  have hn := hs.len_le
  refine ⟨fun s W => At w [] W ∧ ∃ k : Nat, s.1 = k ∧ k ≤ l.length ∧ ∀ q, q < k → ∀ y, l[q]? = some y → y ≠ v, fun s _ => (n - s.1).toNat, ⟨At.refl w, 0, rfl, Nat.zero_le _, fun q hq => by omega⟩, ?_⟩
  rintro x3 w4 ⟨hA, k, hk, hkl, hmin⟩
  simp only at hk
  subst hk
  refine brD (fun hlt => ?_) (fun hge => ?_)
  · obtain ⟨x, hx⟩ : ∃ x, l[k]? = some x := ⟨_, List.getElem?_eq_getElem (by omega)⟩
    obtain ⟨ad, g1, r1⟩ := rd_one (te := 3) (ds := []) (k := .i64) (t := 64) (P := Try.prog) (e := 3) (hs.call hA.below) hx rfl (by kernel_rfl) (by kernel_rfl) (by kernel_rfl) (fun _ h => by cases h)
    refine ⟨ad, g1, _, r1, brE (fun he => leafq h hA ⟨_, rfl, ?_⟩) (fun hne => ?_)⟩
    · exact ⟨fun _ => by rw [he]; exact List.mem_of_getElem? hx, fun _ => by omega⟩
    · rw [succ_i k (by omega)]
      refine ⟨⟨hA, k + 1, rfl, by omega, fun q hq y hy => ?_⟩, by simp only; omega⟩
      by_cases hqk : q = k
      · subst hqk
        rw [hx] at hy
        cases hy
        exact fun e => hne e.symm
      · exact hmin q (by omega) y hy
  · refine leafq h hA ⟨_, rfl, ⟨fun hh => by omega, fun hm => ?_⟩⟩
    obtain ⟨q, hq⟩ := List.mem_iff_getElem?.1 hm
    have := (List.getElem?_eq_some_iff.1 hq).1
    exact absurd rfl (hmin q (by omega) v hq)
theorem c31 {l : List Int} {a : Option Addr} {n c : Nat} (v : Int) (w : World) (hs : SlE w 1 one l a n c) : Ret Try.prog 31 #[.slice a n c, .int .i64 v] w (.bool (decide (v ∈ l))) := by
  intro R h
  refine f31_calls a n c v w R ?_
  unfold f31_vc
  refine at_callq (At.refl w) (c41 v w hs) fun u w2 hA _ _ ⟨i, e, hi⟩ => ?_
  subst e
  exact ⟨_, rfl, leaf h hA (congrArg (fun b => Ending.returned (.bool b)) (decide_eq_decide.2 hi))⟩
/-- What is of some roles. -/
def onlyL (l : List PartT) (roles : List Int) : List PartT := if vecB l = true then l.filter fun p => decide (p.2.1 ∈ roles) else []
theorem c19 {l : List PartT} {roles : List Int} {a ra : Option Addr} {n c rn rc : Nat} (w : World) (hs : SlE w 3 partE l a n c) (hr : SlE w 1 one roles ra rn rc) (hl : l.length ≤ 1000000) : RetL Try.prog 19 #[.slice a n c, .slice ra rn rc] w 55 3 partE (onlyL l roles) := by
  intro R h
  refine f19_calls a n c ra rn rc w R ?_
  unfold f19_vc
  have hn := hs.len_le.1
  refine ⟨fun v W => At w [] W ∧ ∃ i : Nat, v.2.1 = i ∧ i ≤ l.length ∧ OwnL w [] W 55 3 partE (.slice v.1.1 v.1.2.1 v.1.2.2) (if vecB l = true then (l.take i).filter fun p => decide (p.2.1 ∈ roles) else []), fun v _ => (n - v.2.1).toNat, ⟨At.refl w, 0, rfl, Nat.zero_le _, by simp only [List.take_zero, List.filter_nil, ite_self]; exact OwnL.nil⟩, ?_⟩
  rintro a3 n4 n5 x6 w7 ⟨hA, i, hi, hil, ho⟩
  simp only at hi ho
  subst hi
  refine brD (fun hlt => ?_) (fun hge => leafl h hA ho ?_)
  · obtain ⟨p, hp⟩ : ∃ x, l[i]? = some x := ⟨_, List.getElem?_eq_getElem (by omega)⟩
    obtain ⟨ad, g1, el, _⟩ := elt_at (P := Try.prog) (k := .i64) (t := 26) (hs.call hA.below) hp (e := 55) (by kernel_rfl) (by kernel_rfl)
    have htk : l.take (i + 1) = l.take i ++ [p] := by rw [List.take_add_one, hp]; rfl
    refine ⟨ad, g1, _, _, _, el.agg 3 (by kernel_rfl) (by kernel_rfl) (by simp) (by simp), ?_⟩
    intro n12 hn12 w13 hev hun
    have hbel := hev.bel (by simpa using hn12)
    have hA : At w [n12] w13 := ⟨(hA.call hbel).chg, hun⟩
    have ho := (ho.more (gs' := [n12]) (by intro g h1 _; simp at h1; omega)).call hbel
    refine at_callb hA (c31 p.2.1 w13 (hr.call hA.below)) fun w15 hA hk hb => ⟨_, rfl, hk, ?_⟩
    have ho := ho.call hb
    have hol : ((l.take i).filter fun p => decide (p.2.1 ∈ roles)).length ≤ i := Nat.le_trans (List.length_filter_le ..) (by simp; omega)
    rw [succ_i i (by omega)]
    refine brD (fun hm => ?_) (fun hm => ?_)
    · refine at_callb hA (c25 w15 (hs.call hA.below)) fun w18 hA hk hb => ⟨_, rfl, hk, ?_⟩
      have ho := ho.call hb
      refine brB (fun hv => ?_) (fun hv => ?_)
      · rw [if_pos hv] at ho
        refine opw_push (e' := 55) (bytes := 24) hA ho p (by kernel_rfl) (by kernel_rfl) rfl (fun _ _ => rfl) (part_one _) (by omega) (by decide) fun a2 c2 w26 hA ho _ _ => ?_
        refine ⟨⟨hA.off, i + 1, rfl, by omega, ?_⟩, by simp only; omega⟩
        simp only
        rw [if_pos hv, htk, List.filter_append, List.filter_cons, if_pos (by simpa using hm)]
        exact ho.more (by simp)
      · have hv' : ¬ vecB l = true := by rw [hv]; decide
        rw [if_neg hv'] at ho
        refine ⟨⟨hA.off, i + 1, rfl, by omega, ?_⟩, by simp only; omega⟩
        simp only
        rw [if_neg hv']
        exact ho.more (by simp)
    · refine ⟨⟨hA.off, i + 1, rfl, by omega, ?_⟩, by simp only; omega⟩
      simp only
      have e : (l.take i ++ [p]).filter (fun p => decide (p.2.1 ∈ roles)) = (l.take i).filter fun p => decide (p.2.1 ∈ roles) := by
        rw [List.filter_append, List.filter_cons_of_neg (by simpa using hm), List.filter_nil, List.append_nil]
      rw [htk, e]
      exact ho.more (by simp)
  · unfold onlyL
    rw [List.take_of_length_le (by omega)]
end Go.Vc.V

/- vec.Add. -/
set_option maxRecDepth 20000
namespace Go.Vc.V
open Go Go.Vc Go.RowKit Go.Proofs Vce

theorem c45 {l1 l2 : List PartT} {aa ba : Option Addr} {an ac bn bc : Nat} (w : World) (h1 : SlE w 3 partE l1 aa an ac) (h2 : SlE w 3 partE l2 ba bn bc) (hl1 : l1.length ≤ 1000000) (hl2 : l2.length ≤ 1000000) :
    RetLB Try.prog 45 #[.slice aa an ac, .slice ba bn bc] w 55 3 partE (if vecB l1 = true ∧ vecB l2 = true then vout (vadd l1 l2) else []) (decide (vecB l1 = true ∧ vecB l2 = true) && (vadd l1 l2).isSome) := by
  intro R h
  refine f45_calls aa an ac ba bn bc w R ?_
  unfold f45_vc
  have hA := At.refl w
  refine at_call hA (c25 _ h1) (fun _ hA hk => ?_)
  first | refine ⟨_, rfl, ?_⟩ | refine ⟨_, _, rfl, ?_⟩ | refine ⟨_, _, _, rfl, ?_⟩ | refine ⟨_, _, _, _, rfl, ?_⟩ | refine ⟨_, _, _, _, _, rfl, ?_⟩ | refine ⟨_, _, _, _, _, _, rfl, ?_⟩ | refine ⟨_, _, _, _, _, _, _, rfl, ?_⟩ | refine ⟨_, _, _, _, _, _, _, _, rfl, ?_⟩
  refine brNB (fun hn => leaflb h hA OwnL.nil (by rw [if_neg (by rw [hn]; simp)]) (by rw [hn]; rfl)) (fun hv1 => ?_)
  refine at_call hA (c25 _ (h2.call hA.below)) (fun _ hA hk => ?_)
  first | refine ⟨_, rfl, ?_⟩ | refine ⟨_, _, rfl, ?_⟩ | refine ⟨_, _, _, rfl, ?_⟩ | refine ⟨_, _, _, _, rfl, ?_⟩ | refine ⟨_, _, _, _, _, rfl, ?_⟩ | refine ⟨_, _, _, _, _, _, rfl, ?_⟩ | refine ⟨_, _, _, _, _, _, _, rfl, ?_⟩ | refine ⟨_, _, _, _, _, _, _, _, rfl, ?_⟩
  refine brNB (fun hn => leaflb h hA OwnL.nil (by rw [if_neg (by rw [hn]; simp)]) (by rw [hn]; simp)) (fun hv2 => ?_)
  rw [if_pos ⟨hv1, hv2⟩, decide_eq_true ⟨hv1, hv2⟩, Bool.true_and] at h
  refine ⟨fun s W => At w [] W ∧ ∃ (a b out : List PartT), SlE w 3 partE a s.1.1 s.1.2.1 s.1.2.2 ∧ SlE w 3 partE b s.2.1.1 s.2.1.2.1 s.2.1.2.2 ∧ OwnL w [] W 55 3 partE (.slice s.2.2.1.1 s.2.2.1.2.1 s.2.2.1.2.2) out ∧ out.length + a.length + b.length ≤ l1.length + l2.length ∧ (∀ p ∈ a, partR p) ∧ (∀ p ∈ b, partR p) ∧ (vadd a b).map (out ++ ·) = vadd l1 l2, fun s _ => s.1.2.1 + s.2.1.2.1,
    ⟨hA, l1, l2, [], h1, h2, OwnL.nil, by simp, (vecB_iff.1 hv1).1, (vecB_iff.1 hv2).1, by simp⟩, ?_⟩
  rintro a9 n10 n11 a12 n13 n14 a15 n16 n17 W ⟨hA, a, b, out, ha, hb, ho, hlen, hpa, hpb, hg⟩
  simp only at ha hb ho
  have hna := ha.1
  have hnb := hb.1
  have hno := ho.len
  subst hna hnb hno
  -- places and values
  have rdh : ∀ {W : World} {gs : List Nat} {p : PartT} {r l : List PartT} {aa : Option Addr} {an ac : Nat}, At w gs W → l = p :: r → SlE w 3 partE l aa an ac → ∃ ad, Gives Try.prog (Instr.indexAt 26 (.slice aa an ac) (.int .i64 0)) (.pointer (some ad)) ∧ (Reads Try.prog [] (Instr.loadAt 55 (.pointer (some ad))) W (partV p)) ∧ Elt W ad (partE p) := by
    intro W gs p r l aa an ac hA hl hs
    subst hl
    obtain ⟨ad, g, e, _⟩ := elt_at (P := Try.prog) (t := 26) (e := 55) (k := .i64) (i := 0) (hs.call hA.below) rfl (by kernel_rfl) (by kernel_rfl)
    exact ⟨ad, g, Elt.agg 3 e (by kernel_rfl) (by kernel_rfl) (by simp) no_ds, e⟩
  have rest : ∀ {p : PartT} {r l : List PartT} {aa : Option Addr} {ac : Nat}, l = p :: r → SlE w 3 partE l aa l.length ac → ∃ a', Gives Try.prog (Instr.sliceAt 26 (.slice aa l.length ac) (some (.int .i64 1)) none none) (.slice a' (l.length - 1) (ac - 1)) ∧ SlE w 3 partE r a' (l.length - 1) (ac - 1) := by
    intro p r l aa ac hl hs
    obtain ⟨a', g, k⟩ := gives_from (P := Try.prog) (t := 26) (e := 55) (k := .i64) (i := 1) hs (by rw [hl]; simp) (by kernel_rfl) (by kernel_rfl)
    have := k w hs
    rw [hl, List.drop_one, List.tail_cons] at this
    rw [hl] at g ⊢
    exact ⟨a', g, this⟩
  have hlp : ∀ x : PartT, (partE x).length = 3 := fun x => rfl
  have oc : ∀ x : PartT, ∀ u ∈ partE x, u.oneCell' = true := fun x u hu => by
    simp at hu
    rcases hu with rfl | rfl | rfl <;> rfl
  -- one of the two, or both, are there
  refine ⟨fun _ W' => W' = W ∧ ¬ (a = [] ∧ b = []), brD (fun hp => ⟨rfl, fun hh => by rw [hh.1] at hp; simp at hp⟩) (fun hp => brD (fun hq => ⟨rfl, fun hh => by rw [hh.2] at hq; simp at hq⟩) (fun hq => ?_)), ?_⟩
  · have e1 : a = [] := List.eq_nil_of_length_eq_zero (by omega)
    have e2 : b = [] := List.eq_nil_of_length_eq_zero (by omega)
    subst e1 e2
    rw [vadd_nil] at hg
    simp at hg
    exact leaflb h hA ho (by rw [← hg]; rfl) (by rw [← hg]; rfl)
  rintro _ ⟨rfl, hne⟩
  -- is the first of a the next?
  refine ⟨fun s W' => At w [] W' ∧ OwnL w [] W' 55 3 partE (.slice a15 out.length n17) out ∧ (s.1 = true ↔ ∃ p r, a = p :: r ∧ (b = [] ∨ ∃ q t, b = q :: t ∧ slt p q)), ?_, ?_⟩
  · refine ⟨fun he => go_below0_too hA fun _ hA hb => ⟨hA, ho.call hb, ⟨fun _ => ?_, fun _ => rfl⟩⟩, fun he => brD (fun hp => ?_) (fun hp => go_below0_too hA fun _ hA hb => ⟨hA, ho.call hb, ⟨fun h => (by cases h), fun ⟨p, r, h, _⟩ => ?_⟩⟩)⟩
    · have e2 : b = [] := List.eq_nil_of_length_eq_zero (by simpa using he)
      cases a with
      | nil => exact absurd ⟨rfl, e2⟩ hne
      | cons p r => exact ⟨p, r, rfl, .inl e2⟩
    · obtain ⟨p, r, rfl⟩ : ∃ p r, a = p :: r := by
        cases a with
        | nil => simp at hp
        | cons p r => exact ⟨p, r, rfl⟩
      obtain ⟨q, t, rfl⟩ : ∃ p r, b = p :: r := by
        cases b with
        | nil => simp at he
        | cons p r => exact ⟨p, r, rfl⟩
      obtain ⟨ad, g1, r1, _⟩ := rdh hA rfl ha
      obtain ⟨ad2, g2, r2, e2⟩ := rdh hA rfl hb
      refine ⟨_, g1, _, _, _, r1, _, g2, _, _, _, r2, go_below0_too hA fun w31 hA hb31 => ?_⟩
      refine at_callb hA (c35 _ _ _ _) (fun w33 hA hk hb33 => ⟨_, _, rfl, fun W hW => r2 W (Below_tr hb31 (Below_tr hb33 hW)), ?_⟩)
      refine at_callb hA (c35 _ _ _ _) (fun w37 hA hk hb37 => ⟨_, _, rfl, ?_⟩)
      refine at_callb hA (c37 _ _ _ _ _) (fun w41 hA hk hb41 => ⟨_, rfl, hA, (((ho.call hb31).call hb33).call hb37).call hb41, ?_⟩)
      simp only [decide_eq_true_eq, slotC_lt]
      exact ⟨fun h => ⟨p, r, rfl, .inr ⟨q, t, rfl, h⟩⟩, fun ⟨p', r', h1, h2⟩ => by
        cases h1
        rcases h2 with h2 | ⟨q', t', h2, h3⟩
        · cases h2
        · cases h2; exact h3⟩
    · rw [h] at hp
      simp at hp
  rintro b44 W2 ⟨hA2, ho2, hfa⟩
  simp only at hfa
  have hlen1 : l1.length + l2.length ≤ 2000000 := by omega
  have push : ∀ {W : World} {gs : List Nat} (x : PartT), At w gs W → OwnL w gs W 55 3 partE (.slice a15 out.length n17) out → ∀ {K : Option Addr → Nat → Nat → World → Prop}, (a ≠ [] ∨ b ≠ []) →
      (∀ a' c' w2, At w gs w2 → OwnL w gs w2 55 3 partE (.slice a' (out ++ [x]).length c') (out ++ [x]) → W.grownBy w2 (Value.slice a15 out.length n17).ownBlock → ((Value.slice a' (out ++ [x]).length c').ownBlock = (Value.slice a15 out.length n17).ownBlock ∨ ∀ k, (Value.slice a' (out ++ [x]).length c').ownBlock = some k → W.heap.size ≤ k) → K a' (out ++ [x]).length c' w2) →
      OpW Try.prog (valueS (Instr.buildSlice 26 1 #[(0, partV x)])) W fun v w1 => ∃ a1 n1 c1, v = .slice a1 n1 c1 ∧ OpW Try.prog (builtin .append #[26, 26] 26 #[false, false] #[.slice a15 out.length n17, .slice a1 n1 c1]) w1 fun v w2 => ∃ a2 n2 c2, v = .slice a2 n2 c2 ∧ K a2 n2 c2 w2 := by
    intro W gs x hA ho K hab h
    refine opw_push0 (e' := 55) (bytes := 24) hA ho x (by kernel_rfl) (by kernel_rfl) rfl (fun y _ => rfl) (oc x) ?_ (by decide) h
    have : 0 < a.length + b.length := by
      rcases hab with h | h
      · have := List.length_pos_iff.2 h; omega
      · have := List.length_pos_iff.2 h; omega
    omega
  refine brB (fun hb44 => ?_) (fun hb44 => ?_)
  · obtain ⟨p, r, rfl, hq⟩ := hfa.1 hb44
    obtain ⟨ad, g1, r1, _⟩ := rdh hA2 rfl ha
    obtain ⟨a', g2, s2⟩ := rest rfl ha
    refine ⟨_, g1, _, _, _, r1, _, _, _, g2, go_below0_too hA2 fun w53 hA hb53 => ?_⟩
    refine push p hA (ho2.call hb53) (.inl (by simp)) fun a2 c2 w60 hA ho _ _ => ⟨⟨hA, r, b, out ++ [p], s2, hb, ho, by simp at hlen ⊢; omega, fun x hx => hpa x (List.mem_cons_of_mem _ hx), hpb, ?_⟩, by simp only [List.length_cons]; omega⟩
    rw [← hg]
    rcases hq with rfl | ⟨q, t, rfl, hlt⟩
    · rw [vadd_nil', vadd_nil']
      simp
    · rw [vadd_lt hlt, map_append]
  have hna : ∀ p r, a = p :: r → ∃ q t, b = q :: t ∧ ¬ slt p q := by
    intro p r hap
    cases hbq : b with
    | nil => exact absurd (hfa.2 ⟨p, r, hap, .inl hbq⟩) (by rw [hb44]; decide)
    | cons q t => exact ⟨q, t, rfl, fun hlt => absurd (hfa.2 ⟨p, r, hap, .inr ⟨q, t, hbq, hlt⟩⟩) (by rw [hb44]; decide)⟩
  refine ⟨fun s W' => At w [] W' ∧ OwnL w [] W' 55 3 partE (.slice a15 out.length n17) out ∧ (s.1 = true ↔ ∃ q t, b = q :: t ∧ (a = [] ∨ ∃ p r, a = p :: r ∧ slt q p)), ?_, ?_⟩
  · refine ⟨fun he => go_below0_too hA2 fun _ hA hb => ⟨hA, ho2.call hb, ⟨fun _ => ?_, fun _ => rfl⟩⟩, fun he => ?_⟩
    · have e1 : a = [] := List.eq_nil_of_length_eq_zero (by simpa using he)
      cases b with
      | nil => exact absurd ⟨e1, rfl⟩ hne
      | cons q t => exact ⟨q, t, rfl, .inl e1⟩
    · obtain ⟨p, r, rfl⟩ : ∃ p r, a = p :: r := by
        cases a with
        | nil => simp at he
        | cons p r => exact ⟨p, r, rfl⟩
      obtain ⟨q, t, rfl, hnl⟩ := hna p r rfl
      obtain ⟨ad, g1, r1, _⟩ := rdh hA2 rfl ha
      obtain ⟨ad2, g2, r2, e2⟩ := rdh hA2 rfl hb
      refine ⟨_, g1, _, _, _, r1, _, g2, _, _, _, r2, go_below0_too hA2 fun w31 hA hb31 => ?_⟩
      refine at_callb hA (c35 _ _ _ _) (fun w33 hA hk hb33 => ⟨_, _, rfl, fun W hW => r2 W (Below_tr hb31 (Below_tr hb33 hW)), ?_⟩)
      refine at_callb hA (c35 _ _ _ _) (fun w37 hA hk hb37 => ⟨_, _, rfl, ?_⟩)
      refine at_callb hA (c37 _ _ _ _ _) (fun w41 hA hk hb41 => ⟨_, rfl, hA, (((ho2.call hb31).call hb33).call hb37).call hb41, ?_⟩)
      simp only [decide_eq_true_eq, slotC_gt]
      exact ⟨fun h => ⟨q, t, rfl, .inr ⟨p, r, rfl, h⟩⟩, fun ⟨q', t', h1, h2⟩ => by
        cases h1
        rcases h2 with h2 | ⟨p', r', h2, h3⟩
        · cases h2
        · cases h2; exact h3⟩
  rintro b86 W3 ⟨hA3, ho3, hfb⟩
  simp only at hfb
  refine brB (fun hb86 => ?_) (fun hb86 => ?_)
  · obtain ⟨q, t, rfl, hq⟩ := hfb.1 hb86
    obtain ⟨ad, g1, r1, _⟩ := rdh hA3 rfl hb
    obtain ⟨a', g2, s2⟩ := rest rfl hb
    refine ⟨_, g1, _, _, _, r1, _, _, _, g2, go_below0_too hA3 fun w53 hA hb53 => ?_⟩
    refine push q hA (ho3.call hb53) (.inr (by simp)) fun a2 c2 w60 hA ho _ _ => ⟨⟨hA, a, t, out ++ [q], ha, s2, ho, by simp at hlen ⊢; omega, hpa, fun x hx => hpb x (List.mem_cons_of_mem _ hx), ?_⟩, by simp only [List.length_cons]; omega⟩
    rw [← hg]
    rcases hq with rfl | ⟨p, r, rfl, hlt⟩
    · rw [vadd_nil, vadd_nil]
      simp
    · obtain ⟨q', t', h1, h2⟩ := hna p r rfl
      cases h1
      rw [vadd_gt h2 hlt, map_append]
  obtain ⟨p, r, rfl⟩ : ∃ p r, a = p :: r := by
    cases a with
    | nil =>
      cases b with
      | nil => exact absurd ⟨rfl, rfl⟩ hne
      | cons q t => exact absurd (hfb.2 ⟨q, t, rfl, .inl rfl⟩) (by rw [hb86]; decide)
    | cons p r => exact ⟨p, r, rfl⟩
  obtain ⟨q, t, rfl, hn1⟩ := hna p r rfl
  have hn2 : ¬ slt q p := fun hlt => absurd (hfb.2 ⟨q, t, rfl, .inr ⟨p, r, rfl, hlt⟩⟩) (by rw [hb86]; decide)
  rw [vadd_eq hn1 hn2] at hg
  have bp := (hpa p (List.mem_cons_self ..)).2
  have bq := (hpb q (List.mem_cons_self ..)).2
  obtain ⟨ad, g1, r1, _⟩ := rdh hA3 rfl ha
  obtain ⟨ad2, g2, r2, e2⟩ := rdh hA3 rfl hb
  refine ⟨_, g1, _, _, _, r1, fun n110 hn110 => ⟨_, g2, _, (e2.sub (o := 2) (by decide)).one (by kernel_rfl) (e2.far (by intro d hd; simp at hd; omega)), ?_⟩⟩
  have hsz := hA3.size
  refine go_evo_too hA3 (by intro d hd; simp at hd; omega) fun w113 hA hev => ?_
  have ho113 := (ho3.more (gs' := [n110]) (by intro g h1 h2; simp at h1; omega)).evo (by intro d hd h2; simp at hd h2; omega) hev
  refine at_callb hA (c38 p.2.2 q.2.2 9007199254740992 (by unfold I64; omega) (by unfold I64; omega) (by unfold I64; omega) _) (fun w115 hA hk hb115 => ?_)
  rw [qsum2 (by omega) (by omega)]
  by_cases hfit : p.2.2 + q.2.2 ≤ 9007199254740992
  · rw [if_pos hfit] at hg ⊢
    refine ⟨_, _, rfl, hk, ⟨fun hf => by simp at hf, fun _ => ?_⟩⟩
    obtain ⟨a', g3, s3⟩ := rest rfl ha
    obtain ⟨b', g4, s4⟩ := rest rfl hb
    refine ⟨_, _, _, g3, _, _, _, g4, ?_⟩
    have hsz := hA.size
    refine go_evo_too hA (by intro d hd; simp at hd; omega) fun w124 hA hev => ?_
    have ho124 := (ho113.call hb115).evo (by intro d hd h2; simp at hd h2; omega) hev
    refine opw_push (e' := 55) (bytes := 24) hA ho124 (p.1, p.2.1, p.2.2 + q.2.2) (by kernel_rfl) (by kernel_rfl) rfl (fun y _ => rfl) (oc _) (by simp at hlen; omega) (by decide) fun a2 c2 w131 hA ho _ _ => ⟨⟨hA.off, r, t, out ++ [(p.1, p.2.1, p.2.2 + q.2.2)], s3, s4, ho.more (by intro g h1 h2; simp at h1), by simp at hlen ⊢; omega, fun x hx => hpa x (List.mem_cons_of_mem _ hx), fun x hx => hpb x (List.mem_cons_of_mem _ hx), ?_⟩, by simp only [List.length_cons]; omega⟩
    rw [← hg, map_append]
  · rw [if_neg hfit] at hg ⊢
    refine ⟨_, _, rfl, hk, ⟨fun _ => ?_, fun hf => by simp at hf⟩⟩
    have : vadd l1 l2 = none := by rw [← hg]; rfl
    exact leaflb h hA OwnL.nil (by rw [this]; rfl) (by rw [this]; rfl)
end Go.Vc.V

/- slices.SortFunc on an own slice of structs: a permutation, in order. -/
namespace Go.Vc
open Go Go.RowKit Go.Proofs Go.Shelf Go.Sort

theorem bel_grow {W w' : World} (h : Bel W w') : ∃ q os', w' = grow (W.drewN q) os' := by
  refine ⟨w'.drawn - W.drawn, w'.heap.extract W.heap.size w'.heap.size, ?_⟩
  obtain ⟨hp, tp, dr, os, out⟩ := w'
  have h1 := h.below.os
  have h2 := h.below.tape
  have h3 := h.below.output
  have h4 := h.size
  have h5 := fun b hb => h.block (b := b) hb
  have h6 := h.drawn
  simp only at h1 h2 h3 h4 h5 h6
  subst h1 h2 h3
  unfold grow World.drewN
  simp only [World.mk.injEq, true_and, and_true]
  refine ⟨?_, by omega⟩
  apply Array.ext_getElem?
  intro k
  rw [Array.getElem?_append]
  split
  · rename_i hk
    exact h5 k hk
  · rename_i hk
    rw [Array.getElem?_extract]
    split
    · congr 1; omega
    · rw [Array.getElem?_eq_none]
      omega

section
variable {α : Type} [Inhabited α] {P : Program} {ρ : Ren} {f : α → List Value} {k : Nat}

theorem chg_sortWorldK (w : World) (blk off m : Nat) (dk : Array α) (os : Array Obj) : Chg (fun b => b = blk) w (sortWorldK f k w blk off m dk os) := by
  unfold sortWorldK putRowK
  refine ⟨rfl, rfl, rfl, ?_, fun b hb hne => ?_, ?_⟩
  · rw [size_grow, Go.Sort.size_putRow]
    exact Nat.le_add_right _ _
  · show ((putRow id (Go.Sort.ahead w m) blk off (flatK f k dk)).heap ++ os)[b]? = _
    rw [Array.getElem?_append, if_pos (by rw [Go.Sort.size_putRow]; exact hb)]
    unfold putRow mapBlock
    show (Array.modify w.heap blk _)[b]? = _
    rw [Array.getElem?_modify, if_neg (fun e => hne e.symm)]
  · show w.drawn ≤ w.drawn + m
    omega

theorem flat_at {l : List α} (hk : ∀ x, (f x).length = k) {t : Nat} (ht : t < l.length * k) : (l.flatMap f)[t]? = some (flatK f k l.toArray)[t]! := by
  have hk0 : 0 < k := by
    rcases Nat.eq_zero_or_pos k with h | h
    · subst h; omega
    · exact h
  have hi : t / k < l.length := Nat.div_lt_of_lt_mul (by rw [Nat.mul_comm]; exact ht)
  have hm := Nat.mod_lt t hk0
  have hdm : t / k * k + t % k = t := by rw [Nat.mul_comm]; exact Nat.div_add_mod t k
  have hp := flatMap_part (size := k) (fun x _ => hk x) (List.getElem?_eq_getElem hi)
  rw [get_flatK f k l.toArray t (by simpa using ht)]
  have h1 : (f l[t / k])[t % k]? = some ((f l[t / k])[t % k]'(by rw [hk]; exact hm)) := List.getElem?_eq_getElem _
  have h2 : (l.toArray)[t / k]! = l[t / k] := by simp [hi]
  rw [h2, getElem!_pos (f l[t / k]) (t % k) (by rw [hk]; exact hm), ← h1]
  conv => rhs; rw [← hp]
  rw [List.getElem?_take, if_pos hm, List.getElem?_drop, hdm]

theorem at_sortFunc (L : SlLaysF0.n6 P ρ) {e : TypeId} (aE : pureRun P (isAgg (ρ.t 24)) = some true) (zE : pureRun P (sizeOf (ρ.t 24)) = some k) (hk : ∀ x, (f x).length = k) (h1 : ∀ x, ∀ v ∈ f x, v.oneCell' = true) (cf : α → α → Int) (hO : SWO (ltOf cf)) {g : Nat} {cb : Array Value}
    (eg : ∀ args w, (callFunc g args).run P w = .ok (.enter g args) w) {w W : World} {M : Nat → Prop} {gs : List Nat} {a : Option Addr} {n c : Nat} {l : List α} {K : Ending → World → Prop} (hA : AtF w M gs W) (ho : OwnF w M gs W e k f (.slice a n c) l)
    (hcmp : ∀ W', Chg (fun b => (Value.slice a n c).ownBlock = some b) W W' → ∀ x y, Ret P g (#[.agg (f x).toArray, .agg (f y).toArray] ++ cb) W' (.int .i64 (cf x y))) (hl : l.length < 4611686018427387904)
    (hK : ∀ l' w', AtF w M gs w' → Keeps gs W w' → Chg (fun b => (Value.slice a n c).ownBlock = some b) W w' → OwnF w M gs w' e k f (.slice a n c) l' → l'.Perm l → l'.Pairwise (fun x y => ¬ cf y x < 0) → K (.returned (.tuple #[])) w') :
    Calls P (ρ.f 6) #[.slice a n c, .func (.func g) #[] cb] W K := by
  have hn := ho.len
  subst hn
  rcases ho.row0.2 with ⟨hv, h0⟩ | ⟨b, cap, cur, hv, _, hg, hnc, hcm, hcs, htk⟩
  · have hl0 : l = [] := List.eq_nil_of_length_eq_zero h0
    subst hl0
    refine (AnyF.slices_SortFunc_none (P := P) (ρ := ρ) { L with } a c _ W).mono ?_
    rintro e' w' ⟨rfl, rfl⟩
    exact hK [] w' hA (fun _ _ => rfl) (Chg.refl _ _) ho (List.Perm.refl _) List.Pairwise.nil
  · obtain ⟨rfl, _, rfl⟩ := Value.slice.inj hv
    have hfl : (l.flatMap f).length = l.length * k := flatMap_len fun x _ => hk x
    have hcur : ∀ t, t < l.length * k → cur[t]? = some (flatK f k l.toArray)[t]! := fun t ht => by
      rw [← flat_at hk ht, ← htk, List.getElem?_take, if_pos ht, Array.getElem?_toList]
    have hH : HoldsK f k W b 0 l.toArray := by
      intro j hj
      rw [size_flatK] at hj
      have hj' : j < l.length * k := by simpa using hj
      refine ⟨?_, ?_⟩
      · unfold World.cell?
        simp only [hg]
        simpa using hcur j hj'
      · unfold World.frozen?
        simp only [hg]
        simp
    have hblk : b < W.heap.size := (Array.getElem?_eq_some_iff.1 hg).1
    have hcm' : CmpLays P g cb f k cf b 0 l.toArray.size W := fun m os dk _ x y => by
      refine hcmp _ ((chg_sortWorldK W b 0 m dk os).mono fun b' _ hb => ?_) x y _ fun w' hb => ⟨rfl, bel_grow hb⟩
      subst hb
      rfl
    have hmain := AnyQ.slices_SortFunc L k (fun w => pureRun_run aE w) (fun w => pureRun_run zE w) f hk h1 cf hO g cb b 0 c l.toArray W eg hcm' hH hblk (by simpa using hl)
    have hsz : l.toArray.size = l.length := by simp
    rw [hsz] at hmain
    refine hmain.mono ?_
    rintro e' w' ⟨rfl, d', n, os, hp, hs, rfl⟩
    have hch : Chg (fun b' => (Value.slice (some ⟨b, 0, none⟩) l.length c).ownBlock = some b') W (sortWorldK f k W b 0 n d' os) := (chg_sortWorldK W b 0 n d' os).mono fun b' _ hb => by subst hb; rfl
    have hd : d'.size = l.length := by have := hp.1; simpa using this
    have hperm : d'.toList.Perm l := by
      have := hp.2.2
      rw [show l.length = d'.size from hd.symm] at this
      have e1 : d'.extract 0 d'.size = d' := by simp
      have e2 : l.toArray.extract 0 d'.size = l.toArray := by rw [hd]; simp
      rw [e1, e2] at this
      simpa using this
    have hpw : d'.toList.Pairwise (fun x y => ¬ cf y x < 0) := by
      rw [List.pairwise_iff_getElem]
      intro i j hi hj hij
      simp only [Array.length_toList] at hi hj
      have := hs i j (Nat.zero_le _) hij (by omega)
      rw [getElem!_pos d' j hj, getElem!_pos d' i hi] at this
      unfold ltOf at this
      simpa using this
    have hdl : d'.toList.length = l.length := by simpa using hd
    refine hK d'.toList _ (hA.step hch fun k' _ hk' => ho.mine k' hk') (hA.keepsC hch fun g' hg' hk' => ho.apart g' hg' hk') hch ?_ hperm hpw
    refine ⟨?_, ho.mine, ho.apart⟩
    rw [hdl]
    refine ⟨by rw [flatMap_len (size := k) fun x _ => hk x, hdl], .inr ⟨b, c, putCells id 0 (flatK f k d') cur, rfl, Nat.zero_le _, ?_, hnc, hcm, ?_, ?_⟩⟩
    · unfold sortWorldK putRowK
      show ((putRow id (Go.Sort.ahead W n) b 0 (flatK f k d')).heap ++ os)[b]? = _
      rw [Array.getElem?_append, if_pos (by rw [Go.Sort.size_putRow]; exact hblk)]
      unfold putRow mapBlock
      show (Array.modify W.heap b _)[b]? = _
      rw [Array.getElem?_modify, if_pos rfl, hg]
      rfl
    · unfold putCells
      rw [Array.size_mapIdx, hcs]
    · apply List.ext_getElem?
      intro t
      rw [List.getElem?_take]
      by_cases ht : t < l.length * k
      · rw [if_pos ht, flat_at hk (by rw [hdl]; exact ht), Array.getElem?_toList]
        unfold putCells
        have htc : t < cur.size := by
          have := hcur t ht
          exact (Array.getElem?_eq_some_iff.1 this).1
        rw [Array.getElem?_mapIdx, Array.getElem?_eq_getElem htc, Option.map_some, if_pos ⟨Nat.zero_le _, by rw [size_flatK, hd]; omega⟩]
        simp
      · rw [if_neg ht, List.getElem?_eq_none]
        rw [flatMap_len (size := k) fun x _ => hk x, hdl]
        omega
end
end Go.Vc

/- The library's functions as they lie in this program: tables of numbers, printed by a program; the kernel compares the bodies. -/
set_option maxRecDepth 100000
set_option linter.unusedVariables false
namespace Go.Proofs
open Go.Shelf
def Try.sortPt_ren : Go.Shelf.Ren := ⟨fun | 6 => 47 | 15 => 50 | 14 => 49 | 28 => 59 | 29 => 60 | 20 => 51 | 21 => 52 | 22 => 53 | 23 => 54 | 24 => 55 | 25 => 56 | 26 => 57 | 27 => 58 | 46 => 61 | 47 => 62 | 48 => 63 | 49 => 64 | 50 => 65 | 57 => 66 | n => n, fun | 22 => 26 | 24 => 55 | 25 => 84 | 3 => 3 | 39 => 87 | 0 => 0 | 53 => 97 | 55 => 99 | 4 => 4 | 46 => 90 | 45 => 89 | 50 => 94 | 5 => 5 | 9 => 9 | 66 => 100 | 70 => 104 | 76 => 106 | 77 => 107 | n => n, fun | n => n⟩
theorem Try.sortPt : Go.Proofs.SlLaysF0.n6 Try.prog Try.sortPt_ren := {
  mixed := by kernel_rfl,
  f6 := ⟨Try.f47.name, by decide, Try.func47.trans (congrArg some (by kernel_rfl))⟩,
  f14 := ⟨Try.f49.name, by decide, Try.func49.trans (congrArg some (by kernel_rfl))⟩,
  f15 := Try.func50.trans (congrArg some (by kernel_rfl)),
  f20 := ⟨Try.f51.name, by decide, Try.func51.trans (congrArg some (by kernel_rfl))⟩,
  f21 := ⟨Try.f52.name, by decide, Try.func52.trans (congrArg some (by kernel_rfl))⟩,
  f22 := ⟨Try.f53.name, by decide, Try.func53.trans (congrArg some (by kernel_rfl))⟩,
  f23 := ⟨Try.f54.name, by decide, Try.func54.trans (congrArg some (by kernel_rfl))⟩,
  f24 := ⟨Try.f55.name, by decide, Try.func55.trans (congrArg some (by kernel_rfl))⟩,
  f25 := ⟨Try.f56.name, by decide, Try.func56.trans (congrArg some (by kernel_rfl))⟩,
  f26 := ⟨Try.f57.name, by decide, Try.func57.trans (congrArg some (by kernel_rfl))⟩,
  f27 := ⟨Try.f58.name, by decide, Try.func58.trans (congrArg some (by kernel_rfl))⟩,
  f28 := Try.func59.trans (congrArg some (by kernel_rfl)),
  f29 := Try.func60.trans (congrArg some (by kernel_rfl)),
  f46 := ⟨Try.f61.name, by decide, Try.func61.trans (congrArg some (by kernel_rfl))⟩,
  f47 := Try.func62.trans (congrArg some (by kernel_rfl)),
  f48 := Try.func63.trans (congrArg some (by kernel_rfl)),
  f49 := ⟨Try.f64.name, by decide, Try.func64.trans (congrArg some (by kernel_rfl))⟩,
  f50 := ⟨Try.f65.name, by decide, Try.func65.trans (congrArg some (by kernel_rfl))⟩,
  f57 := ⟨Try.f66.name, by decide, Try.func66.trans (congrArg some (by kernel_rfl))⟩,
  t0 := Try.underlying0,
  a0 := Try.isAgg0,
  z0 := Try.sizeOf0,
  v0 := Try.zeroValue0,
  t3 := Try.underlying3,
  a3 := Try.isAgg3,
  z3 := Try.sizeOf3,
  v3 := Try.zeroValue3,
  t4 := Try.underlying4,
  a4 := Try.isAgg4,
  z4 := Try.sizeOf4,
  v4 := Try.zeroValue4,
  t5 := Try.underlying5,
  a5 := Try.isAgg5,
  z5 := Try.sizeOf5,
  v5 := Try.zeroValue5,
  t9 := Try.underlying9,
  a9 := Try.isAgg9,
  z9 := Try.sizeOf9,
  v9 := Try.zeroValue9,
  t22 := Try.underlying26,
  a22 := Try.isAgg26,
  z22 := Try.sizeOf26,
  v22 := Try.zeroValue26,
  t25 := Try.underlying84,
  a25 := Try.isAgg84,
  z25 := Try.sizeOf84,
  v25 := Try.zeroValue84,
  t39 := Try.underlying87,
  a39 := Try.isAgg87,
  z39 := Try.sizeOf87,
  v39 := Try.zeroValue87,
  t45 := Try.underlying89,
  a45 := Try.isAgg89,
  z45 := Try.sizeOf89,
  v45 := Try.zeroValue89,
  t46 := Try.underlying90,
  a46 := Try.isAgg90,
  z46 := Try.sizeOf90,
  v46 := Try.zeroValue90,
  t50 := Try.underlying94,
  a50 := Try.isAgg94,
  z50 := Try.sizeOf94,
  v50 := Try.zeroValue94,
  t53 := Try.underlying97,
  a53 := Try.isAgg97,
  z53 := Try.sizeOf97,
  v53 := Try.zeroValue97,
  t55 := Try.underlying99,
  a55 := Try.isAgg99,
  z55 := Try.sizeOf99,
  v55 := Try.zeroValue99,
  t66 := Try.underlying100,
  a66 := Try.isAgg100,
  z66 := Try.sizeOf100,
  v66 := Try.zeroValue100,
  t70 := Try.underlying104,
  a70 := Try.isAgg104,
  z70 := Try.sizeOf104,
  v70 := Try.zeroValue104,
  t76 := Try.underlying106,
  a76 := Try.isAgg106,
  z76 := Try.sizeOf106,
  v76 := Try.zeroValue106,
  t77 := Try.underlying107,
  a77 := Try.isAgg107,
  z77 := Try.sizeOf107,
  v77 := Try.zeroValue107}

end Go.Proofs

/- vec.Of, Move. -/
set_option maxRecDepth 20000
set_option maxHeartbeats 1000000
namespace Go.Vc.V
open Go Go.Vc Go.RowKit Go.Proofs Vce

variable {w W W' : World} {M : Nat → Prop} {gs : List Nat} {r : Nat} {m : List (Sl × Int)}

theorem keyOk_sl : KeyOk Try.prog 61 slV where
  eq := fun k k' => by
    have h : eqB Try.prog 30 61 (slV k) (slV k') = some (k.1 == k'.1 && (k.2 == k'.2 && true)) := by kernel_rfl
    rw [h, Option.some.injEq, Bool.eq_iff_iff]
    obtain ⟨a, b⟩ := k
    obtain ⟨a', b'⟩ := k'
    simp
  now := fun d hd k k' b hb => by
    rw [Try.underlying61] at hd
    cases hd
    simp [Instr.sameNow] at hb
  chk := fun e k W => by
    have h : pureRun Try.prog (Instr.checkKey e 10000 61 (slV k)) = some () := by kernel_rfl
    exact pureRun_run h W
  bits := fun k => by
    unfold Instr.sameBits
    simp [Instr.sameBits]
  und := ⟨_, Try.underlying61⟩

def toPart (x : Sl × Int) : PartT := (x.1.1, x.1.2, x.2)
def posL (m : List (Sl × Int)) : List PartT := (m.filter fun x => decide (0 < x.2)).map toPart
abbrev cfS (p q : PartT) : Int := slotC p.1 p.2.1 q.1 q.2.1
theorem swoS : Go.Sort.SWO (ltOf cfS) where
  irrefl x := by
    unfold ltOf
    rw [decide_eq_false_iff_not, slotC_lt]
    unfold slt; omega
  trans x y z h k := by
    unfold ltOf at *
    rw [decide_eq_true_iff, slotC_lt] at *
    exact slt_trans h k
  ntrans x y z h k := by
    unfold ltOf at *
    rw [decide_eq_false_iff_not, slotC_lt] at *
    unfold slt at *; omega

theorem slt_of {p q : PartT} (h : ¬ slt q p) (hne : slotOf p ≠ slotOf q) : slt p q := by
  unfold slt at *
  simp only [slotOf, ne_eq, Prod.mk.injEq] at hne
  omega
theorem posL_append (a b : List (Sl × Int)) : posL (a ++ b) = posL a ++ posL b := by unfold posL; rw [List.filter_append, List.map_append]
theorem posL_len (a : List (Sl × Int)) : (posL a).length ≤ a.length := by unfold posL; rw [List.length_map]; exact List.length_filter_le ..

theorem c39 {w0 : World} {M0 : Nat → Prop} {gs0 : List Nat} (hm : OwnM w0 M0 gs0 W r slV (Value.int .i64) m) (hnd : (m.map (·.1)).Nodup) (hl : m.length ≤ 1000000) :
    RetQ Try.prog 39 #[.map (some r)] W fun v W' => ∃ l' : List PartT, W'.ownsRow W.heap.size 55 3 v l'.length (l'.flatMap partE) ∧ (∀ p : PartT, p ∈ l' ↔ 0 < p.2.2 ∧ (slotOf p, p.2.2) ∈ m) ∧ l'.Pairwise slt := by
  intro R hR
  refine f39_calls _ W R ?_
  unfold f39_vc
  refine opw_range (kt := 61) (et := 2) (by kernel_rfl) (At.refl W) hm fun q w2 hq hA _ hb2 hi => ⟨_, rfl, ?_⟩
  refine ⟨fun v W' => At W [] W' ∧ ∃ done rest cur, OwnL W [] W' 55 3 partE (.slice v.1.1 v.1.2.1 v.1.2.2) (posL done) ∧ Itr W noB [] W' q r slV (Value.int .i64) m rest cur ∧ (done ++ rest).Perm m, fun _ W' => itLeft W' q r, ⟨hA, [], m, none, OwnL.nil, hi, by simp⟩, ?_⟩
  rintro a6 n7 n8 w9 ⟨hA, done, rest, cur, ho, hi, hperm⟩
  simp only at ho
  have hn7 := ho.len
  have hpl := hperm.length_eq
  rw [List.length_append] at hpl
  have hdl := posL_len done
  have hleft := hi.left
  have hob : ∀ k, (Value.slice a6 n7 n8).ownBlock = some k → k ≠ q ∧ k ≠ r := fun k hk => by
    obtain ⟨cur', hcur⟩ := ho.blk hk
    obtain ⟨es, clock, since, c0, seen, h1, _, _, _, h5, _⟩ := hi.obj
    refine ⟨fun e => ?_, cells_map hcur h1⟩
    subst e
    rw [hcur] at h5
    cases h5
  refine opw_next hA hi (fun hr => ⟨.inl rfl, fun _ => ?_, fun _ _ _ e => by simp at e⟩) fun x ra rb w11 hr hA hk hch hi => ⟨.inr ⟨((x.1.1, x.1.2, ()), x.2, ()), rfl⟩, fun e => by simp at e, fun x14 x15 x16 _ => ?_⟩
  · subst hr
    rw [List.append_nil] at hperm
    have hsort := at_sortFunc (P := Try.prog) (ρ := Try.sortPt_ren) Try.sortPt (k := 3) (f := partE) (e := 55) (by kernel_rfl) (by kernel_rfl) (fun _ => rfl) (fun x => part_one x) cfS swoS (g := 48) (cb := #[]) (enters_of Try.func48 (by kernel_rfl) rfl) hA ho (fun W' _ x y => c48 x y W') (by omega)
      (K := fun e w13 => e = Ending.returned (Value.tuple #[]) ∧ R (Ending.returned (.slice a6 n7 n8)) w13) fun l' w' hA' hk' hch ho' hp hw => ⟨rfl, ?_⟩
    · exact hsort
    have hmem : ∀ p : PartT, p ∈ l' ↔ 0 < p.2.2 ∧ (slotOf p, p.2.2) ∈ m := fun p => by
      rw [hp.mem_iff, posL, List.mem_map]
      constructor
      · rintro ⟨y, hy, rfl⟩
        have hy := List.mem_filter.1 hy
        exact ⟨by simpa [toPart] using hy.2, hperm.mem_iff.1 hy.1⟩
      · rintro ⟨h1, h2⟩
        exact ⟨(slotOf p, p.2.2), List.mem_filter.2 ⟨hperm.mem_iff.2 h2, by simpa using h1⟩, rfl⟩
    have hnd' : (l'.map slotOf).Nodup := by
      have h1 : (posL done).map slotOf = (done.filter fun x => decide (0 < x.2)).map (·.1) := by
        unfold posL
        rw [List.map_map]
        rfl
      have h2 : ((done.filter fun x => decide (0 < x.2)).map (·.1)).Nodup := ((hperm.map (·.1)).nodup_iff.2 hnd).sublist ((List.filter_sublist).map _)
      rw [← h1] at h2
      exact (hp.map slotOf).nodup_iff.2 h2
    refine hR _ _ hA'.below ⟨l', ?_, hmem, ?_⟩
    · have := ho'.row
      rw [hp.length_eq] at this ⊢
      rw [hn7]
      rw [hn7] at this
      exact this
    · rw [List.Nodup, List.pairwise_map] at hnd'
      exact (hw.and hnd').imp fun {x y} h => slt_of (fun hlt => h.1 ((slotC_lt y x).2 hlt)) h.2
  · have ho := ho.chg hch fun k hk e => (hob k hk).1 e
    refine opw_entry hi ⟨_, _, _, rfl, ?_⟩
    rw [hr] at hperm hpl hleft
    simp only [List.length_append, List.length_cons] at hpl hleft
    have hperm' : (done ++ [x] ++ (ra ++ rb)).Perm m := by
      rw [List.append_assoc, List.singleton_append]
      exact List.Perm.trans (List.Perm.append_left _ List.perm_middle.symm) hperm
    intro n22 hn22
    refine brD (fun hpos => ?_) (fun hz => ?_)
    · intro w23 hev hun
      have hbel := hev.bel (by simpa using hn22)
      have hA : At W [n22] w23 := ⟨(hA.call hbel).chg, hun⟩
      have hi := hi.call hbel
      have ho := (ho.more (gs' := [n22]) (by intro g h1 _; simp at h1; omega)).call hbel
      refine opw_push (e' := 55) (bytes := 24) hA ho (toPart x) (by kernel_rfl) (by kernel_rfl) rfl (fun _ _ => rfl) (part_one _) (by omega) (by decide) fun a2 c2 w30 hA ho' hgr _ => ?_
      have hgk : ∀ {y}, y < w23.heap.size → (Value.slice a6 n7 n8).ownBlock ≠ some y → w30.heap[y]? = w23.heap[y]? := fun {y} hy hne => hgr.block y hy fun e => hne e.symm
      have hi' := hi.keep (hgk hi.lts.1 fun e => (hob q e).1 rfl) (hgk hi.lts.2.1 fun e => (hob r e).2 rfl)
      refine ⟨⟨hA.off, done ++ [x], ra ++ rb, some x, ?_, hi', hperm'⟩, ?_⟩
      · have e : posL (done ++ [x]) = posL done ++ [toPart x] := by rw [posL_append]; simp [posL, hpos]
        rw [e]
        exact ho'.more (by simp)
      · show itLeft w30 q r < itLeft w9 q r
        rw [hi'.left, hleft]
        simp
    · intro w34 hev hun
      have hbel := hev.bel (by simpa using hn22)
      have hi := hi.call hbel
      refine ⟨⟨(hA.call hbel).off, done ++ [x], ra ++ rb, some x, ?_, hi, hperm'⟩, ?_⟩
      · have e : posL (done ++ [x]) = posL done := by rw [posL_append]; simp [posL, hz]
        simp only
        rw [e]
        exact ho.call hbel
      · show itLeft w34 q r < itLeft w9 q r
        rw [hi.left, hleft]
        simp

/-! ### Of -/
theorem qsum_two {a b : Int} (ha : 0 ≤ a ∧ a ≤ 9007199254740992) (hb : I64 b) : qsum 9007199254740992 [a, b] = if 0 ≤ b ∧ a + b ≤ 9007199254740992 then (a + b, true) else (0, false) := by
  unfold qsum I64 at *
  rw [if_neg (by omega)]
  simp only [qgo]
  repeat' split
  all_goals first | omega | (congr 1; omega) | rfl | skip

/-- The map of the parts so far. -/
structure MapOf (m : List (Sl × Int)) (l : List PartT) : Prop where
  nd : (m.map (·.1)).Nodup
  get : ∀ s, mget s m = if ∃ p ∈ l, slotOf p = s then some (tot s l) else none
  len : m.length ≤ l.length
  good : ∀ p ∈ l, goodP p
  le : ∀ s, tot s l ≤ topQ
theorem MapOf.step {l : List PartT} {p : PartT} (h : MapOf m l) (hp : goodP p) (hle : tot (slotOf p) l + p.2.2 ≤ topQ) : MapOf (mset (slotOf p) (tot (slotOf p) l + p.2.2) m) (l ++ [p]) := by
  have htot : ∀ s, tot s (l ++ [p]) = tot s l + if slotOf p = s then p.2.2 else 0 := fun s => by rw [tot_append]; simp [tot]
  refine ⟨mset_nodup h.nd, fun s => ?_, ?_, fun q hq => ?_, fun s => ?_⟩
  · by_cases hs : s = slotOf p
    · subst hs
      rw [mget_mset_self, if_pos ⟨p, by simp, rfl⟩, htot, if_pos rfl]
    · rw [mget_mset_ne _ hs, h.get s, htot, if_neg (Ne.symm hs), Int.add_zero]
      have : (∃ q ∈ l ++ [p], slotOf q = s) ↔ ∃ q ∈ l, slotOf q = s := by
        constructor
        · rintro ⟨q, hq, e⟩
          rcases List.mem_append.1 hq with hq | hq
          · exact ⟨q, hq, e⟩
          · simp at hq
            subst hq
            exact absurd e.symm hs
        · rintro ⟨q, hq, e⟩
          exact ⟨q, by simp [hq], e⟩
      by_cases hh : ∃ q ∈ l, slotOf q = s
      · rw [if_pos hh, if_pos (this.2 hh)]
      · rw [if_neg hh, if_neg fun e => hh (this.1 e)]
  · rw [mset_length, List.length_append, List.length_singleton]
    have := h.len
    split <;> omega
  · rcases List.mem_append.1 hq with hq | hq
    · exact h.good q hq
    · simp at hq; subst hq; exact hp
  · rw [htot]
    split
    · rename_i e; rw [← e]; exact hle
    · have := h.le s; omega
theorem vof_bad {l : List PartT} {i : Nat} {p : PartT} (hp : l[i]? = some p) (h : ¬ (goodP p ∧ tot (slotOf p) (l.take i) + p.2.2 ≤ topQ)) : vof l = none := by
  unfold vof
  rw [if_neg]
  rintro ⟨h1, h2⟩
  have hmem := List.mem_of_getElem? hp
  refine h ⟨h1 p hmem, ?_⟩
  have h3 := h2 p hmem
  have e : l = l.take i ++ p :: l.drop (i + 1) := by
    conv => lhs; rw [← List.take_append_drop i l, drop_cons hp]
  have h4 : tot (slotOf p) l = tot (slotOf p) (l.take i) + (p.2.2 + tot (slotOf p) (l.drop (i + 1))) := by
    conv => lhs; rw [e, tot_append, tot, if_pos rfl]
  have h5 : 0 ≤ tot (slotOf p) (l.drop (i + 1)) := tot_nonneg fun q hq => (h1 q (List.mem_of_mem_drop hq)).2
  omega

theorem c28 {l : List PartT} {a : Option Addr} {n c : Nat} (w : World) (hs : SlE w 3 partE l a n c) (hl : l.length ≤ 1000000) (hI : ∀ p ∈ l, I64 p.2.2) : RetLB Try.prog 28 #[.slice a n c] w 55 3 partE (vout (vof l)) (vof l).isSome := by
  intro R h
  refine f28_calls a n c w R ?_
  unfold f28_vc
  have hn := hs.1
  subst hn
  refine opw_makeMapR (kf := slV) (vf := Value.int .i64) (kt := 61) (et := 2) (by kernel_rfl) (At.refl w) fun g w2 hg hA _ hb2 hm => ⟨_, rfl, ?_⟩
  refine ⟨fun v W => At w [] W ∧ ∃ (i : Nat) (m : List (Sl × Int)), v.1 = i ∧ i ≤ l.length ∧ OwnM w noB [] W g slV (Value.int .i64) m ∧ MapOf m (l.take i), fun v _ => (l.length - v.1).toNat, ⟨hA, 0, [], rfl, Nat.zero_le _, hm, ⟨List.nodup_nil, fun s => by simp [mget], by simp, by simp, fun s => by simp [tot]⟩⟩, ?_⟩
  rintro x6 w7 ⟨hA, i, m, hi, hil, hm, hM⟩
  simp only at hi
  subst hi
  have none_leaf : ∀ {W' : World} {gs}, At w gs W' → vof l = none → R (.returned (.tuple #[.slice none 0 0, .bool false])) W' := fun hA e => leaflb h hA OwnL.nil (by rw [e]; rfl) (by rw [e]; rfl)
  refine brD (fun hlt => ?_) (fun hge => ?_)
  · obtain ⟨p, hp⟩ : ∃ x, l[i]? = some x := ⟨_, List.getElem?_eq_getElem (by omega)⟩
    have hIp := hI p (List.mem_of_getElem? hp)
    obtain ⟨ad, g1, el, _⟩ := elt_at (P := Try.prog) (k := .i64) (t := 26) (hs.call hA.below) hp (e := 55) (by kernel_rfl) (by kernel_rfl)
    have htk : l.take (i + 1) = l.take i ++ [p] := by rw [List.take_add_one, hp]; rfl
    refine ⟨ad, g1, _, _, _, el.agg 3 (by kernel_rfl) (by kernel_rfl) (by simp) (by simp), ?_⟩
    intro n12 hn12 w13 hev hun
    have hbel := hev.bel (by simpa using hn12)
    have hA : At w [n12] w13 := ⟨(hA.call hbel).chg, hun⟩
    have hm := (hm.more (gs' := [n12]) (by intro g h1 _; simp at h1; omega)).call hbel
    refine at_callb hA (c35 _ _ _ w13) fun w15 hA hk hb => ⟨_, _, rfl, hk, ?_⟩
    have hm := hm.call hb
    have hold : (mget (slotOf p) m).getD 0 = tot (slotOf p) (l.take i) := by
      rw [hM.get]
      split
      · rfl
      · rename_i hno
        rw [tot_none fun q hq e => hno ⟨q, hq, e⟩]; rfl
    have hlook : Reads Try.prog [] (Instr.lookup 76 (.map (some g)) (slV (slotOf p)) false) w15 (.int .i64 (tot (slotOf p) (l.take i))) := fun W' hb' => by
      have h' := run_lookup_m (P := Try.prog) (kt := 61) (t := 76) (et := 2) (z := .int .i64 0) keyOk_sl (by kernel_rfl) (by kernel_rfl) (hm.call hb') (slotOf p) false
      rw [h', ← hold]
      cases mget (slotOf p) m <;> rfl
    have h0 : 0 ≤ tot (slotOf p) (l.take i) := tot_nonneg fun q hq => (hM.good q hq).2
    have h1 := hM.le (slotOf p)
    simp only [topQ] at h1
    refine ⟨_, hlook, ?_⟩
    refine at_callb hA (c38 _ _ 9007199254740992 (by unfold I64; omega) hIp (by unfold I64; omega) w15) fun w20 hA hk hb => ⟨_, _, rfl, hk, ?_⟩
    rw [qsum_two ⟨h0, h1⟩ hIp]
    have hm := hm.call hb
    refine brNB (fun hno => ?_) (fun hyes => ?_)
    · refine none_leaf hA (vof_bad hp fun hh => ?_)
      rw [if_pos ⟨hh.1.2, hh.2⟩] at hno
      cases hno
    have hyes : 0 ≤ p.2.2 ∧ tot (slotOf p) (l.take i) + p.2.2 ≤ 9007199254740992 := by
      apply Classical.byContradiction
      intro hn
      rw [if_neg hn] at hyes
      cases hyes
    rw [if_pos hyes]
    refine at_callb hA (c35 _ _ _ w20) fun w24 hA hk hb => ⟨_, _, rfl, hk, ?_⟩
    have hm := hm.call hb
    refine at_callb hA (c27 _ _ w24) fun w28 hA hk hb => ⟨_, rfl, hk, ?_⟩
    have hm := hm.call hb
    refine brND (fun hno => none_leaf hA (vof_bad hp fun hh => hno hh.1.1)) (fun hsl => ?_)
    refine at_callb hA (c35 _ _ _ w28) fun w31 hA hk hb => ⟨_, _, rfl, hk, ?_⟩
    have hm := hm.call hb
    refine opw_mapUpdate (kf := slV) (vf := Value.int .i64) (k := slotOf p) (v := tot (slotOf p) (l.take i) + p.2.2) (kt := 61) (et := 2) keyOk_sl (by kernel_rfl) hA hm fun w35 hA hk _ hm => ⟨hk, ?_⟩
    rw [succ_i i (by omega)]
    refine ⟨⟨hA.off, i + 1, _, rfl, by omega, hm.base0 (hm.mine.resolve_right id), ?_⟩, by simp only; omega⟩
    rw [htk]
    exact hM.step ⟨hsl, hyes.1⟩ hyes.2
  · have hie : i = l.length := by omega
    subst hie
    rw [List.take_length] at hM
    have hvof : vof l = some (canon l) := by
      unfold vof
      rw [if_pos ⟨hM.good, fun p _ => hM.le _⟩]
    refine at_callq hA (c39 hm hM.nd (by have := hM.len; omega)) fun v w37 hA' hk hb ⟨l', hrow, hmem, hpw⟩ => ?_
    have hrow' : OwnL w [] w37 55 3 partE v l' := OwnF.ret hA hrow rfl rfl
    obtain ⟨a', c', rfl, hs'⟩ := hrow'.slice fun _ _ => rfl
    refine ⟨_, _, _, rfl, leaflb h hA' hrow' ?_ (by rw [hvof]; rfl)⟩
    rw [hvof]
    show l' = canon l
    have hin : ∀ p : PartT, (slotOf p, p.2.2) ∈ m ↔ (∃ q ∈ l, slotOf q = slotOf p) ∧ p.2.2 = tot (slotOf p) l := fun p => by
      constructor
      · intro hp
        have := mget_of_mem hM.nd hp
        rw [hM.get] at this
        split at this
        · rename_i hh
          exact ⟨hh, (Option.some.inj this).symm⟩
        · cases this
      · rintro ⟨hh, e⟩
        refine mem_of_mget ?_
        rw [hM.get, if_pos hh, e]
    have hpR : ∀ p ∈ l', partR p := fun p hp => by
      obtain ⟨h1, h2⟩ := (hmem p).1 hp
      obtain ⟨⟨q, hq, e⟩, h4⟩ := (hin p).1 h2
      have h5 := (hM.good q hq).1
      have h6 := hM.le (slotOf p)
      simp only [slotOf, Prod.mk.injEq] at e
      rw [e.1, e.2] at h5
      simp only [topQ] at h6
      exact ⟨h5, by omega, by omega⟩
    have hcan := canon_vec (l := l) fun s _ => hM.le s
    refine vec_ext (vecB_iff.2 ⟨hpR, hpw⟩) hcan fun s => ?_
    have hamt : ∀ {k : List PartT}, k.Pairwise slt → (∀ p : PartT, p ∈ k ↔ 0 < p.2.2 ∧ slotR p.1 p.2.1 ∧ p.2.2 = tot (slotOf p) l) → amt s k = if slotR s.1 s.2 ∧ 0 < tot s l then tot s l else 0 := fun {k} hk hm => by
      split
      · rename_i hh
        exact amt_mem hk (p := (s.1, s.2, tot s l)) ((hm _).2 ⟨hh.2, hh.1, rfl⟩)
      · rename_i hh
        refine amt_none fun p hp e => hh ?_
        obtain ⟨h1, h2, h3⟩ := (hm p).1 hp
        rw [e] at h3
        refine ⟨?_, by omega⟩
        simp only [slotOf] at e
        rw [← e]; exact h2
    rw [hamt hpw fun p => ?_, hamt (canon_sorted l) fun p => ?_]
    · rw [mem_canon]
      exact ⟨fun h => ⟨h.2.2, h.1, h.2.1⟩, fun h => ⟨h.2.1, h.2.2, h.1⟩⟩
    · rw [hmem, hin]
      constructor
      · rintro ⟨h1, ⟨q, hq, e⟩, h3⟩
        have h5 := (hM.good q hq).1
        simp only [slotOf, Prod.mk.injEq] at e
        rw [e.1, e.2] at h5
        exact ⟨h1, h5, h3⟩
      · rintro ⟨h1, h2, h3⟩
        exact ⟨h1, tot_pos_mem (by omega), h3⟩
end Go.Vc.V

/- A part of an own slice's element is stored. -/
namespace Go.Vc
open Go Go.RowKit
section
variable {α : Type} {P : Program} {w W : World} {M : Nat → Prop} {gs : List Nat} {e : TypeId} {size : Nat} {f : α → List Value} {a : Option Addr} {n c : Nat} {l : List α}

theorem part_swap {β : Type} {A X B ys : List β} {o m : Nat} (h : o + m ≤ X.length) : (A ++ X ++ B).take (A.length + o) ++ ys ++ (A ++ X ++ B).drop (A.length + o + m) = A ++ (X.take o ++ ys ++ X.drop (o + m)) ++ B := by
  have e1 : (A ++ X ++ B).take (A.length + o) = A ++ X.take o := by
    rw [List.append_assoc, List.take_append, List.take_of_length_le (by omega), Nat.add_sub_cancel_left, List.take_append_of_le_length (by omega)]
  have e2 : (A ++ X ++ B).drop (A.length + o + m) = X.drop (o + m) ++ B := by
    rw [List.append_assoc, List.drop_append, List.drop_of_length_le (by omega), List.nil_append, show A.length + o + m - A.length = o + m by omega, List.drop_append_of_le_length (by omega)]
  rw [e1, e2]
  simp only [List.append_assoc]

theorem opw_storeP {te : TypeId} {i o m : Nat} {x0 y : α} {x : Value} (hA : AtF w M gs W) (ho : OwnF w M gs W e size f (.slice a n c) l) (hf : ∀ x ∈ l, (f x).length = size) (hx : l[i]? = some x0) (hom : o + m ≤ size) (hy : f y = (f x0).take o ++ x.cells.toList ++ (f x0).drop (o + m)) (hxl : x.cells.toList.length = m) (h1 : x.cells.toList.all oneCell = true) (hsz : pureRun P (sizeOf te) = some m) {K : Value → World → Prop} {ad : Addr} (had : ∀ g, a = some ⟨g, 0, none⟩ → ad = ⟨g, i * size + o, none⟩)
    (h : ∀ w', AtF w M gs w' → Keeps gs W w' → Chg (fun b => (Value.slice a n c).ownBlock = some b) W w' → OwnF w M gs w' e size f (.slice a n c) (l.set i y) → K undef w') :
    OpW P (skipS (Instr.storeAt te (.pointer (some ad)) x)) W K := by
  have hi := (List.getElem?_eq_some_iff.1 hx).1
  obtain ⟨g, cur, rfl, hge, hg, hlc, hcm, hcs, htk⟩ := ho.ptr (by omega)
  have had := had g rfl
  subst had
  have hn := ho.len
  have hlx : (f x0).length = size := hf x0 (List.mem_of_getElem? hx)
  have hle : i * size + size ≤ l.length * size := by
    have := Nat.mul_le_mul_right size (show i + 1 ≤ l.length by omega)
    rw [Nat.add_mul] at this
    omega
  have hle2 : l.length * size ≤ cur.size := by rw [hcs]; exact Nat.mul_le_mul_right _ hlc
  have hcl : cellStore P te cur.toList (i * size + o) x = some (cur.toList.take (i * size + o) ++ x.cells.toList ++ cur.toList.drop (i * size + o + m)) := by
    unfold cellStore
    rw [hsz]
    have b1 : Nat.beq x.cells.toList.length m = true := by rw [hxl]; exact Nat.beq_refl _
    have b2 : Nat.ble (i * size + o + m) cur.toList.length = true := Nat.ble_eq_true_of_le (by rw [Array.length_toList]; omega)
    simp only [b1, b2, h1]
    rfl
  obtain ⟨W', hr, hg', hb, hs1, h2, h3, h4⟩ := run_cellStore (P := P) (t := te) (cells := cur.toList) (by simpa using hg) hcl
  have hch : Chg (fun b => (Value.slice (some ⟨g, 0, none⟩) n c).ownBlock = some b) W W' := ⟨h2, h3, h4, by omega, fun k _ hk => hb k (fun e => hk (by rw [e]; rfl)), run_drawn hr⟩
  have hsk : (skipS (Instr.storeAt te (.pointer (some ⟨g, i * size + o, none⟩)) x)).run P W = .ok .skip W' := by
    unfold skipS
    rw [run_bind_ok hr]
    rfl
  unfold OpW
  rw [hsk]
  have hlf := flatMap_len hf
  have hset : ∀ z ∈ l.set i y, (f z).length = size := fun z hz => by
    rcases List.mem_or_eq_of_mem_set hz with hz | rfl
    · exact hf z hz
    · rw [hy]
      simp only [List.length_append, List.length_take, List.length_drop, hlx, hxl]
      omega
  refine h W' (hA.step hch fun b _ hb => ho.mine b hb) (hA.keepsC hch fun x hx hb => ho.apart x hx hb) hch ⟨?_, ho.mine, ho.apart⟩
  refine ⟨flatMap_len hset, .inr ⟨g, c, _, by rw [List.length_set, hn], Nat.zero_le _, hg', by rw [List.length_set]; exact hlc, hcm, ?_, ?_⟩⟩
  · simp only [List.size_toArray, List.length_append, List.length_take, List.length_drop, Array.length_toList, hxl]
    omega
  · rw [List.length_set]
    simp only
    have htm := take_mid (cur := cur.toList) (xs := l.flatMap f) (y := x.cells.toList) (L := l.length * size) (a := i * size + o) (s := m) htk hlf hxl (by omega)
    rw [htm]
    have hsplit : l.flatMap f = (l.flatMap f).take (i * size) ++ f x0 ++ (l.flatMap f).drop (i * size + size) := by
      have hp := flatMap_part hf hx
      conv => lhs; rw [← List.take_append_drop (i * size) (l.flatMap f), ← List.take_append_drop size ((l.flatMap f).drop (i * size)), hp, List.drop_drop]
      rw [List.append_assoc]
    have hAl : ((l.flatMap f).take (i * size)).length = i * size := by
      rw [List.length_take, hlf]; omega
    have hps := part_swap (A := (l.flatMap f).take (i * size)) (X := f x0) (B := (l.flatMap f).drop (i * size + size)) (ys := x.cells.toList) (o := o) (m := m) (by omega)
    rw [← hsplit, hAl] at hps
    rw [hps, ← hy, flatMap_set hf hi]

theorem own_elt {t : TypeId} {i : Nat} {x : α} {k : IntKind} (ho : OwnF w M gs W e size f (.slice a n c) l) (hf : ∀ x ∈ l, (f x).length = size) (hx : l[i]? = some x) (ht : P.underlying t = some (.slice e)) (hz : pureRun P (sizeOf e) = some size) :
    ∃ g, a = some ⟨g, 0, none⟩ ∧ Gives P (Instr.indexAt t (.slice a n c) (.int k (i : Int))) (.pointer (some ⟨g, i * size, none⟩)) ∧ Elt W ⟨g, i * size, none⟩ (f x) := by
  have hi := (List.getElem?_eq_some_iff.1 hx).1
  obtain ⟨g, cur, rfl, _⟩ := ho.ptr (by omega)
  have hs := ho.sl hf
  have hn := ho.len
  obtain ⟨ad', cs, ha, hcl, hcs, rfl⟩ := hs.at_ hx
  cases ha
  have e1 : (⟨g, 0, none⟩ : Addr).add (i * size) = ⟨g, i * size, none⟩ := by rw [addr_add]; simp
  refine ⟨g, rfl, ?_, ?_⟩
  · have := gives_index (P := P) (t := t) (k := k) (ad := ⟨g, 0, none⟩) (len := n) (cap := c) (i := i) ht hz (by omega)
    rw [e1] at this
    exact this
  · intro j v hv
    have := hcs j v hv
    rw [e1] at this
    exact this
end
end Go.Vc

/- sums.Right, Add, Of. -/
set_option maxRecDepth 20000
namespace Go.Vc.V
open Go Go.Vc Go.RowKit Go.Proofs Vce

abbrev arrV (a b c d : Int) : Value := .agg #[.int .i64 a, .int .i64 b, .int .i64 c, .int .i64 d]
def sumR (a b c d : Int) : Prop := (0 ≤ a ∧ a ≤ 1152921504606846976) ∧ (0 ≤ b ∧ b ≤ 1152921504606846976) ∧ (0 ≤ c ∧ c ≤ 1152921504606846976) ∧ (0 ≤ d ∧ d ≤ 1152921504606846976)
instance (a b c d : Int) : Decidable (sumR a b c d) := by unfold sumR; infer_instance
abbrev pairA (a b c d : Int) (o : Bool) : Value := .tuple #[arrV a b c d, .bool o]
def sumA (a0 a1 a2 a3 b0 b1 b2 b3 : Int) : Value := if sumR a0 a1 a2 a3 ∧ sumR b0 b1 b2 b3 ∧ sumR (a0 + b0) (a1 + b1) (a2 + b2) (a3 + b3) then pairA (a0 + b0) (a1 + b1) (a2 + b2) (a3 + b3) true else pairA 0 0 0 0 false

theorem c26 (a b c d : Int) (w : World) : Ret Try.prog 26 #[arrV a b c d] w (.bool (decide (sumR a b c d))) := by
  intro R h
  refine f26_calls a b c d w R ?_
  unfold f26_vc
  have hA := At.refl w
  refine go_n hA fun n1 h_n1 => ?_
  have no : ¬ sumR a b c d → ∀ W, At w [n1] W → R (.returned (.bool false)) W := fun hn W hA => leaf h hA (by rw [decide_eq_false hn])
  unfold sumR at no
  refine brD (fun h1 => go_below hA fun _ hA => no (by omega) _ hA) (fun h1 => ?_)
  refine brD (fun h2 => go_below hA fun _ hA => no (by omega) _ hA) (fun h2 => ?_)
  refine brD (fun h3 => go_below hA fun _ hA => no (by omega) _ hA) (fun h3 => ?_)
  refine brD (fun h4 => go_below hA fun _ hA => no (by omega) _ hA) (fun h4 => ?_)
  refine brD (fun h5 => go_below hA fun _ hA => no (by omega) _ hA) (fun h5 => ?_)
  refine brD (fun h6 => go_below hA fun _ hA => no (by omega) _ hA) (fun h6 => ?_)
  refine brD (fun h7 => go_below hA fun _ hA => no (by omega) _ hA) (fun h7 => ?_)
  refine brD (fun h8 => go_below hA fun _ hA => no (by omega) _ hA) (fun h8 => ?_)
  refine go_below hA fun _ hA => ?_
  exact leaf h hA (by rw [decide_eq_true (show sumR a b c d by unfold sumR; omega)])


theorem c15 (a0 a1 a2 a3 b0 b1 b2 b3 : Int) (w : World) : Ret Try.prog 15 #[arrV a0 a1 a2 a3, arrV b0 b1 b2 b3] w (sumA a0 a1 a2 a3 b0 b1 b2 b3) := by
  intro R h
  refine f15_calls a0 a1 a2 a3 b0 b1 b2 b3 w R ?_
  unfold f15_vc
  have hA := At.refl w
  refine go_n hA fun n1 h_n1 => ?_
  refine go_n hA fun n2 h_n2 => ?_
  refine go_n hA fun n3 h_n3 => ?_
  refine go_below hA fun _ hA => ?_
  refine at_call hA (c26 _ _ _ _ _) (fun _ hA hk => ⟨_, rfl, hk, ?_⟩)
  refine brND (fun hr => go_evo hA (by intro d hd; simp at hd; omega) fun _ hA => leaf h hA (by rw [sumA, if_neg (fun hh => hr hh.1)])) (fun ha => ?_)
  refine at_call hA (c26 _ _ _ _ _) (fun _ hA hk => ⟨_, rfl, hk, ?_⟩)
  refine brND (fun hr => go_evo hA (by intro d hd; simp at hd; omega) fun _ hA => leaf h hA (by rw [sumA, if_neg (fun hh => hr hh.2.1)])) (fun hb => ?_)
  have ha' := ha
  have hb' := hb
  unfold sumR at ha' hb'
  rw [wrap_i64 (x := a0 + b0) (by omega) (by omega), wrap_i64 (x := a1 + b1) (by omega) (by omega), wrap_i64 (x := a2 + b2) (by omega) (by omega), wrap_i64 (x := a3 + b3) (by omega) (by omega)]
  refine go_evo hA (by intro d hd; simp at hd; omega) fun _ hA => ?_
  refine at_call hA (c26 _ _ _ _ _) (fun _ hA hk => ⟨_, rfl, hk, ?_⟩)
  exact brND (fun hr => go_evo hA (by intro d hd; simp at hd; omega) fun _ hA => leaf h hA (by rw [sumA, if_neg (fun hh => hr hh.2.2)])) (fun hc => go_evo hA (by intro d hd; simp at hd; omega) fun _ hA => leaf h hA (by rw [sumA, if_pos ⟨ha, hb, hc⟩]))


theorem arr_elt {W : World} {l : List Int} {ad : Addr} {n c : Nat} (hs : SlE W 1 one l (some ad) n c) (hsp : ad.spot = none) : Elt W ad (l.map fun x => Value.int .i64 x) := by
  intro j v hv
  rw [List.getElem?_map] at hv
  cases hx : l[j]? with
  | none => rw [hx] at hv; cases hv
  | some x =>
    rw [hx] at hv
    cases hv
    obtain ⟨ad', cs, ha, hl, hcs, rfl⟩ := hs.at_ hx
    cases ha
    have := hcs 0 _ rfl
    rw [addr_add_add _ _ _ hsp] at this
    simpa using this


theorem vec_bound {k : Int} {l : List PartT} (h : vecB l = true) : 0 ≤ sumK k l ∧ sumK k l ≤ 297237575406452736 := by
  have hs := slots_of h
  have hb := (vecB_iff.1 h)
  rw [sumK_tot k hs]
  have : ∀ n, n ≤ 33 → 0 ≤ rsum (fun r => tot (k, (r : Int)) l) n ∧ rsum (fun r => tot (k, (r : Int)) l) n ≤ 9007199254740992 * n := fun n => by
    induction n with
    | zero => intro _; simp [rsum]
    | succ n ih =>
      intro hn
      have ih := ih (by omega)
      have := amt_nonneg (s := (k, (n : Int))) hb.1
      rw [amt_tot hb.2] at this
      rw [rsum]
      omega
  have := this 33 (Nat.le_refl _)
  omega
theorem vec_take {l : List PartT} (n : Nat) (h : vecB l = true) : vecB (l.take n) = true :=
  vecB_iff.2 ⟨fun p hp => (vecB_iff.1 h).1 p (List.mem_of_mem_take hp), (vecB_iff.1 h).2.sublist (List.take_sublist n l)⟩
def sumL (l : List PartT) : List Int := [sumK 0 l, sumK 1 l, sumK 2 l, sumK 3 l]
theorem sumL_snoc {l : List PartT} {p : PartT} {k : Nat} (hp : p.1 = k) (hk : k < 4) : sumL (l ++ [p]) = (sumL l).set k (sumK p.1 l + p.2.2) ∧ (sumL l)[k]? = some (sumK p.1 l) := by
  have e : ∀ j : Int, sumK j (l ++ [p]) = sumK j l + (if p.1 = j then p.2.2 else 0) := fun j => by rw [sumK_append]; simp [sumK]
  have hc : k = 0 ∨ k = 1 ∨ k = 2 ∨ k = 3 := by omega
  unfold sumL
  simp only [e, hp]
  rcases hc with rfl | rfl | rfl | rfl <;> simp

def ofV (l : List PartT) : Value := if vecB l = true then arrV (sumK 0 l) (sumK 1 l) (sumK 2 l) (sumK 3 l) else arrV 0 0 0 0


theorem c14 {l : List PartT} {a : Option Addr} {n c : Nat} (w : World) (hs : SlE w 3 partE l a n c) : Ret Try.prog 14 #[.slice a n c] w (ofV l) := by
  intro R h
  refine f14_calls a n c w R ?_
  unfold f14_vc
  have hA := At.refl w
  have hn := hs.1
  subst hn
  have hlen := hs.len_le.2
  refine go_n hA fun n1 h_n1 => ?_
  refine go_below hA fun w2 hA => ?_
  refine opw_allocArr (n := 4) (size := 1) (f := one) (z := (0 : Int)) hA (zv := arrV 0 0 0 0) (by kernel_rfl) rfl rfl (by decide) fun w4 hA hk ho => ⟨_, rfl, hk, ?_⟩
  generalize hg : w2.heap.size = g at ho
  refine at_callb hA (c25 _ (hs.call hA.below)) (fun w7 hA hk hb => ⟨_, rfl, hk, ?_⟩)
  have ho := ho.call hb
  have rdA : ∀ {W : World} {gs : List Nat} {x0 x1 x2 x3 : Int}, OwnL w gs W 37 1 one (.slice (some ⟨g, 0, none⟩) 4 4) [x0, x1, x2, x3] → Reads Try.prog [] (Instr.loadAt 37 (.pointer (some ⟨g, 0, none⟩))) W (arrV x0 x1 x2 x3) := fun ho =>
    Elt.agg 4 (arr_elt (ho.sl (by simp)) rfl) (by kernel_rfl) (by kernel_rfl) (by simp) no_ds
  refine brNB (fun hno => ⟨_, _, _, _, rdA ho, ?_⟩) (fun hv => ?_)
  · refine go_evo hA (by intro d hd; simp at hd; omega) fun _ hA => ?_
    exact leaf h hA (by rw [ofV, if_neg (by rw [hno]; decide)])
  have hat : ∀ {W : World} {gs : List Nat} {i : Nat} {x : PartT}, At w gs W → l[i]? = some x → ∃ ad, Gives Try.prog (Instr.indexAt 26 (.slice a l.length c) (.int .i64 (i : Int))) (.pointer (some ad)) ∧ Reads Try.prog [] (Instr.loadAt 55 (.pointer (some ad))) W (partV x) := fun hA hx =>
    rd_agg (f := partE) (hs.call hA.below) hx (e := 55) (by kernel_rfl) (by kernel_rfl) (by kernel_rfl) (by kernel_rfl) (fun _ h => by cases h)
  refine ⟨fun s W => At w [n1] W ∧ ∃ k : Nat, s.1 = k ∧ k ≤ l.length ∧ OwnL w [n1] W 37 1 one (.slice (some ⟨g, 0, none⟩) 4 4) (sumL (l.take k)), fun s _ => l.length - s.1.toNat, ⟨hA, 0, rfl, Nat.zero_le _, ho⟩, ?_⟩
  intro i W ⟨hA, k, hi, hk, ho⟩
  simp only at hi
  subst hi
  refine brD (fun hlt => ?_) (fun hge => ?_)
  · obtain ⟨p, hp⟩ : ∃ x, l[k]? = some x := ⟨_, List.getElem?_eq_getElem (by omega)⟩
    obtain ⟨ad, g1, r1⟩ := hat hA hp
    have e1 : IntKind.i64.wrap ((k : Int) + 1) = ((k + 1 : Nat) : Int) := by rw [wrap_i64 (by omega) (by omega)]; rfl
    rw [e1]
    refine ⟨_, g1, _, _, _, r1, fun n22 hn22 => ?_⟩
    have hpr := (vecB_iff.1 hv).1 p (List.mem_of_getElem? hp)
    have hsl : 0 ≤ p.1 ∧ p.1 < 4 := ⟨hpr.1.1, hpr.1.2.1⟩
    obtain ⟨kk, hkk⟩ : ∃ kk : Nat, p.1 = kk := ⟨p.1.toNat, by omega⟩
    have hkk4 : kk < 4 := by omega
    obtain ⟨hset, hget⟩ := sumL_snoc (l := l.take k) hkk hkk4
    have htk : l.take k ++ [p] = l.take (k + 1) := by rw [List.take_add_one, hp]; rfl
    rw [htk] at hset
    have hb0 := vec_bound (k := p.1) (vec_take k hv)
    have hb1 := hpr.2
    have hx : Reads Try.prog [n22] (Instr.loadAt 2 (.pointer (some (Addr.add ⟨g, 0, none⟩ (kk * 1))))) W (.int .i64 (sumK p.1 (l.take k))) := by
      obtain ⟨ad', cs, ha, hl, hcs, rfl⟩ := (ho.sl (by simp)).at_ hget
      cases ha
      refine reads_one (by kernel_rfl) (fun d hd => ?_) (by have := hcs 0 _ rfl; rw [addr_add0] at this; exact this)
      simp at hd
      subst hd
      rw [add_block]
      have := World.block_lt_of_cell? W _ (hcs 0 _ rfl)
      rw [add_block, add_block] at this
      simp only at this ⊢
      omega
    have hgx : Gives Try.prog (Instr.indexAt 37 (.pointer (some ⟨g, 0, none⟩)) (.int .i64 p.1)) (.pointer (some (Addr.add ⟨g, 0, none⟩ (kk * 1)))) := by
      rw [hkk]
      exact gives_index_arr (e := 2) (by kernel_rfl) (by kernel_rfl) hkk4
    refine ⟨_, hgx, _, hx, _, hgx, ?_⟩
    have hsz := hA.size
    refine go_evo_too hA (by intro d hd; simp at hd; omega) fun w26 hA26 hev => ?_
    have ho26 := (ho.more (gs' := [n1, n22]) (by intro g' h1 h2; simp at h1 h2; omega)).evo (by intro d hd h2; simp at hd h2; omega) hev
    rw [wrap_i64 (by omega) (by omega)]
    refine opw_store (y := sumK p.1 (l.take k) + p.2.2) (i := kk) hA26 ho26 (by simp) (by simpa [sumL] using hkk4) rfl rfl rfl (by kernel_rfl) (fun w28 hA28 hk28 _ ho28 => ⟨hk28, ⟨⟨hA28.chg, fun g hg => hA28.under g (by simp at hg ⊢; omega)⟩, k + 1, rfl, by omega, ?_⟩, by show l.length - ((k + 1 : Nat) : Int).toNat < l.length - (k : Int).toNat; omega⟩) (fun g' hg' => by cases hg'; exact addr_add _ _ _ ▸ (by simp))
    rw [← hset] at ho28
    exact ho28.more (by intro g' h1 h2; simp at h1 h2; omega)
  · have hke : k = l.length := by omega
    subst hke
    rw [List.take_length] at ho
    refine ⟨_, _, _, _, rdA ho, ?_⟩
    refine go_evo hA (by intro d hd; simp at hd; omega) fun _ hA => ?_
    exact leaf h hA (by rw [ofV, if_pos hv])

/-! ### Move -/
def mvP (f t : Int) (p : PartT) : PartT := if p.2.1 = f then (p.1, t, p.2.2) else p
def vmove (l : List PartT) (f t : Int) : Option (List PartT) := if vecB l = true ∧ slotR 0 f ∧ slotR 0 t then vof (l.map (mvP f t)) else none
end Go.Vc.V

/- vec.Move. -/
set_option maxRecDepth 20000
set_option maxHeartbeats 1000000
namespace Go.Vc.V
open Go Go.Vc Go.RowKit Go.Proofs Vce

theorem c16 {l : List PartT} {a : Option Addr} {n c : Nat} (f t : Int) (w : World) (hs : SlE w 3 partE l a n c) (hl : l.length ≤ 1000000) : RetLB Try.prog 16 #[.slice a n c, .int .i64 f, .int .i64 t] w 55 3 partE (vout (vmove l f t)) (vmove l f t).isSome := by
  intro R h
  refine f16_calls a n c f t w R ?_
  unfold f16_vc
  have no : ∀ {W : World} {gs}, At w gs W → ¬ (vecB l = true ∧ slotR 0 f ∧ slotR 0 t) → R (.returned (.tuple #[.slice none 0 0, .bool false])) W := fun hA hn =>
    leaflb h hA OwnL.nil (by unfold vmove; rw [if_neg hn]; rfl) (by unfold vmove; rw [if_neg hn]; rfl)
  refine at_callb (At.refl w) (c25 w hs) fun w2 hA _ hb2 => ⟨_, rfl, brNB (fun hv => no hA fun hh => by rw [hv] at hh; cases hh.1) (fun hv => ?_)⟩
  refine at_callb hA (c27 0 f w2) fun w5 hA _ hb5 => ⟨_, rfl, brND (fun hf => no hA fun hh => hf hh.2.1) (fun hf => ?_)⟩
  refine at_callb hA (c27 0 t w5) fun w8 hA _ hb8 => ⟨_, rfl, brND (fun ht => no hA fun hh => ht hh.2.2) (fun ht => ?_)⟩
  have hyes : vmove l f t = vof (l.map (mvP f t)) := if_pos ⟨hv, hf, ht⟩
  rw [hyes] at h
  refine at_calll hA (c22 w8 (hs.call hA.below) hl) (fun _ _ => rfl) fun a12 c12 w11 hA _ _ ho _ => ⟨_, _, _, rfl, ?_⟩
  refine ⟨fun v W => At w [] W ∧ ∃ i : Nat, v.1 = i ∧ i ≤ l.length ∧ OwnL w [] W 55 3 partE (.slice a12 l.length c12) ((l.take i).map (mvP f t) ++ l.drop i), fun v _ => (l.length - v.1).toNat, ⟨hA, 0, rfl, Nat.zero_le _, by simpa using ho⟩, ?_⟩
  rintro x17 w18 ⟨hA, i, hi, hil, ho⟩
  simp only at hi
  subst hi
  refine brD (fun hlt => ?_) (fun hge => ?_)
  · obtain ⟨p, hp⟩ : ∃ x, l[i]? = some x := ⟨_, List.getElem?_eq_getElem (by omega)⟩
    have htk : l.take (i + 1) = l.take i ++ [p] := by rw [List.take_add_one, hp]; rfl
    have hli : ((l.take i).map (mvP f t)).length = i := by rw [List.length_map, List.length_take]; omega
    have hdr := drop_cons hp
    have hx : ((l.take i).map (mvP f t) ++ l.drop i)[i]? = some p := by
      rw [List.getElem?_append_right (by omega), hli, Nat.sub_self, hdr]; rfl
    obtain ⟨g, hag, g1, el⟩ := own_elt (P := Try.prog) (k := .i64) (t := 26) ho (fun _ _ => rfl) hx (by kernel_rfl) (by kernel_rfl)
    refine ⟨_, g1, _, (el.sub (o := 1) (by decide)).one (by kernel_rfl) (by simp), brE (fun he => ?_) (fun hne => ?_)⟩
    · refine ⟨_, g1, ?_⟩
      refine opw_storeP (i := i) (o := 1) (m := 1) (x0 := p) (y := mvP f t p) hA ho (fun _ _ => rfl) hx (by decide) ?_ rfl rfl (by kernel_rfl) (fun g' hg' => ?_) fun w23 hA _ _ ho => ?_
      · unfold mvP
        rw [if_pos he]
        rfl
      · rw [hag] at hg'
        cases hg'
        rfl
      · rw [succ_i i (by omega)]
        refine ⟨⟨hA, i + 1, rfl, by omega, ?_⟩, by simp only; omega⟩
        have e : ((l.take i).map (mvP f t) ++ l.drop i).set i (mvP f t p) = (l.take (i + 1)).map (mvP f t) ++ l.drop (i + 1) := by
          rw [List.set_append_right _ _ (by omega), hli, Nat.sub_self, hdr, htk, List.map_append]
          simp
        rw [← e]
        exact ho
    · rw [succ_i i (by omega)]
      refine ⟨⟨hA, i + 1, rfl, by omega, ?_⟩, by simp only; omega⟩
      have e : (l.take i).map (mvP f t) ++ l.drop i = (l.take (i + 1)).map (mvP f t) ++ l.drop (i + 1) := by
        rw [hdr, htk, List.map_append]
        simp [mvP, hne]
      rw [← e]
      exact ho
  · have hie : i = l.length := by omega
    subst hie
    rw [List.take_length, List.drop_length, List.append_nil] at ho
    have hs' := ho.sl fun _ _ => rfl
    have hR := (vecB_iff.1 hv).1
    have ho' : (l.map (mvP f t)).length = l.length := List.length_map ..
    refine at_calllb hA (c28 w18 (n := l.length) hs' (by omega) (fun p hp => ?_)) (fun _ _ => rfl) fun a26 c26 w25 hA _ _ ho _ => ⟨_, _, _, _, rfl, leaflb h hA ho rfl rfl⟩
    obtain ⟨q, hq, rfl⟩ := List.mem_map.1 hp
    have := (hR q hq).2
    have e : (mvP f t q).2.2 = q.2.2 := by unfold mvP; split <;> rfl
    rw [e]
    unfold I64
    omega
end Go.Vc.V

/- What operations do to a pool, plainly. -/
set_option maxRecDepth 20000
namespace Go.Vc.V
open Go Go.Vc Go.RowKit

abbrev OpT := Int × Int × List PartT
/-- May an operation, of a role, take what is of another one? -/
def may (kind role r : Int) : Bool := if kind = 1 then decide (r = 0 ∨ r = role) else if kind = 2 then decide (r = 0) else decide (r = role)
def okK (kind : Int) : Bool := decide (1 ≤ kind ∧ kind ≤ 3)
def fromR (kind role : Int) : Int := if kind = 3 then role else 0
def toR (kind role : Int) : Int := if kind = 1 then -1 else if kind = 2 then role else 0
def foreignO (role : Int) (o : OpT) : Bool := okK o.1 && o.2.2.any fun p => !may o.1 role p.2.1
def foreign (role : Int) (ops : List OpT) : Bool := ops.any (foreignO role)
def badO (o : OpT) : Bool := !okK o.1 || (decide (o.2.2 = []) || !vecB o.2.2)
def checkL (all : List PartT) (role : Int) (ops : List OpT) : Int :=
  if vecB all = false ∨ role < 1 ∨ role > 32 then 41 else if ops.any badO = true then 41 else if foreign role ops = true then 27 else 0
/-- One operation: what is left, or why not. -/
def doL (kind role : Int) (rest v : List PartT) : List PartT × Int :=
  if vecB rest = true ∧ vecB v = true ∧ (vsub rest v).isSome = true then
    (if toR kind role < 0 then (vout (vsub rest v), 0)
     else if vecB (vout (vmove v (fromR kind role) (toR kind role))) = true ∧ (vadd (vout (vsub rest v)) (vout (vmove v (fromR kind role) (toR kind role)))).isSome = true then (vout (vadd (vout (vsub rest v)) (vout (vmove v (fromR kind role) (toR kind role)))), 0)
     else ([], 31))
  else ([], 30)
def stepsL (role but : Int) : List PartT → List OpT → List PartT × Int
  | rest, [] => (rest, 0)
  | rest, o :: r => if o.1 = but then stepsL role but rest r else if (doL o.1 role rest o.2.2).2 = 0 then stepsL role but (doL o.1 role rest o.2.2).1 r else doL o.1 role rest o.2.2
def runL (all : List PartT) (role : Int) (ops : List OpT) (but : Int) : List PartT × Int :=
  if checkL all role ops ≠ 0 then ([], checkL all role ops) else stepsL role but all ops

/-! ### All of one role is moved -/
theorem vof_self {l : List PartT} (h : vecB l = true) : vof l = some l := by
  have hv := vecB_iff.1 h
  have hle : ∀ s, tot s l ≤ topQ := fun s => by rw [← amt_tot hv.2]; exact (amt_nonneg hv.1).2
  have : vof l = some (canon l) := by
    unfold vof
    rw [if_pos ⟨fun p hp => ⟨(hv.1 p hp).1, by have := (hv.1 p hp).2; omega⟩, fun p _ => hle _⟩]
  obtain ⟨h1, h2, _⟩ := vof_some this
  rw [this, vec_ext h1 h fun s => by rw [h2 s, amt_tot hv.2]]
theorem mv_all {l : List PartT} {f t : Int} (h : ∀ p ∈ l, p.2.1 = f) : l.map (mvP f t) = l.map fun p => (p.1, t, p.2.2) :=
  List.map_congr_left fun p hp => if_pos (h p hp)
theorem mv_vec {l : List PartT} {f t : Int} (hv : vecB l = true) (h : ∀ p ∈ l, p.2.1 = f) (ht : 0 ≤ t ∧ t ≤ 32) : vecB (l.map fun p => (p.1, t, p.2.2)) = true := by
  have hv := vecB_iff.1 hv
  rw [vecB_iff]
  refine ⟨fun p hp => ?_, ?_⟩
  · obtain ⟨q, hq, rfl⟩ := List.mem_map.1 hp
    have := hv.1 q hq
    unfold partR slotR at *
    simp only
    omega
  · rw [List.pairwise_map]
    refine hv.2.imp_of_mem fun {p q} hp hq hlt => ?_
    have h1 := h p hp
    have h2 := h q hq
    unfold slt at *
    simp only
    omega
theorem vmove_all {l : List PartT} {f t : Int} (hv : vecB l = true) (h : ∀ p ∈ l, p.2.1 = f) (hf : 0 ≤ f ∧ f ≤ 32) (ht : 0 ≤ t ∧ t ≤ 32) : vmove l f t = some (l.map fun p => (p.1, t, p.2.2)) := by
  unfold vmove
  rw [if_pos ⟨hv, ⟨by omega, by omega, hf.1, hf.2⟩, ⟨by omega, by omega, ht.1, ht.2⟩⟩, mv_all h, vof_self (mv_vec hv h ht)]
theorem sumK_role (k t : Int) : ∀ l : List PartT, sumK k (l.map fun p => (p.1, t, p.2.2)) = sumK k l
  | [] => rfl
  | p :: l => by simp only [List.map_cons, sumK, sumK_role k t l]
end Go.Vc.V

/- The formulas of functions, printed by a program (VcTool.lean): each is what the generator's formula comes to, by the kernel's reckoning; whoever proves one has the function's contract. -/
set_option maxRecDepth 100000
set_option maxHeartbeats 1000000
set_option linter.unusedVariables false
namespace Vce
open Go Go.Vc Go.RowKit
/-! manciple/manciplelaw15.few -/
def h6 : Hints := ⟨[], [], [8], [], [], [], [], [], []⟩
def f6_vc (va : Option Addr) (vn : Nat) (vc : Nat) (opsa : Option Addr) (opsn : Nat) (opsc : Nat) (w : World) (R : Ending → World → Prop) : Prop :=
 (decide ((↑vn : Int) ≤ 150) = true →
 Calls Proofs.Try.prog 20
 #[Value.agg
 #[Value.int IntKind.i64 0, Value.int IntKind.i64 0, Value.int IntKind.i64 0, Value.int IntKind.i64 0, Value.int IntKind.i64 0, Value.int IntKind.i64 0, Value.int IntKind.i64 0, Value.slice none 0 0, Value.slice none 0 0,
 Value.slice opsa opsn opsc]]
 w fun (e1 : Ending) (w2 : World) => ∃ (b3 : Bool), e1 = Ending.returned (Value.bool b3) ∧ R (Ending.returned (Value.bool b3)) w2) ∧
 (decide ((↑vn : Int) ≤ 150) = false → R (Ending.returned (Value.bool false)) w)
theorem f6_eq (va : Option Addr) (vn : Nat) (vc : Nat) (opsa : Option Addr) (opsn : Nat) (opsc : Nat) (w : World) (R : Ending → World → Prop) : (fnF Go.Proofs.Try.prog h6 Go.Proofs.Try.f6 [Value.slice va vn vc, Value.slice opsa opsn opsc] w R).den = f6_vc va vn vc opsa opsn opsc w R := by kernel_rfl
theorem f6_calls (va : Option Addr) (vn : Nat) (vc : Nat) (opsa : Option Addr) (opsn : Nat) (opsc : Nat) (w : World) (R : Ending → World → Prop) (h : f6_vc va vn vc opsa opsn opsc w R) : Calls Go.Proofs.Try.prog 6 (List.toArray [Value.slice va vn vc, Value.slice opsa opsn opsc]) w R :=
 fn_sound (H := h6) (fn := Go.Proofs.Try.f6) (by kernel_rfl) (by kernel_rfl) (by kernel_rfl) ((f6_eq va vn vc opsa opsn opsc w R).mpr h)


/-! manciple/mancipleref15.Events -/
def h7 : Hints := ⟨[9], [18], [13, 22, 34, 44], [], [], [(3, ⟨[(7, .sl), (8, .int .i64)], []⟩)], [], [], []⟩
def f7_vc (frame : Int) (agent : Int) (opsa : Option Addr) (opsn : Nat) (opsc : Nat) (w : World) (R : Ending → World → Prop) : Prop :=
 ∃ (J1 : (Option Addr × Nat × Nat) × Int × Unit → World → Prop),
 ∃ (J2 : (Option Addr × Nat × Nat) × Int × Unit → World → Nat),
 J1 ((none, 0, 0), 0, ()) w ∧
 ∀ (a3 : Option Addr) (n4 n5 : Nat) (x6 : Int) (w7 : World),
 J1 ((a3, n4, n5), x6, ()) w7 →
 (decide (x6 < (↑opsn : Int)) = true →
 ∃ (ad8 : Addr),
 Gives Proofs.Try.prog (Instr.indexAt 22 (Value.slice opsa opsn opsc) (Value.int IntKind.i64 x6)) (Value.pointer (some ad8)) ∧
 ∃ (x9 : Int),
 ∃ (x10 : Int),
 ∃ (a11 : Option Addr),
 ∃ (n12 : Nat),
 ∃ (n13 : Nat),
 Reads Proofs.Try.prog [] (Instr.loadAt 40 (Value.pointer (some ad8))) w7 (Value.agg #[Value.int IntKind.i64 x9, Value.int IntKind.i64 x10, Value.slice a11 n12 n13]) ∧
 ∀ (n14 : Nat),
 w7.heap.size ≤ n14 →
 ((x9 == 1) = true →
 ∀ (w15 : World),
 Evo [n14] w7 w15 →
 Under [n14] w15 →
 OpW Proofs.Try.prog
 (valueS (Instr.buildSlice 24 1 #[(0, Value.agg #[Value.int IntKind.i64 13, Value.int IntKind.i64 frame, Value.int IntKind.i64 x10, Value.int IntKind.i64 agent, Value.slice a11 n12 n13])])) w15
 fun (v16 : Value) (w17 : World) =>
 ∃ (a18 : Option Addr),
 ∃ (n19 : Nat),
 ∃ (n20 : Nat),
 v16 = Value.slice a18 n19 n20 ∧
 Keeps [n14] w15 w17 ∧
 OpW Proofs.Try.prog (builtin Builtin.append #[24, 24] 24 #[false, false] #[Value.slice a3 n4 n5, Value.slice a18 n19 n20]) w17 fun (v21 : Value) (w22 : World) =>
 ∃ (a23 : Option Addr),
 ∃ (n24 : Nat),
 ∃ (n25 : Nat),
 v21 = Value.slice a23 n24 n25 ∧
 Keeps [n14] w17 w22 ∧ J1 ((a23, n24, n25), IntKind.i64.wrap (x6 + 1), ()) w22 ∧ J2 ((a23, n24, n25), IntKind.i64.wrap (x6 + 1), ()) w22 < J2 ((a3, n4, n5), x6, ()) w7) ∧
 ((x9 == 1) = false →
 ((x9 == 2) = true →
 ∀ (w26 : World),
 Evo [n14] w7 w26 →
 Under [n14] w26 →
 OpW Proofs.Try.prog
 (valueS (Instr.buildSlice 24 1 #[(0, Value.agg #[Value.int IntKind.i64 18, Value.int IntKind.i64 frame, Value.int IntKind.i64 0, Value.int IntKind.i64 agent, Value.slice a11 n12 n13])])) w26
 fun (v27 : Value) (w28 : World) =>
 ∃ (a29 : Option Addr),
 ∃ (n30 : Nat),
 ∃ (n31 : Nat),
 v27 = Value.slice a29 n30 n31 ∧
 Keeps [n14] w26 w28 ∧
 OpW Proofs.Try.prog (builtin Builtin.append #[24, 24] 24 #[false, false] #[Value.slice a3 n4 n5, Value.slice a29 n30 n31]) w28 fun (v32 : Value) (w33 : World) =>
 ∃ (a34 : Option Addr),
 ∃ (n35 : Nat),
 ∃ (n36 : Nat),
 v32 = Value.slice a34 n35 n36 ∧
 Keeps [n14] w28 w33 ∧ J1 ((a34, n35, n36), IntKind.i64.wrap (x6 + 1), ()) w33 ∧ J2 ((a34, n35, n36), IntKind.i64.wrap (x6 + 1), ()) w33 < J2 ((a3, n4, n5), x6, ()) w7) ∧
 ((x9 == 2) = false →
 ((x9 == 3) = true →
 ∀ (w37 : World),
 Evo [n14] w7 w37 →
 Under [n14] w37 →
 OpW Proofs.Try.prog
 (valueS (Instr.buildSlice 24 1 #[(0, Value.agg #[Value.int IntKind.i64 19, Value.int IntKind.i64 frame, Value.int IntKind.i64 0, Value.int IntKind.i64 agent, Value.slice a11 n12 n13])]))
 w37 fun (v38 : Value) (w39 : World) =>
 ∃ (a40 : Option Addr),
 ∃ (n41 : Nat),
 ∃ (n42 : Nat),
 v38 = Value.slice a40 n41 n42 ∧
 Keeps [n14] w37 w39 ∧
 OpW Proofs.Try.prog (builtin Builtin.append #[24, 24] 24 #[false, false] #[Value.slice a3 n4 n5, Value.slice a40 n41 n42]) w39 fun (v43 : Value) (w44 : World) =>
 ∃ (a45 : Option Addr),
 ∃ (n46 : Nat),
 ∃ (n47 : Nat),
 v43 = Value.slice a45 n46 n47 ∧
 Keeps [n14] w39 w44 ∧
 J1 ((a45, n46, n47), IntKind.i64.wrap (x6 + 1), ()) w44 ∧ J2 ((a45, n46, n47), IntKind.i64.wrap (x6 + 1), ()) w44 < J2 ((a3, n4, n5), x6, ()) w7) ∧
 ((x9 == 3) = false →
 ∀ (w48 : World),
 Evo [n14] w7 w48 → Under [n14] w48 → J1 ((a3, n4, n5), IntKind.i64.wrap (x6 + 1), ()) w48 ∧ J2 ((a3, n4, n5), IntKind.i64.wrap (x6 + 1), ()) w48 < J2 ((a3, n4, n5), x6, ()) w7)))) ∧
 (decide (x6 < (↑opsn : Int)) = false → R (Ending.returned (Value.slice a3 n4 n5)) w7)
theorem f7_eq (frame : Int) (agent : Int) (opsa : Option Addr) (opsn : Nat) (opsc : Nat) (w : World) (R : Ending → World → Prop) : (fnF Go.Proofs.Try.prog h7 Go.Proofs.Try.f7 [Value.int IntKind.i64 frame, Value.int IntKind.i64 agent, Value.slice opsa opsn opsc] w R).den = f7_vc frame agent opsa opsn opsc w R := by kernel_rfl
theorem f7_calls (frame : Int) (agent : Int) (opsa : Option Addr) (opsn : Nat) (opsc : Nat) (w : World) (R : Ending → World → Prop) (h : f7_vc frame agent opsa opsn opsc w R) : Calls Go.Proofs.Try.prog 7 (List.toArray [Value.int IntKind.i64 frame, Value.int IntKind.i64 agent, Value.slice opsa opsn opsc]) w R :=
 fn_sound (H := h7) (fn := Go.Proofs.Try.f7) (by kernel_rfl) (by kernel_rfl) (by kernel_rfl) ((f7_eq frame agent opsa opsn opsc w R).mpr h)


/-! manciple/mancipleref15.SameEvents -/
def h8 : Hints := ⟨[], [19, 24, 31, 36, 44, 49, 57, 62, 70, 75], [10, 14, 80, 28, 41, 54, 67], [(6, [0, 1, 2, 3, 4, 5, 6, 7, 8, 9, 10, 11, 12, 13, 14, 15, 16, 17, 18, 19, 20, 21, 22, 23, 24, 25, 26, 27, 28, 29, 30, 31, 32, 33, 34, 35, 36, 37, 38, 39, 40, 41, 42, 43, 44, 45, 46, 47, 48, 49, 50, 51, 52, 53, 54, 55, 56, 57, 58, 59, 60, 61, 62, 63])], [], [(4, ⟨[(5, .int .i64)], []⟩)], [], [], []⟩
def f8_vc (aa : Option Addr) (an : Nat) (ac : Nat) (ba : Option Addr) (bn : Nat) (bc : Nat) (w : World) (R : Ending → World → Prop) : Prop :=
 (((↑an : Int) != (↑bn : Int)) = true → R (Ending.returned (Value.bool false)) w) ∧
 (((↑an : Int) != (↑bn : Int)) = false →
 ∃ (J1 : Int × Unit → World → Prop),
 ∃ (J2 : Int × Unit → World → Nat),
 J1 (0, ()) w ∧
 ∀ (x3 : Int) (w4 : World),
 J1 (x3, ()) w4 →
 (decide (x3 < (↑an : Int)) = true →
 ∃ (ad5 : Addr),
 Gives Proofs.Try.prog (Instr.indexAt 24 (Value.slice aa an ac) (Value.int IntKind.i64 x3)) (Value.pointer (some ad5)) ∧
 ∃ (x6 : Int),
 Reads Proofs.Try.prog [] (Instr.loadAt 3 (Value.pointer (some ad5))) w4 (Value.int IntKind.i64 x6) ∧
 ∃ (ad7 : Addr),
 Gives Proofs.Try.prog (Instr.indexAt 24 (Value.slice ba bn bc) (Value.int IntKind.i64 x3)) (Value.pointer (some ad7)) ∧
 ∃ (x8 : Int),
 Reads Proofs.Try.prog [] (Instr.loadAt 3 (Value.pointer (some ad7))) w4 (Value.int IntKind.i64 x8) ∧
 ((x6 != x8) = true → ∀ (w9 : World), Bel w4 w9 → R (Ending.returned (Value.bool false)) w9) ∧
 ((x6 != x8) = false →
 ∃ (ad10 : Addr),
 Gives Proofs.Try.prog (Instr.indexAt 24 (Value.slice aa an ac) (Value.int IntKind.i64 x3)) (Value.pointer (some ad10)) ∧
 ∃ (x11 : Int),
 Reads Proofs.Try.prog [] (Instr.loadAt 2 (Value.pointer (some (Addr.mk ad10.block (ad10.off + 1) none)))) w4 (Value.int IntKind.i64 x11) ∧
 ∃ (ad12 : Addr),
 Gives Proofs.Try.prog (Instr.indexAt 24 (Value.slice ba bn bc) (Value.int IntKind.i64 x3)) (Value.pointer (some ad12)) ∧
 ∃ (x13 : Int),
 Reads Proofs.Try.prog [] (Instr.loadAt 2 (Value.pointer (some (Addr.mk ad12.block (ad12.off + 1) none)))) w4 (Value.int IntKind.i64 x13) ∧
 ((x11 != x13) = true → ∀ (w14 : World), Bel w4 w14 → R (Ending.returned (Value.bool false)) w14) ∧
 ((x11 != x13) = false →
 ∃ (ad15 : Addr),
 Gives Proofs.Try.prog (Instr.indexAt 24 (Value.slice aa an ac) (Value.int IntKind.i64 x3)) (Value.pointer (some ad15)) ∧
 ∃ (x16 : Int),
 Reads Proofs.Try.prog [] (Instr.loadAt 2 (Value.pointer (some (Addr.mk ad15.block (ad15.off + 2) none)))) w4 (Value.int IntKind.i64 x16) ∧
 ∃ (ad17 : Addr),
 Gives Proofs.Try.prog (Instr.indexAt 24 (Value.slice ba bn bc) (Value.int IntKind.i64 x3)) (Value.pointer (some ad17)) ∧
 ∃ (x18 : Int),
 Reads Proofs.Try.prog [] (Instr.loadAt 2 (Value.pointer (some (Addr.mk ad17.block (ad17.off + 2) none)))) w4 (Value.int IntKind.i64 x18) ∧
 ((x16 != x18) = true → ∀ (w19 : World), Bel w4 w19 → R (Ending.returned (Value.bool false)) w19) ∧
 ((x16 != x18) = false →
 ∃ (ad20 : Addr),
 Gives Proofs.Try.prog (Instr.indexAt 24 (Value.slice aa an ac) (Value.int IntKind.i64 x3)) (Value.pointer (some ad20)) ∧
 ∃ (x21 : Int),
 Reads Proofs.Try.prog [] (Instr.loadAt 2 (Value.pointer (some (Addr.mk ad20.block (ad20.off + 3) none)))) w4 (Value.int IntKind.i64 x21) ∧
 ∃ (ad22 : Addr),
 Gives Proofs.Try.prog (Instr.indexAt 24 (Value.slice ba bn bc) (Value.int IntKind.i64 x3)) (Value.pointer (some ad22)) ∧
 ∃ (x23 : Int),
 Reads Proofs.Try.prog [] (Instr.loadAt 2 (Value.pointer (some (Addr.mk ad22.block (ad22.off + 3) none)))) w4 (Value.int IntKind.i64 x23) ∧
 ((x21 != x23) = true → ∀ (w24 : World), Bel w4 w24 → R (Ending.returned (Value.bool false)) w24) ∧
 ((x21 != x23) = false →
 ∃ (ad25 : Addr),
 Gives Proofs.Try.prog (Instr.indexAt 24 (Value.slice aa an ac) (Value.int IntKind.i64 x3)) (Value.pointer (some ad25)) ∧
 ∃ (a26 : Option Addr),
 ∃ (n27 : Nat),
 ∃ (n28 : Nat),
 Reads Proofs.Try.prog [] (Instr.loadAt 26 (Value.pointer (some (Addr.mk ad25.block (ad25.off + 4) none)))) w4
 (Value.slice a26 n27 n28) ∧
 ∃ (ad29 : Addr),
 Gives Proofs.Try.prog (Instr.indexAt 24 (Value.slice ba bn bc) (Value.int IntKind.i64 x3)) (Value.pointer (some ad29)) ∧
 ∃ (a30 : Option Addr),
 ∃ (n31 : Nat),
 ∃ (n32 : Nat),
 Reads Proofs.Try.prog [] (Instr.loadAt 26 (Value.pointer (some (Addr.mk ad29.block (ad29.off + 4) none)))) w4
 (Value.slice a30 n31 n32) ∧
 ∀ (w33 : World),
 Bel w4 w33 →
 Calls Proofs.Try.prog 21 #[Value.slice a26 n27 n28, Value.slice a30 n31 n32] w33
 fun (e34 : Ending) (w35 : World) =>
 ∃ (b36 : Bool),
 e34 = Ending.returned (Value.bool b36) ∧
 Reads Proofs.Try.prog [] (Instr.loadAt 2 (Value.pointer (some (Addr.mk ad22.block (ad22.off + 3) none))))
 w35 (Value.int IntKind.i64 x23) ∧
 Reads Proofs.Try.prog [] (Instr.loadAt 2 (Value.pointer (some (Addr.mk ad20.block (ad20.off + 3) none))))
 w35 (Value.int IntKind.i64 x21) ∧
 Reads Proofs.Try.prog []
 (Instr.loadAt 2 (Value.pointer (some (Addr.mk ad17.block (ad17.off + 2) none)))) w35
 (Value.int IntKind.i64 x18) ∧
 Reads Proofs.Try.prog []
 (Instr.loadAt 2 (Value.pointer (some (Addr.mk ad15.block (ad15.off + 2) none)))) w35
 (Value.int IntKind.i64 x16) ∧
 Reads Proofs.Try.prog []
 (Instr.loadAt 2 (Value.pointer (some (Addr.mk ad12.block (ad12.off + 1) none)))) w35
 (Value.int IntKind.i64 x13) ∧
 Reads Proofs.Try.prog []
 (Instr.loadAt 2 (Value.pointer (some (Addr.mk ad10.block (ad10.off + 1) none)))) w35
 (Value.int IntKind.i64 x11) ∧
 Reads Proofs.Try.prog [] (Instr.loadAt 3 (Value.pointer (some ad7))) w35
 (Value.int IntKind.i64 x8) ∧
 Reads Proofs.Try.prog [] (Instr.loadAt 3 (Value.pointer (some ad5))) w35
 (Value.int IntKind.i64 x6) ∧
 ((!b36) = true → R (Ending.returned (Value.bool false)) w35) ∧
 ((!b36) = false →
 J1 (IntKind.i64.wrap (x3 + 1), ()) w35 ∧
 J2 (IntKind.i64.wrap (x3 + 1), ()) w35 < J2 (x3, ()) w4)))))) ∧
 (decide (x3 < (↑an : Int)) = false → R (Ending.returned (Value.bool true)) w4))
theorem f8_eq (aa : Option Addr) (an : Nat) (ac : Nat) (ba : Option Addr) (bn : Nat) (bc : Nat) (w : World) (R : Ending → World → Prop) : (fnF Go.Proofs.Try.prog h8 Go.Proofs.Try.f8 [Value.slice aa an ac, Value.slice ba bn bc] w R).den = f8_vc aa an ac ba bn bc w R := by kernel_rfl
theorem f8_calls (aa : Option Addr) (an : Nat) (ac : Nat) (ba : Option Addr) (bn : Nat) (bc : Nat) (w : World) (R : Ending → World → Prop) (h : f8_vc aa an ac ba bn bc w R) : Calls Go.Proofs.Try.prog 8 (List.toArray [Value.slice aa an ac, Value.slice ba bn bc]) w R :=
 fn_sound (H := h8) (fn := Go.Proofs.Try.f8) (by kernel_rfl) (by kernel_rfl) (by kernel_rfl) ((f8_eq aa an ac ba bn bc w R).mpr h)


/-! manciple/pool.Events -/
def h9 : Hints := ⟨[9], [15], [14, 25, 31, 34], [(8, [0, 1, 2, 3, 4, 5])], [], [(3, ⟨[(7, .sl), (13, .int .i64)], []⟩)], [], [], []⟩
def f9_vc (frame : Int) (agent : Int) (opsa : Option Addr) (opsn : Nat) (opsc : Nat) (w : World) (R : Ending → World → Prop) : Prop :=
 ∃ (J1 : (Option Addr × Nat × Nat) × Int × Unit → World → Prop),
 ∃ (J2 : (Option Addr × Nat × Nat) × Int × Unit → World → Nat),
 J1 ((none, 0, 0), 0, ()) w ∧
 ∀ (a3 : Option Addr) (n4 n5 : Nat) (x6 : Int) (w7 : World),
 J1 ((a3, n4, n5), x6, ()) w7 →
 (decide (x6 < (↑opsn : Int)) = true →
 ∃ (ad8 : Addr),
 Gives Proofs.Try.prog (Instr.indexAt 22 (Value.slice opsa opsn opsc) (Value.int IntKind.i64 x6)) (Value.pointer (some ad8)) ∧
 ∃ (x9 : Int),
 ∃ (x10 : Int),
 ∃ (a11 : Option Addr),
 ∃ (n12 : Nat),
 ∃ (n13 : Nat),
 Reads Proofs.Try.prog [] (Instr.loadAt 40 (Value.pointer (some ad8))) w7 (Value.agg #[Value.int IntKind.i64 x9, Value.int IntKind.i64 x10, Value.slice a11 n12 n13]) ∧
 ∀ (n14 : Nat),
 w7.heap.size ≤ n14 →
 ∀ (w15 : World),
 Evo [n14] w7 w15 →
 Under [n14] w15 →
 Calls Proofs.Try.prog 22 #[Value.slice a11 n12 n13] w15 fun (e16 : Ending) (w17 : World) =>
 ∃ (a18 : Option Addr),
 ∃ (n19 : Nat),
 ∃ (n20 : Nat),
 e16 = Ending.returned (Value.slice a18 n19 n20) ∧
 Keeps [n14] w15 w17 ∧
 OpW Proofs.Try.prog (valueS (Instr.alloc 28 true (Value.tuple #[]))) w17 fun (v21 : Value) (w22 : World) =>
 ∃ (ad23 : Addr),
 v21 = Value.pointer (some ad23) ∧
 Keeps [n14] w17 w22 ∧
 OpW Proofs.Try.prog
 (skipS
 (Instr.storeAt 28 (Value.pointer (some ad23))
 (Value.agg #[Value.int IntKind.i64 0, Value.int IntKind.i64 frame, Value.int IntKind.i64 0, Value.int IntKind.i64 agent, Value.slice a18 n19 n20])))
 w22 fun (v24 : Value) (w25 : World) =>
 Keeps [n14] w22 w25 ∧
 ((x9 == 1) = true →
 ∀ (w26 : World),
 Bel w25 w26 →
 Under [n14] w26 →
 OpW Proofs.Try.prog (skipS (Instr.storeAt 3 (Value.pointer (some ad23)) (Value.int IntKind.i64 13))) w26 fun (v27 : Value) (w28 : World) =>
 Keeps [n14] w26 w28 ∧
 OpW Proofs.Try.prog (skipS (Instr.storeAt 2 (Value.pointer (some (Addr.mk ad23.block (ad23.off + 2) none))) (Value.int IntKind.i64 x10))) w28
 fun (v29 : Value) (w30 : World) =>
 Keeps [n14] w28 w30 ∧
 ∃ (x31 : Int),
 ∃ (x32 : Int),
 ∃ (x33 : Int),
 ∃ (x34 : Int),
 ∃ (a35 : Option Addr),
 ∃ (n36 : Nat),
 ∃ (n37 : Nat),
 Reads Proofs.Try.prog [] (Instr.loadAt 28 (Value.pointer (some ad23))) w30
 (Value.agg
 #[Value.int IntKind.i64 x31, Value.int IntKind.i64 x32, Value.int IntKind.i64 x33, Value.int IntKind.i64 x34, Value.slice a35 n36 n37]) ∧
 OpW Proofs.Try.prog
 (valueS
 (Instr.buildSlice 24 1
 #[(0,
 Value.agg
 #[Value.int IntKind.i64 x31, Value.int IntKind.i64 x32, Value.int IntKind.i64 x33, Value.int IntKind.i64 x34,
 Value.slice a35 n36 n37])]))
 w30 fun (v38 : Value) (w39 : World) =>
 ∃ (a40 : Option Addr),
 ∃ (n41 : Nat),
 ∃ (n42 : Nat),
 v38 = Value.slice a40 n41 n42 ∧
 Keeps [n14] w30 w39 ∧
 OpW Proofs.Try.prog (builtin Builtin.append #[24, 24] 24 #[false, false] #[Value.slice a3 n4 n5, Value.slice a40 n41 n42]) w39
 fun (v43 : Value) (w44 : World) =>
 ∃ (a45 : Option Addr),
 ∃ (n46 : Nat),
 ∃ (n47 : Nat),
 v43 = Value.slice a45 n46 n47 ∧
 Keeps [n14] w39 w44 ∧
 J1 ((a45, n46, n47), IntKind.i64.wrap (x6 + 1), ()) w44 ∧
 J2 ((a45, n46, n47), IntKind.i64.wrap (x6 + 1), ()) w44 < J2 ((a3, n4, n5), x6, ()) w7) ∧
 ((x9 == 1) = false →
 ((x9 == 2) = true →
 OpW Proofs.Try.prog (skipS (Instr.storeAt 3 (Value.pointer (some ad23)) (Value.int IntKind.i64 18))) w25 fun (v48 : Value) (w49 : World) =>
 Keeps [n14] w25 w49 ∧
 ∃ (x50 : Int),
 ∃ (x51 : Int),
 ∃ (x52 : Int),
 ∃ (x53 : Int),
 ∃ (a54 : Option Addr),
 ∃ (n55 : Nat),
 ∃ (n56 : Nat),
 Reads Proofs.Try.prog [] (Instr.loadAt 28 (Value.pointer (some ad23))) w49
 (Value.agg
 #[Value.int IntKind.i64 x50, Value.int IntKind.i64 x51, Value.int IntKind.i64 x52, Value.int IntKind.i64 x53, Value.slice a54 n55 n56]) ∧
 OpW Proofs.Try.prog
 (valueS
 (Instr.buildSlice 24 1
 #[(0,
 Value.agg
 #[Value.int IntKind.i64 x50, Value.int IntKind.i64 x51, Value.int IntKind.i64 x52, Value.int IntKind.i64 x53,
 Value.slice a54 n55 n56])]))
 w49 fun (v57 : Value) (w58 : World) =>
 ∃ (a59 : Option Addr),
 ∃ (n60 : Nat),
 ∃ (n61 : Nat),
 v57 = Value.slice a59 n60 n61 ∧
 Keeps [n14] w49 w58 ∧
 OpW Proofs.Try.prog (builtin Builtin.append #[24, 24] 24 #[false, false] #[Value.slice a3 n4 n5, Value.slice a59 n60 n61]) w58
 fun (v62 : Value) (w63 : World) =>
 ∃ (a64 : Option Addr),
 ∃ (n65 : Nat),
 ∃ (n66 : Nat),
 v62 = Value.slice a64 n65 n66 ∧
 Keeps [n14] w58 w63 ∧
 J1 ((a64, n65, n66), IntKind.i64.wrap (x6 + 1), ()) w63 ∧
 J2 ((a64, n65, n66), IntKind.i64.wrap (x6 + 1), ()) w63 < J2 ((a3, n4, n5), x6, ()) w7) ∧
 ((x9 == 2) = false →
 ((x9 == 3) = true →
 OpW Proofs.Try.prog (skipS (Instr.storeAt 3 (Value.pointer (some ad23)) (Value.int IntKind.i64 19))) w25 fun (v67 : Value) (w68 : World) =>
 Keeps [n14] w25 w68 ∧
 ∃ (x69 : Int),
 ∃ (x70 : Int),
 ∃ (x71 : Int),
 ∃ (x72 : Int),
 ∃ (a73 : Option Addr),
 ∃ (n74 : Nat),
 ∃ (n75 : Nat),
 Reads Proofs.Try.prog [] (Instr.loadAt 28 (Value.pointer (some ad23))) w68
 (Value.agg
 #[Value.int IntKind.i64 x69, Value.int IntKind.i64 x70, Value.int IntKind.i64 x71, Value.int IntKind.i64 x72, Value.slice a73 n74 n75]) ∧
 OpW Proofs.Try.prog
 (valueS
 (Instr.buildSlice 24 1
 #[(0,
 Value.agg
 #[Value.int IntKind.i64 x69, Value.int IntKind.i64 x70, Value.int IntKind.i64 x71, Value.int IntKind.i64 x72,
 Value.slice a73 n74 n75])]))
 w68 fun (v76 : Value) (w77 : World) =>
 ∃ (a78 : Option Addr),
 ∃ (n79 : Nat),
 ∃ (n80 : Nat),
 v76 = Value.slice a78 n79 n80 ∧
 Keeps [n14] w68 w77 ∧
 OpW Proofs.Try.prog (builtin Builtin.append #[24, 24] 24 #[false, false] #[Value.slice a3 n4 n5, Value.slice a78 n79 n80]) w77
 fun (v81 : Value) (w82 : World) =>
 ∃ (a83 : Option Addr),
 ∃ (n84 : Nat),
 ∃ (n85 : Nat),
 v81 = Value.slice a83 n84 n85 ∧
 Keeps [n14] w77 w82 ∧
 J1 ((a83, n84, n85), IntKind.i64.wrap (x6 + 1), ()) w82 ∧
 J2 ((a83, n84, n85), IntKind.i64.wrap (x6 + 1), ()) w82 < J2 ((a3, n4, n5), x6, ()) w7) ∧
 ((x9 == 3) = false → J1 ((a3, n4, n5), IntKind.i64.wrap (x6 + 1), ()) w25 ∧ J2 ((a3, n4, n5), IntKind.i64.wrap (x6 + 1), ()) w25 < J2 ((a3, n4, n5), x6, ()) w7)))) ∧
 (decide (x6 < (↑opsn : Int)) = false → R (Ending.returned (Value.slice a3 n4 n5)) w7)
theorem f9_eq (frame : Int) (agent : Int) (opsa : Option Addr) (opsn : Nat) (opsc : Nat) (w : World) (R : Ending → World → Prop) : (fnF Go.Proofs.Try.prog h9 Go.Proofs.Try.f9 [Value.int IntKind.i64 frame, Value.int IntKind.i64 agent, Value.slice opsa opsn opsc] w R).den = f9_vc frame agent opsa opsn opsc w R := by kernel_rfl
theorem f9_calls (frame : Int) (agent : Int) (opsa : Option Addr) (opsn : Nat) (opsc : Nat) (w : World) (R : Ending → World → Prop) (h : f9_vc frame agent opsa opsn opsc w R) : Calls Go.Proofs.Try.prog 9 (List.toArray [Value.int IntKind.i64 frame, Value.int IntKind.i64 agent, Value.slice opsa opsn opsc]) w R :=
 fn_sound (H := h9) (fn := Go.Proofs.Try.f9) (by kernel_rfl) (by kernel_rfl) (by kernel_rfl) ((f9_eq frame agent opsa opsn opsc w R).mpr h)


/-! manciple/pool.Tasks -/
def h10 : Hints := ⟨[5], [10], [9, 14], [], [], [(3, ⟨[(3, .int .i64), (8, .int .i64)], []⟩)], [], [], []⟩
def f10_vc (opsa : Option Addr) (opsn : Nat) (opsc : Nat) (w : World) (R : Ending → World → Prop) : Prop :=
 ∃ (J1 : Int × Int × Unit → World → Prop),
 ∃ (J2 : Int × Int × Unit → World → Nat),
 J1 (0, 0, ()) w ∧
 ∀ (x3 x4 : Int) (w5 : World),
 J1 (x3, x4, ()) w5 →
 (decide (x4 < (↑opsn : Int)) = true →
 ∃ (ad6 : Addr),
 Gives Proofs.Try.prog (Instr.indexAt 22 (Value.slice opsa opsn opsc) (Value.int IntKind.i64 x4)) (Value.pointer (some ad6)) ∧
 ∃ (x7 : Int),
 ∃ (x8 : Int),
 ∃ (a9 : Option Addr),
 ∃ (n10 : Nat),
 ∃ (n11 : Nat),
 Reads Proofs.Try.prog [] (Instr.loadAt 40 (Value.pointer (some ad6))) w5 (Value.agg #[Value.int IntKind.i64 x7, Value.int IntKind.i64 x8, Value.slice a9 n10 n11]) ∧
 ∀ (n12 : Nat),
 w5.heap.size ≤ n12 →
 ((x7 == 1) = true →
 ∀ (w13 : World),
 Evo [n12] w5 w13 → Under [n12] w13 → J1 (IntKind.i64.wrap (x3 + 1), IntKind.i64.wrap (x4 + 1), ()) w13 ∧ J2 (IntKind.i64.wrap (x3 + 1), IntKind.i64.wrap (x4 + 1), ()) w13 < J2 (x3, x4, ()) w5) ∧
 ((x7 == 1) = false → ∀ (w14 : World), Evo [n12] w5 w14 → Under [n12] w14 → J1 (x3, IntKind.i64.wrap (x4 + 1), ()) w14 ∧ J2 (x3, IntKind.i64.wrap (x4 + 1), ()) w14 < J2 (x3, x4, ()) w5)) ∧
 (decide (x4 < (↑opsn : Int)) = false → R (Ending.returned (Value.int IntKind.i64 x3)) w5)
theorem f10_eq (opsa : Option Addr) (opsn : Nat) (opsc : Nat) (w : World) (R : Ending → World → Prop) : (fnF Go.Proofs.Try.prog h10 Go.Proofs.Try.f10 [Value.slice opsa opsn opsc] w R).den = f10_vc opsa opsn opsc w R := by kernel_rfl
theorem f10_calls (opsa : Option Addr) (opsn : Nat) (opsc : Nat) (w : World) (R : Ending → World → Prop) (h : f10_vc opsa opsn opsc w R) : Calls Go.Proofs.Try.prog 10 (List.toArray [Value.slice opsa opsn opsc]) w R :=
 fn_sound (H := h10) (fn := Go.Proofs.Try.f10) (by kernel_rfl) (by kernel_rfl) (by kernel_rfl) ((f10_eq opsa opsn opsc w R).mpr h)


/-! manciple/manciplelaw14.Few -/
def h20 : Hints := ⟨[1], [30], [19, 24, 34, 8, 14], [], [], [(4, ⟨[(3, .int .i64)], []⟩)], [], [], []⟩
def f20_vc (c_0 : Int) (c_1 : Int) (c_2 : Int) (c_3 : Int) (c_4 : Int) (c_5 : Int) (c_6 : Int) (c_7a : Option Addr) (c_7n : Nat) (c_7c : Nat) (c_8a : Option Addr) (c_8n : Nat) (c_8c : Nat) (c_9a : Option Addr) (c_9n : Nat) (c_9c : Nat) (w : World) (R : Ending → World → Prop) : Prop :=
 ∀ (n1 : Nat),
 w.heap.size ≤ n1 →
 (decide ((↑c_7n : Int) > 60) = true → ∀ (w2 : World), Bel w w2 → Under [n1] w2 → R (Ending.returned (Value.bool false)) w2) ∧
 (decide ((↑c_7n : Int) > 60) = false →
 (decide ((↑c_8n : Int) > 150) = true → ∀ (w3 : World), Bel w w3 → Under [n1] w3 → R (Ending.returned (Value.bool false)) w3) ∧
 (decide ((↑c_8n : Int) > 150) = false →
 (decide ((↑c_9n : Int) > 60) = true → ∀ (w4 : World), Bel w w4 → Under [n1] w4 → R (Ending.returned (Value.bool false)) w4) ∧
 (decide ((↑c_9n : Int) > 60) = false →
 ∃ (J5 : Int × Unit → World → Prop),
 ∃ (J6 : Int × Unit → World → Nat),
 (∀ (w7 : World), Bel w w7 → Under [n1] w7 → J5 (0, ()) w7) ∧
 ∀ (x8 : Int) (w9 : World),
 J5 (x8, ()) w9 →
 (decide (x8 < (↑c_9n : Int)) = true →
 ∃ (ad10 : Addr),
 Gives Proofs.Try.prog (Instr.indexAt 22 (Value.slice c_9a c_9n c_9c) (Value.int IntKind.i64 x8)) (Value.pointer (some ad10)) ∧
 ∃ (a11 : Option Addr),
 ∃ (n12 : Nat),
 ∃ (n13 : Nat),
 Reads Proofs.Try.prog [] (Instr.loadAt 26 (Value.pointer (some (Addr.mk ad10.block (ad10.off + 2) none)))) w9 (Value.slice a11 n12 n13) ∧
 (decide ((↑n12 : Int) > 150) = true → R (Ending.returned (Value.bool false)) w9) ∧
 (decide ((↑n12 : Int) > 150) = false → J5 (IntKind.i64.wrap (x8 + 1), ()) w9 ∧ J6 (IntKind.i64.wrap (x8 + 1), ()) w9 < J6 (x8, ()) w9)) ∧
 (decide (x8 < (↑c_9n : Int)) = false → R (Ending.returned (Value.bool true)) w9))))
theorem f20_eq (c_0 : Int) (c_1 : Int) (c_2 : Int) (c_3 : Int) (c_4 : Int) (c_5 : Int) (c_6 : Int) (c_7a : Option Addr) (c_7n : Nat) (c_7c : Nat) (c_8a : Option Addr) (c_8n : Nat) (c_8c : Nat) (c_9a : Option Addr) (c_9n : Nat) (c_9c : Nat) (w : World) (R : Ending → World → Prop) : (fnF Go.Proofs.Try.prog h20 Go.Proofs.Try.f20 [Value.agg
 #[Value.int IntKind.i64 c_0, Value.int IntKind.i64 c_1, Value.int IntKind.i64 c_2, Value.int IntKind.i64 c_3, Value.int IntKind.i64 c_4, Value.int IntKind.i64 c_5, Value.int IntKind.i64 c_6, Value.slice c_7a c_7n c_7c,
 Value.slice c_8a c_8n c_8c, Value.slice c_9a c_9n c_9c]] w R).den = f20_vc c_0 c_1 c_2 c_3 c_4 c_5 c_6 c_7a c_7n c_7c c_8a c_8n c_8c c_9a c_9n c_9c w R := by kernel_rfl
theorem f20_calls (c_0 : Int) (c_1 : Int) (c_2 : Int) (c_3 : Int) (c_4 : Int) (c_5 : Int) (c_6 : Int) (c_7a : Option Addr) (c_7n : Nat) (c_7c : Nat) (c_8a : Option Addr) (c_8n : Nat) (c_8c : Nat) (c_9a : Option Addr) (c_9n : Nat) (c_9c : Nat) (w : World) (R : Ending → World → Prop) (h : f20_vc c_0 c_1 c_2 c_3 c_4 c_5 c_6 c_7a c_7n c_7c c_8a c_8n c_8c c_9a c_9n c_9c w R) : Calls Go.Proofs.Try.prog 20 (List.toArray [Value.agg
 #[Value.int IntKind.i64 c_0, Value.int IntKind.i64 c_1, Value.int IntKind.i64 c_2, Value.int IntKind.i64 c_3, Value.int IntKind.i64 c_4, Value.int IntKind.i64 c_5, Value.int IntKind.i64 c_6, Value.slice c_7a c_7n c_7c,
 Value.slice c_8a c_8n c_8c, Value.slice c_9a c_9n c_9c]]) w R :=
 fn_sound (H := h20) (fn := Go.Proofs.Try.f20) (by kernel_rfl) (by kernel_rfl) (by kernel_rfl) ((f20_eq c_0 c_1 c_2 c_3 c_4 c_5 c_6 c_7a c_7n c_7c c_8a c_8n c_8c c_9a c_9n c_9c w R).mpr h)


/-! manciple/pool.Foreign -/
def h23 : Hints := ⟨[6, 10], [15, 29, 37], [14, 28, 39, 32], [], [], [(2, ⟨[(13, .int .i64)], []⟩), (6, ⟨[(27, .int .i64)], []⟩)], [], [], []⟩
def f23_vc (role : Int) (opsa : Option Addr) (opsn : Nat) (opsc : Nat) (w : World) (R : Ending → World → Prop) : Prop :=
 ∃ (J1 : Int × Unit → World → Prop),
 ∃ (J2 : Int × Unit → World → Nat),
 J1 (0, ()) w ∧
 ∀ (x3 : Int) (w4 : World),
 J1 (x3, ()) w4 →
 (decide (x3 < (↑opsn : Int)) = true →
 ∃ (ad5 : Addr),
 Gives Proofs.Try.prog (Instr.indexAt 22 (Value.slice opsa opsn opsc) (Value.int IntKind.i64 x3)) (Value.pointer (some ad5)) ∧
 ∃ (x6 : Int),
 ∃ (x7 : Int),
 ∃ (a8 : Option Addr),
 ∃ (n9 : Nat),
 ∃ (n10 : Nat),
 Reads Proofs.Try.prog [] (Instr.loadAt 40 (Value.pointer (some ad5))) w4 (Value.agg #[Value.int IntKind.i64 x6, Value.int IntKind.i64 x7, Value.slice a8 n9 n10]) ∧
 ∀ (n11 : Nat),
 w4.heap.size ≤ n11 →
 ∀ (w12 : World),
 Evo [n11] w4 w12 →
 Under [n11] w12 →
 Calls Proofs.Try.prog 32 #[Value.int IntKind.i64 x6, Value.int IntKind.i64 role] w12 fun (e13 : Ending) (w14 : World) =>
 ∃ (v15 : Value),
 ∃ (x16 : Int),
 ∃ (x17 : Int),
 ∃ (b18 : Bool),
 e13 = Ending.returned (Value.tuple #[Value.agg #[v15, Value.int IntKind.i64 x16, Value.int IntKind.i64 x17], Value.bool b18]) ∧
 Keeps [n11] w12 w14 ∧
 OpW Proofs.Try.prog (valueS (Instr.alloc 68 true (Value.tuple #[]))) w14 fun (v19 : Value) (w20 : World) =>
 ∃ (ad21 : Addr),
 v19 = Value.pointer (some ad21) ∧
 Keeps [n11] w14 w20 ∧
 OpW Proofs.Try.prog (skipS (Instr.storeAt 68 (Value.pointer (some ad21)) (Value.agg #[v15, Value.int IntKind.i64 x16, Value.int IntKind.i64 x17]))) w20
 fun (v22 : Value) (w23 : World) =>
 Keeps [n11] w20 w23 ∧
 ∃ (J24 : Int × Unit → World → Prop),
 ∃ (J25 : Int × Unit → World → Nat),
 J24 (0, ()) w23 ∧
 ∀ (x26 : Int) (w27 : World),
 J24 (x26, ()) w27 →
 (decide (x26 < (↑n9 : Int)) = true →
 ∃ (ad28 : Addr),
 Gives Proofs.Try.prog (Instr.indexAt 26 (Value.slice a8 n9 n10) (Value.int IntKind.i64 x26)) (Value.pointer (some ad28)) ∧
 ∃ (x29 : Int),
 ∃ (x30 : Int),
 ∃ (x31 : Int),
 Reads Proofs.Try.prog [] (Instr.loadAt 55 (Value.pointer (some ad28))) w27
 (Value.agg #[Value.int IntKind.i64 x29, Value.int IntKind.i64 x30, Value.int IntKind.i64 x31]) ∧
 ∀ (n32 : Nat),
 w27.heap.size ≤ n32 →
 (b18 = true →
 ∃ (v33 : Value),
 Reads Proofs.Try.prog [n32] (Instr.loadAt 66 (Value.pointer (some ad21))) w27 v33 ∧
 ∀ (w34 : World),
 Evo [n32] w27 w34 →
 Under [n11, n32] w34 →
 OpW Proofs.Try.prog (invokeS v33 #[Value.int IntKind.i64 x30]) w34 fun (v35 : Value) (w36 : World) =>
 ∃ (b37 : Bool),
 v35 = Value.bool b37 ∧
 Keeps [n11, n32] w34 w36 ∧
 ((!b37) = true → R (Ending.returned (Value.bool true)) w36) ∧
 ((!b37) = false →
 J24 (IntKind.i64.wrap (x26 + 1), ()) w36 ∧ J25 (IntKind.i64.wrap (x26 + 1), ()) w36 < J25 (x26, ()) w27)) ∧
 (b18 = false →
 ∀ (w38 : World),
 Evo [n32] w27 w38 →
 Under [n11, n32] w38 → J24 (IntKind.i64.wrap (x26 + 1), ()) w38 ∧ J25 (IntKind.i64.wrap (x26 + 1), ()) w38 < J25 (x26, ()) w27)) ∧
 (decide (x26 < (↑n9 : Int)) = false → J1 (IntKind.i64.wrap (x3 + 1), ()) w27 ∧ J2 (IntKind.i64.wrap (x3 + 1), ()) w27 < J2 (x3, ()) w4)) ∧
 (decide (x3 < (↑opsn : Int)) = false → R (Ending.returned (Value.bool false)) w4)
theorem f23_eq (role : Int) (opsa : Option Addr) (opsn : Nat) (opsc : Nat) (w : World) (R : Ending → World → Prop) : (fnF Go.Proofs.Try.prog h23 Go.Proofs.Try.f23 [Value.int IntKind.i64 role, Value.slice opsa opsn opsc] w R).den = f23_vc role opsa opsn opsc w R := by kernel_rfl
theorem f23_calls (role : Int) (opsa : Option Addr) (opsn : Nat) (opsc : Nat) (w : World) (R : Ending → World → Prop) (h : f23_vc role opsa opsn opsc w R) : Calls Go.Proofs.Try.prog 23 (List.toArray [Value.int IntKind.i64 role, Value.slice opsa opsn opsc]) w R :=
 fn_sound (H := h23) (fn := Go.Proofs.Try.f23) (by kernel_rfl) (by kernel_rfl) (by kernel_rfl) ((f23_eq role opsa opsn opsc w R).mpr h)


/-! manciple/pool.run -/
def h24 : Hints := ⟨[13], [29], [21, 28, 41, 51], [], [], [(6, ⟨[(10, .int .i64), (11, .sl), (27, .int .i64)], []⟩)], [], [], []⟩
def f24_vc (alla : Option Addr) (alln : Nat) (allc : Nat) (role : Int) (opsa : Option Addr) (opsn : Nat) (opsc : Nat) (but : Int) (w : World) (R : Ending → World → Prop) : Prop :=
 Calls Proofs.Try.prog 33 #[Value.slice alla alln allc, Value.int IntKind.i64 role, Value.slice opsa opsn opsc] w fun (e1 : Ending) (w2 : World) =>
 ∃ (x3 : Int),
 e1 = Ending.returned (Value.int IntKind.i64 x3) ∧
 ((x3 != 0) = true → R (Ending.returned (Value.tuple #[Value.slice none 0 0, Value.int IntKind.i64 x3])) w2) ∧
 ((x3 != 0) = false →
 Calls Proofs.Try.prog 22 #[Value.slice alla alln allc] w2 fun (e4 : Ending) (w5 : World) =>
 ∃ (a6 : Option Addr),
 ∃ (n7 : Nat),
 ∃ (n8 : Nat),
 e4 = Ending.returned (Value.slice a6 n7 n8) ∧
 ∃ (J9 : Int × (Option Addr × Nat × Nat) × Int × Unit → World → Prop),
 ∃ (J10 : Int × (Option Addr × Nat × Nat) × Int × Unit → World → Nat),
 J9 (x3, (a6, n7, n8), 0, ()) w5 ∧
 ∀ (x11 : Int) (a12 : Option Addr) (n13 n14 : Nat) (x15 : Int) (w16 : World),
 J9 (x11, (a12, n13, n14), x15, ()) w16 →
 (decide (x15 < (↑opsn : Int)) = true →
 ∃ (ad17 : Addr),
 Gives Proofs.Try.prog (Instr.indexAt 22 (Value.slice opsa opsn opsc) (Value.int IntKind.i64 x15)) (Value.pointer (some ad17)) ∧
 ∃ (x18 : Int),
 ∃ (x19 : Int),
 ∃ (a20 : Option Addr),
 ∃ (n21 : Nat),
 ∃ (n22 : Nat),
 Reads Proofs.Try.prog [] (Instr.loadAt 40 (Value.pointer (some ad17))) w16 (Value.agg #[Value.int IntKind.i64 x18, Value.int IntKind.i64 x19, Value.slice a20 n21 n22]) ∧
 ∀ (n23 : Nat),
 w16.heap.size ≤ n23 →
 ∀ (w24 : World),
 Evo [n23] w16 w24 →
 Under [n23] w24 →
 Calls Proofs.Try.prog 32 #[Value.int IntKind.i64 x18, Value.int IntKind.i64 role] w24 fun (e25 : Ending) (w26 : World) =>
 ∃ (v27 : Value),
 ∃ (x28 : Int),
 ∃ (x29 : Int),
 ∃ (b30 : Bool),
 e25 = Ending.returned (Value.tuple #[Value.agg #[v27, Value.int IntKind.i64 x28, Value.int IntKind.i64 x29], Value.bool b30]) ∧
 Keeps [n23] w24 w26 ∧
 OpW Proofs.Try.prog (valueS (Instr.alloc 68 true (Value.tuple #[]))) w26 fun (v31 : Value) (w32 : World) =>
 ∃ (ad33 : Addr),
 v31 = Value.pointer (some ad33) ∧
 Keeps [n23] w26 w32 ∧
 OpW Proofs.Try.prog (skipS (Instr.storeAt 68 (Value.pointer (some ad33)) (Value.agg #[v27, Value.int IntKind.i64 x28, Value.int IntKind.i64 x29]))) w32
 fun (v34 : Value) (w35 : World) =>
 Keeps [n23] w32 w35 ∧
 ((x18 == but) = true →
 J9 (x11, (a12, n13, n14), IntKind.i64.wrap (x15 + 1), ()) w35 ∧
 J10 (x11, (a12, n13, n14), IntKind.i64.wrap (x15 + 1), ()) w35 < J10 (x11, (a12, n13, n14), x15, ()) w16) ∧
 ((x18 == but) = false →
 ∃ (v36 : Value),
 ∃ (x37 : Int),
 ∃ (x38 : Int),
 Reads Proofs.Try.prog [] (Instr.loadAt 68 (Value.pointer (some ad33))) w35
 (Value.agg #[v36, Value.int IntKind.i64 x37, Value.int IntKind.i64 x38]) ∧
 Calls Proofs.Try.prog 34
 #[Value.agg #[v36, Value.int IntKind.i64 x37, Value.int IntKind.i64 x38], Value.slice a12 n13 n14, Value.slice a20 n21 n22] w35
 fun (e39 : Ending) (w40 : World) =>
 ∃ (a41 : Option Addr),
 ∃ (n42 : Nat),
 ∃ (n43 : Nat),
 ∃ (x44 : Int),
 e39 = Ending.returned (Value.tuple #[Value.slice a41 n42 n43, Value.int IntKind.i64 x44]) ∧
 Keeps [n23] w35 w40 ∧
 ((x44 != 0) = true → R (Ending.returned (Value.tuple #[Value.slice a41 n42 n43, Value.int IntKind.i64 x44])) w40) ∧
 ((x44 != 0) = false →
 J9 (x44, (a41, n42, n43), IntKind.i64.wrap (x15 + 1), ()) w40 ∧
 J10 (x44, (a41, n42, n43), IntKind.i64.wrap (x15 + 1), ()) w40 < J10 (x11, (a12, n13, n14), x15, ()) w16))) ∧
 (decide (x15 < (↑opsn : Int)) = false → R (Ending.returned (Value.tuple #[Value.slice a12 n13 n14, Value.int IntKind.i64 x11])) w16))
theorem f24_eq (alla : Option Addr) (alln : Nat) (allc : Nat) (role : Int) (opsa : Option Addr) (opsn : Nat) (opsc : Nat) (but : Int) (w : World) (R : Ending → World → Prop) : (fnF Go.Proofs.Try.prog h24 Go.Proofs.Try.f24 [Value.slice alla alln allc, Value.int IntKind.i64 role, Value.slice opsa opsn opsc, Value.int IntKind.i64 but] w R).den = f24_vc alla alln allc role opsa opsn opsc but w R := by kernel_rfl
theorem f24_calls (alla : Option Addr) (alln : Nat) (allc : Nat) (role : Int) (opsa : Option Addr) (opsn : Nat) (opsc : Nat) (but : Int) (w : World) (R : Ending → World → Prop) (h : f24_vc alla alln allc role opsa opsn opsc but w R) : Calls Go.Proofs.Try.prog 24 (List.toArray [Value.slice alla alln allc, Value.int IntKind.i64 role, Value.slice opsa opsn opsc, Value.int IntKind.i64 but]) w R :=
 fn_sound (H := h24) (fn := Go.Proofs.Try.f24) (by kernel_rfl) (by kernel_rfl) (by kernel_rfl) ((f24_eq alla alln allc role opsa opsn opsc but w R).mpr h)


/-! manciple/pool.of -/
def h32 : Hints := ⟨[], [], [7, 11, 15], [], [], [], [], [], []⟩
def f32_vc (kind : Int) (role : Int) (w : World) (R : Ending → World → Prop) : Prop :=
 OpW Proofs.Try.prog (valueS (Instr.box 3 (Value.int IntKind.i64 role))) w fun (v1 : Value) (w2 : World) =>
 ∃ (ad3 : Addr),
 v1 = Value.pointer (some ad3) ∧
 OpW Proofs.Try.prog (valueS (Instr.alloc 68 true (Value.tuple #[]))) w2 fun (v4 : Value) (w5 : World) =>
 ∃ (ad6 : Addr),
 v4 = Value.pointer (some ad6) ∧
 ((kind == 1) = true →
 OpW Proofs.Try.prog (skipS (Instr.storeAt 68 (Value.pointer (some ad6)) (Value.agg #[Value.func (Fn.func 42) #[] #[Value.pointer (some ad3)], Value.int IntKind.i64 0, Value.int IntKind.i64 (-1)]))) w5
 fun (v7 : Value) (w8 : World) =>
 ∃ (v9 : Value),
 ∃ (x10 : Int),
 ∃ (x11 : Int),
 Reads Proofs.Try.prog [] (loadVar 68 ad6) w8 (Value.agg #[v9, Value.int IntKind.i64 x10, Value.int IntKind.i64 x11]) ∧
 R (Ending.returned (Value.tuple #[Value.agg #[v9, Value.int IntKind.i64 x10, Value.int IntKind.i64 x11], Value.bool true])) w8) ∧
 ((kind == 1) = false →
 ((kind == 2) = true →
 ∃ (x12 : Int),
 Reads Proofs.Try.prog [] (Instr.loadAt 3 (Value.pointer (some ad3))) w5 (Value.int IntKind.i64 x12) ∧
 OpW Proofs.Try.prog (skipS (Instr.storeAt 68 (Value.pointer (some ad6)) (Value.agg #[Value.func (Fn.func 43) #[] #[], Value.int IntKind.i64 0, Value.int IntKind.i64 x12]))) w5 fun (v13 : Value) (w14 : World) =>
 ∃ (v15 : Value),
 ∃ (x16 : Int),
 ∃ (x17 : Int),
 Reads Proofs.Try.prog [] (loadVar 68 ad6) w14 (Value.agg #[v15, Value.int IntKind.i64 x16, Value.int IntKind.i64 x17]) ∧
 R (Ending.returned (Value.tuple #[Value.agg #[v15, Value.int IntKind.i64 x16, Value.int IntKind.i64 x17], Value.bool true])) w14) ∧
 ((kind == 2) = false →
 ((kind == 3) = true →
 ∃ (x18 : Int),
 Reads Proofs.Try.prog [] (Instr.loadAt 3 (Value.pointer (some ad3))) w5 (Value.int IntKind.i64 x18) ∧
 OpW Proofs.Try.prog (skipS (Instr.storeAt 68 (Value.pointer (some ad6)) (Value.agg #[Value.func (Fn.func 44) #[] #[Value.pointer (some ad3)], Value.int IntKind.i64 x18, Value.int IntKind.i64 0]))) w5
 fun (v19 : Value) (w20 : World) =>
 ∃ (v21 : Value),
 ∃ (x22 : Int),
 ∃ (x23 : Int),
 Reads Proofs.Try.prog [] (loadVar 68 ad6) w20 (Value.agg #[v21, Value.int IntKind.i64 x22, Value.int IntKind.i64 x23]) ∧
 R (Ending.returned (Value.tuple #[Value.agg #[v21, Value.int IntKind.i64 x22, Value.int IntKind.i64 x23], Value.bool true])) w20) ∧
 ((kind == 3) = false →
 OpW Proofs.Try.prog (skipS (Instr.storeAt 68 (Value.pointer (some ad6)) (Value.agg #[Value.nilFunc, Value.int IntKind.i64 0, Value.int IntKind.i64 0]))) w5 fun (v24 : Value) (w25 : World) =>
 ∃ (v26 : Value),
 ∃ (x27 : Int),
 ∃ (x28 : Int),
 Reads Proofs.Try.prog [] (loadVar 68 ad6) w25 (Value.agg #[v26, Value.int IntKind.i64 x27, Value.int IntKind.i64 x28]) ∧
 R (Ending.returned (Value.tuple #[Value.agg #[v26, Value.int IntKind.i64 x27, Value.int IntKind.i64 x28], Value.bool false])) w25)))
theorem f32_eq (kind : Int) (role : Int) (w : World) (R : Ending → World → Prop) : (fnF Go.Proofs.Try.prog h32 Go.Proofs.Try.f32 [Value.int IntKind.i64 kind, Value.int IntKind.i64 role] w R).den = f32_vc kind role w R := by kernel_rfl
theorem f32_calls (kind : Int) (role : Int) (w : World) (R : Ending → World → Prop) (h : f32_vc kind role w R) : Calls Go.Proofs.Try.prog 32 (List.toArray [Value.int IntKind.i64 kind, Value.int IntKind.i64 role]) w R :=
 fn_sound (H := h32) (fn := Go.Proofs.Try.f32) (by kernel_rfl) (by kernel_rfl) (by kernel_rfl) ((f32_eq kind role w R).mpr h)


/-! manciple/pool.check -/
def h33 : Hints := ⟨[8], [26], [21, 25, 48, 52, 14, 18, 37, 43], [], [], [(4, ⟨[(24, .int .i64)], []⟩)], [], [], []⟩
def f33_vc (alla : Option Addr) (alln : Nat) (allc : Nat) (role : Int) (opsa : Option Addr) (opsn : Nat) (opsc : Nat) (w : World) (R : Ending → World → Prop) : Prop :=
 Calls Proofs.Try.prog 25 #[Value.slice alla alln allc] w fun (e1 : Ending) (w2 : World) =>
 ∃ (b3 : Bool),
 e1 = Ending.returned (Value.bool b3) ∧
 ((!b3) = true → R (Ending.returned (Value.int IntKind.i64 41)) w2) ∧
 ((!b3) = false →
 (decide (role < 1) = true → R (Ending.returned (Value.int IntKind.i64 41)) w2) ∧
 (decide (role < 1) = false →
 (decide (role > 32) = true → R (Ending.returned (Value.int IntKind.i64 41)) w2) ∧
 (decide (role > 32) = false →
 ∃ (J4 : Int × Unit → World → Prop),
 ∃ (J5 : Int × Unit → World → Nat),
 J4 (0, ()) w2 ∧
 ∀ (x6 : Int) (w7 : World),
 J4 (x6, ()) w7 →
 (decide (x6 < (↑opsn : Int)) = true →
 ∃ (ad8 : Addr),
 Gives Proofs.Try.prog (Instr.indexAt 22 (Value.slice opsa opsn opsc) (Value.int IntKind.i64 x6)) (Value.pointer (some ad8)) ∧
 ∃ (x9 : Int),
 ∃ (x10 : Int),
 ∃ (a11 : Option Addr),
 ∃ (n12 : Nat),
 ∃ (n13 : Nat),
 Reads Proofs.Try.prog [] (Instr.loadAt 40 (Value.pointer (some ad8))) w7 (Value.agg #[Value.int IntKind.i64 x9, Value.int IntKind.i64 x10, Value.slice a11 n12 n13]) ∧
 ∀ (n14 : Nat),
 w7.heap.size ≤ n14 →
 ∀ (w15 : World),
 Evo [n14] w7 w15 →
 Under [n14] w15 →
 Calls Proofs.Try.prog 32 #[Value.int IntKind.i64 x9, Value.int IntKind.i64 role] w15 fun (e16 : Ending) (w17 : World) =>
 ∃ (v18 : Value),
 ∃ (x19 : Int),
 ∃ (x20 : Int),
 ∃ (b21 : Bool),
 e16 = Ending.returned (Value.tuple #[Value.agg #[v18, Value.int IntKind.i64 x19, Value.int IntKind.i64 x20], Value.bool b21]) ∧
 Keeps [n14] w15 w17 ∧
 OpW Proofs.Try.prog (valueS (Instr.alloc 68 true (Value.tuple #[]))) w17 fun (v22 : Value) (w23 : World) =>
 ∃ (ad24 : Addr),
 v22 = Value.pointer (some ad24) ∧
 Keeps [n14] w17 w23 ∧
 OpW Proofs.Try.prog (skipS (Instr.storeAt 68 (Value.pointer (some ad24)) (Value.agg #[v18, Value.int IntKind.i64 x19, Value.int IntKind.i64 x20]))) w23
 fun (v25 : Value) (w26 : World) =>
 Keeps [n14] w23 w26 ∧
 ((!b21) = true → R (Ending.returned (Value.int IntKind.i64 41)) w26) ∧
 ((!b21) = false →
 (((↑n12 : Int) == 0) = true → R (Ending.returned (Value.int IntKind.i64 41)) w26) ∧
 (((↑n12 : Int) == 0) = false →
 Calls Proofs.Try.prog 25 #[Value.slice a11 n12 n13] w26 fun (e27 : Ending) (w28 : World) =>
 ∃ (b29 : Bool),
 e27 = Ending.returned (Value.bool b29) ∧
 Keeps [n14] w26 w28 ∧
 ((!b29) = true → R (Ending.returned (Value.int IntKind.i64 41)) w28) ∧
 ((!b29) = false → J4 (IntKind.i64.wrap (x6 + 1), ()) w28 ∧ J5 (IntKind.i64.wrap (x6 + 1), ()) w28 < J5 (x6, ()) w7)))) ∧
 (decide (x6 < (↑opsn : Int)) = false →
 Calls Proofs.Try.prog 23 #[Value.int IntKind.i64 role, Value.slice opsa opsn opsc] w7 fun (e30 : Ending) (w31 : World) =>
 ∃ (b32 : Bool), e30 = Ending.returned (Value.bool b32) ∧ (b32 = true → R (Ending.returned (Value.int IntKind.i64 27)) w31) ∧ (b32 = false → R (Ending.returned (Value.int IntKind.i64 0)) w31)))))
theorem f33_eq (alla : Option Addr) (alln : Nat) (allc : Nat) (role : Int) (opsa : Option Addr) (opsn : Nat) (opsc : Nat) (w : World) (R : Ending → World → Prop) : (fnF Go.Proofs.Try.prog h33 Go.Proofs.Try.f33 [Value.slice alla alln allc, Value.int IntKind.i64 role, Value.slice opsa opsn opsc] w R).den = f33_vc alla alln allc role opsa opsn opsc w R := by kernel_rfl
theorem f33_calls (alla : Option Addr) (alln : Nat) (allc : Nat) (role : Int) (opsa : Option Addr) (opsn : Nat) (opsc : Nat) (w : World) (R : Ending → World → Prop) (h : f33_vc alla alln allc role opsa opsn opsc w R) : Calls Go.Proofs.Try.prog 33 (List.toArray [Value.slice alla alln allc, Value.int IntKind.i64 role, Value.slice opsa opsn opsc]) w R :=
 fn_sound (H := h33) (fn := Go.Proofs.Try.f33) (by kernel_rfl) (by kernel_rfl) (by kernel_rfl) ((f33_eq alla alln allc role opsa opsn opsc w R).mpr h)


/-! (manciple/pool.step).do -/
def h34 : Hints := ⟨[], [], [18, 21, 39], [], [], [], [], [], []⟩
def f34_vc (s_0 : Value) (s_1 : Int) (s_2 : Int) (resta : Option Addr) (restn : Nat) (restc : Nat) (va : Option Addr) (vn : Nat) (vc : Nat) (w : World) (R : Ending → World → Prop) : Prop :=
 OpW Proofs.Try.prog (valueS (Instr.box 68 (Value.agg #[s_0, Value.int IntKind.i64 s_1, Value.int IntKind.i64 s_2]))) w fun (v1 : Value) (w2 : World) =>
 ∃ (ad3 : Addr),
 v1 = Value.pointer (some ad3) ∧
 Calls Proofs.Try.prog 30 #[Value.slice resta restn restc, Value.slice va vn vc] w2 fun (e4 : Ending) (w5 : World) =>
 ∃ (a6 : Option Addr),
 ∃ (n7 : Nat),
 ∃ (n8 : Nat),
 ∃ (b9 : Bool),
 e4 = Ending.returned (Value.tuple #[Value.slice a6 n7 n8, Value.bool b9]) ∧
 ((!b9) = true → R (Ending.returned (Value.tuple #[Value.slice none 0 0, Value.int IntKind.i64 30])) w5) ∧
 ((!b9) = false →
 ∃ (x10 : Int),
 Reads Proofs.Try.prog [] (Instr.loadAt 3 (Value.pointer (some (Addr.mk ad3.block (ad3.off + 2) none)))) w5 (Value.int IntKind.i64 x10) ∧
 (decide (x10 < 0) = true → R (Ending.returned (Value.tuple #[Value.slice a6 n7 n8, Value.int IntKind.i64 0])) w5) ∧
 (decide (x10 < 0) = false →
 ∃ (x11 : Int),
 Reads Proofs.Try.prog [] (Instr.loadAt 3 (Value.pointer (some (Addr.mk ad3.block (ad3.off + 1) none)))) w5 (Value.int IntKind.i64 x11) ∧
 ∃ (x12 : Int),
 Reads Proofs.Try.prog [] (Instr.loadAt 3 (Value.pointer (some (Addr.mk ad3.block (ad3.off + 2) none)))) w5 (Value.int IntKind.i64 x12) ∧
 Calls Proofs.Try.prog 16 #[Value.slice va vn vc, Value.int IntKind.i64 x11, Value.int IntKind.i64 x12] w5 fun (e13 : Ending) (w14 : World) =>
 ∃ (a15 : Option Addr),
 ∃ (n16 : Nat),
 ∃ (n17 : Nat),
 ∃ (b18 : Bool),
 e13 = Ending.returned (Value.tuple #[Value.slice a15 n16 n17, Value.bool b18]) ∧
 Calls Proofs.Try.prog 45 #[Value.slice a6 n7 n8, Value.slice a15 n16 n17] w14 fun (e19 : Ending) (w20 : World) =>
 ∃ (a21 : Option Addr),
 ∃ (n22 : Nat),
 ∃ (n23 : Nat),
 ∃ (b24 : Bool),
 e19 = Ending.returned (Value.tuple #[Value.slice a21 n22 n23, Value.bool b24]) ∧
 ((!b24) = true → R (Ending.returned (Value.tuple #[Value.slice none 0 0, Value.int IntKind.i64 31])) w20) ∧
 ((!b24) = false → R (Ending.returned (Value.tuple #[Value.slice a21 n22 n23, Value.int IntKind.i64 0])) w20)))
theorem f34_eq (s_0 : Value) (s_1 : Int) (s_2 : Int) (resta : Option Addr) (restn : Nat) (restc : Nat) (va : Option Addr) (vn : Nat) (vc : Nat) (w : World) (R : Ending → World → Prop) : (fnF Go.Proofs.Try.prog h34 Go.Proofs.Try.f34 [Value.agg #[s_0, Value.int IntKind.i64 s_1, Value.int IntKind.i64 s_2], Value.slice resta restn restc, Value.slice va vn vc] w R).den = f34_vc s_0 s_1 s_2 resta restn restc va vn vc w R := by kernel_rfl
theorem f34_calls (s_0 : Value) (s_1 : Int) (s_2 : Int) (resta : Option Addr) (restn : Nat) (restc : Nat) (va : Option Addr) (vn : Nat) (vc : Nat) (w : World) (R : Ending → World → Prop) (h : f34_vc s_0 s_1 s_2 resta restn restc va vn vc w R) : Calls Go.Proofs.Try.prog 34 (List.toArray [Value.agg #[s_0, Value.int IntKind.i64 s_1, Value.int IntKind.i64 s_2], Value.slice resta restn restc, Value.slice va vn vc]) w R :=
 fn_sound (H := h34) (fn := Go.Proofs.Try.f34) (by kernel_rfl) (by kernel_rfl) (by kernel_rfl) ((f34_eq s_0 s_1 s_2 resta restn restc va vn vc w R).mpr h)


/-! manciple/pool.of$1 -/
def h42 : Hints := ⟨[], [], [6], [], [], [], [], [], []⟩
def f42_vc (r : Int) (cap0 : Value) (w : World) (R : Ending → World → Prop) : Prop :=
 ((r == 0) = true → R (Ending.returned (Value.bool true)) w) ∧ ((r == 0) = false → ∃ (x1 : Int), Reads Proofs.Try.prog [] (Instr.loadAt 3 cap0) w (Value.int IntKind.i64 x1) ∧ R (Ending.returned (Value.bool (r == x1))) w)
theorem f42_eq (r : Int) (cap0 : Value) (w : World) (R : Ending → World → Prop) : (fnF Go.Proofs.Try.prog h42 Go.Proofs.Try.f42 [Value.int IntKind.i64 r, cap0] w R).den = f42_vc r cap0 w R := by kernel_rfl
theorem f42_calls (r : Int) (cap0 : Value) (w : World) (R : Ending → World → Prop) (h : f42_vc r cap0 w R) : Calls Go.Proofs.Try.prog 42 (List.toArray [Value.int IntKind.i64 r, cap0]) w R :=
 fn_sound (H := h42) (fn := Go.Proofs.Try.f42) (by kernel_rfl) (by kernel_rfl) (by kernel_rfl) ((f42_eq r cap0 w R).mpr h)


/-! manciple/pool.of$2 -/
def h43 : Hints := ⟨[], [], [], [], [], [], [], [], []⟩
def f43_vc (r : Int) (w : World) (R : Ending → World → Prop) : Prop :=
 R (Ending.returned (Value.bool (r == 0))) w
theorem f43_eq (r : Int) (w : World) (R : Ending → World → Prop) : (fnF Go.Proofs.Try.prog h43 Go.Proofs.Try.f43 [Value.int IntKind.i64 r] w R).den = f43_vc r w R := by kernel_rfl
theorem f43_calls (r : Int) (w : World) (R : Ending → World → Prop) (h : f43_vc r w R) : Calls Go.Proofs.Try.prog 43 (List.toArray [Value.int IntKind.i64 r]) w R :=
 fn_sound (H := h43) (fn := Go.Proofs.Try.f43) (by kernel_rfl) (by kernel_rfl) (by kernel_rfl) ((f43_eq r w R).mpr h)


/-! manciple/pool.of$3 -/
def h44 : Hints := ⟨[], [], [], [], [], [], [], [], []⟩
def f44_vc (r : Int) (cap0 : Value) (w : World) (R : Ending → World → Prop) : Prop :=
 ∃ (x1 : Int), Reads Proofs.Try.prog [] (Instr.loadAt 3 cap0) w (Value.int IntKind.i64 x1) ∧ R (Ending.returned (Value.bool (r == x1))) w
theorem f44_eq (r : Int) (cap0 : Value) (w : World) (R : Ending → World → Prop) : (fnF Go.Proofs.Try.prog h44 Go.Proofs.Try.f44 [Value.int IntKind.i64 r, cap0] w R).den = f44_vc r cap0 w R := by kernel_rfl
theorem f44_calls (r : Int) (cap0 : Value) (w : World) (R : Ending → World → Prop) (h : f44_vc r cap0 w R) : Calls Go.Proofs.Try.prog 44 (List.toArray [Value.int IntKind.i64 r, cap0]) w R :=
 fn_sound (H := h44) (fn := Go.Proofs.Try.f44) (by kernel_rfl) (by kernel_rfl) (by kernel_rfl) ((f44_eq r cap0 w R).mpr h)


/-! manciple/pool.Run -/
def h12 : Hints := ⟨[], [], [], [], [], [], [], [], []⟩
def f12_vc (poola : Option Addr) (pooln : Nat) (poolc : Nat) (role : Int) (opsa : Option Addr) (opsn : Nat) (opsc : Nat) (w : World) (R : Ending → World → Prop) : Prop :=
 Calls Proofs.Try.prog 24 #[Value.slice poola pooln poolc, Value.int IntKind.i64 role, Value.slice opsa opsn opsc, Value.int IntKind.i64 0] w fun (e1 : Ending) (w2 : World) =>
 ∃ (a3 : Option Addr), ∃ (n4 : Nat), ∃ (n5 : Nat), ∃ (x6 : Int), e1 = Ending.returned (Value.tuple #[Value.slice a3 n4 n5, Value.int IntKind.i64 x6]) ∧ R (Ending.returned (Value.tuple #[Value.slice a3 n4 n5, Value.int IntKind.i64 x6])) w2
theorem f12_eq (poola : Option Addr) (pooln : Nat) (poolc : Nat) (role : Int) (opsa : Option Addr) (opsn : Nat) (opsc : Nat) (w : World) (R : Ending → World → Prop) : (fnF Go.Proofs.Try.prog h12 Go.Proofs.Try.f12 [Value.slice poola pooln poolc, Value.int IntKind.i64 role, Value.slice opsa opsn opsc] w R).den = f12_vc poola pooln poolc role opsa opsn opsc w R := by kernel_rfl
theorem f12_calls (poola : Option Addr) (pooln : Nat) (poolc : Nat) (role : Int) (opsa : Option Addr) (opsn : Nat) (opsc : Nat) (w : World) (R : Ending → World → Prop) (h : f12_vc poola pooln poolc role opsa opsn opsc w R) : Calls Go.Proofs.Try.prog 12 (List.toArray [Value.slice poola pooln poolc, Value.int IntKind.i64 role, Value.slice opsa opsn opsc]) w R :=
 fn_sound (H := h12) (fn := Go.Proofs.Try.f12) (by kernel_rfl) (by kernel_rfl) (by kernel_rfl) ((f12_eq poola pooln poolc role opsa opsn opsc w R).mpr h)


/-! manciple/pool.Moved -/
def h13 : Hints := ⟨[], [], [], [], [], [], [], [], []⟩
def f13_vc (totala : Option Addr) (totaln : Nat) (totalc : Nat) (role : Int) (opsa : Option Addr) (opsn : Nat) (opsc : Nat) (w : World) (R : Ending → World → Prop) : Prop :=
 Calls Proofs.Try.prog 24 #[Value.slice totala totaln totalc, Value.int IntKind.i64 role, Value.slice opsa opsn opsc, Value.int IntKind.i64 1] w fun (e1 : Ending) (w2 : World) =>
 ∃ (a3 : Option Addr), ∃ (n4 : Nat), ∃ (n5 : Nat), ∃ (x6 : Int), e1 = Ending.returned (Value.tuple #[Value.slice a3 n4 n5, Value.int IntKind.i64 x6]) ∧ R (Ending.returned (Value.tuple #[Value.slice a3 n4 n5, Value.int IntKind.i64 x6])) w2
theorem f13_eq (totala : Option Addr) (totaln : Nat) (totalc : Nat) (role : Int) (opsa : Option Addr) (opsn : Nat) (opsc : Nat) (w : World) (R : Ending → World → Prop) : (fnF Go.Proofs.Try.prog h13 Go.Proofs.Try.f13 [Value.slice totala totaln totalc, Value.int IntKind.i64 role, Value.slice opsa opsn opsc] w R).den = f13_vc totala totaln totalc role opsa opsn opsc w R := by kernel_rfl
theorem f13_calls (totala : Option Addr) (totaln : Nat) (totalc : Nat) (role : Int) (opsa : Option Addr) (opsn : Nat) (opsc : Nat) (w : World) (R : Ending → World → Prop) (h : f13_vc totala totaln totalc role opsa opsn opsc w R) : Calls Go.Proofs.Try.prog 13 (List.toArray [Value.slice totala totaln totalc, Value.int IntKind.i64 role, Value.slice opsa opsn opsc]) w R :=
 fn_sound (H := h13) (fn := Go.Proofs.Try.f13) (by kernel_rfl) (by kernel_rfl) (by kernel_rfl) ((f13_eq totala totaln totalc role opsa opsn opsc w R).mpr h)


/-! manciple/manciplelaw15.works -/
def h11 : Hints := ⟨[], [], [31, 37, 41, 48, 53, 58], [], [], [], [], [], []⟩
def f11_vc  (w : World) (R : Ending → World → Prop) : Prop :=
 OpW Proofs.Try.prog (valueS (Instr.buildSlice 26 1 #[(0, Value.agg #[Value.int IntKind.i64 0, Value.int IntKind.i64 0, Value.int IntKind.i64 4000])])) w fun (v1 : Value) (w2 : World) =>
 ∃ (a3 : Option Addr),
 ∃ (n4 : Nat),
 ∃ (n5 : Nat),
 v1 = Value.slice a3 n4 n5 ∧
 OpW Proofs.Try.prog (valueS (Instr.buildSlice 26 1 #[(0, Value.agg #[Value.int IntKind.i64 0, Value.int IntKind.i64 0, Value.int IntKind.i64 1000])])) w2 fun (v6 : Value) (w7 : World) =>
 ∃ (a8 : Option Addr),
 ∃ (n9 : Nat),
 ∃ (n10 : Nat),
 v6 = Value.slice a8 n9 n10 ∧
 OpW Proofs.Try.prog
 (valueS
 (Instr.buildSlice 26 2
 #[(0, Value.agg #[Value.int IntKind.i64 0, Value.int IntKind.i64 0, Value.int IntKind.i64 2000]), (1, Value.agg #[Value.int IntKind.i64 0, Value.int IntKind.i64 2, Value.int IntKind.i64 1000])]))
 w7 fun (v11 : Value) (w12 : World) =>
 ∃ (a13 : Option Addr),
 ∃ (n14 : Nat),
 ∃ (n15 : Nat),
 v11 = Value.slice a13 n14 n15 ∧
 OpW Proofs.Try.prog
 (valueS
 (Instr.buildSlice 22 2
 #[(0, Value.agg #[Value.int IntKind.i64 2, Value.int IntKind.i64 0, Value.slice a8 n9 n10]), (1, Value.agg #[Value.int IntKind.i64 1, Value.int IntKind.i64 7, Value.slice a13 n14 n15])]))
 w12 fun (v16 : Value) (w17 : World) =>
 ∃ (a18 : Option Addr),
 ∃ (n19 : Nat),
 ∃ (n20 : Nat),
 v16 = Value.slice a18 n19 n20 ∧
 Calls Proofs.Try.prog 12 #[Value.slice a3 n4 n5, Value.int IntKind.i64 2, Value.slice a18 n19 n20] w17 fun (e21 : Ending) (w22 : World) =>
 ∃ (a23 : Option Addr),
 ∃ (n24 : Nat),
 ∃ (n25 : Nat),
 ∃ (x26 : Int),
 e21 = Ending.returned (Value.tuple #[Value.slice a23 n24 n25, Value.int IntKind.i64 x26]) ∧
 Calls Proofs.Try.prog 13 #[Value.slice a3 n4 n5, Value.int IntKind.i64 2, Value.slice a18 n19 n20] w22 fun (e27 : Ending) (w28 : World) =>
 ∃ (a29 : Option Addr),
 ∃ (n30 : Nat),
 ∃ (n31 : Nat),
 ∃ (x32 : Int),
 e27 = Ending.returned (Value.tuple #[Value.slice a29 n30 n31, Value.int IntKind.i64 x32]) ∧
 ((x26 == 0) = true →
 OpW Proofs.Try.prog (valueS (Instr.buildSlice 26 1 #[(0, Value.agg #[Value.int IntKind.i64 0, Value.int IntKind.i64 0, Value.int IntKind.i64 1000])])) w28
 fun (v33 : Value) (w34 : World) =>
 ∃ (a35 : Option Addr),
 ∃ (n36 : Nat),
 ∃ (n37 : Nat),
 v33 = Value.slice a35 n36 n37 ∧
 Calls Proofs.Try.prog 21 #[Value.slice a23 n24 n25, Value.slice a35 n36 n37] w34 fun (e38 : Ending) (w39 : World) =>
 ∃ (b40 : Bool),
 e38 = Ending.returned (Value.bool b40) ∧
 (b40 = true →
 ((x32 == 0) = true →
 OpW Proofs.Try.prog
 (valueS
 (Instr.buildSlice 26 2
 #[(0, Value.agg #[Value.int IntKind.i64 0, Value.int IntKind.i64 0, Value.int IntKind.i64 3000]),
 (1, Value.agg #[Value.int IntKind.i64 0, Value.int IntKind.i64 2, Value.int IntKind.i64 1000])]))
 w39 fun (v41 : Value) (w42 : World) =>
 ∃ (a43 : Option Addr),
 ∃ (n44 : Nat),
 ∃ (n45 : Nat),
 v41 = Value.slice a43 n44 n45 ∧
 Calls Proofs.Try.prog 21 #[Value.slice a29 n30 n31, Value.slice a43 n44 n45] w42 fun (e46 : Ending) (w47 : World) =>
 ∃ (b48 : Bool),
 e46 = Ending.returned (Value.bool b48) ∧
 (b48 = true →
 Calls Proofs.Try.prog 10 #[Value.slice a18 n19 n20] w47 fun (e49 : Ending) (w50 : World) =>
 ∃ (x51 : Int),
 e49 = Ending.returned (Value.int IntKind.i64 x51) ∧
 ((x51 == 1) = true →
 Calls Proofs.Try.prog 23 #[Value.int IntKind.i64 2, Value.slice a18 n19 n20] w50 fun (e52 : Ending) (w53 : World) =>
 ∃ (b54 : Bool),
 e52 = Ending.returned (Value.bool b54) ∧
 ((!b54) = true →
 Calls Proofs.Try.prog 23 #[Value.int IntKind.i64 3, Value.slice a18 n19 n20] w53
 fun (e55 : Ending) (w56 : World) =>
 ∃ (b57 : Bool), e55 = Ending.returned (Value.bool b57) ∧ R (Ending.returned (Value.bool b57)) w56) ∧
 ((!b54) = false → R (Ending.returned (Value.bool false)) w53)) ∧
 ((x51 == 1) = false → R (Ending.returned (Value.bool false)) w50)) ∧
 (b48 = false → R (Ending.returned (Value.bool false)) w47)) ∧
 ((x32 == 0) = false → R (Ending.returned (Value.bool false)) w39)) ∧
 (b40 = false → R (Ending.returned (Value.bool false)) w39)) ∧
 ((x26 == 0) = false → R (Ending.returned (Value.bool false)) w28)
theorem f11_eq  (w : World) (R : Ending → World → Prop) : (fnF Go.Proofs.Try.prog h11 Go.Proofs.Try.f11 [] w R).den = f11_vc  w R := by kernel_rfl
theorem f11_calls  (w : World) (R : Ending → World → Prop) (h : f11_vc  w R) : Calls Go.Proofs.Try.prog 11 (List.toArray []) w R :=
 fn_sound (H := h11) (fn := Go.Proofs.Try.f11) (by kernel_rfl) (by kernel_rfl) (by kernel_rfl) ((f11_eq  w R).mpr h)


/-! manciple/manciplelaw15.PoolTells -/
def h3 : Hints := ⟨[], [25], [12, 20, 28, 37, 43], [], [], [(6, ⟨[(8, .int .i64), (9, .int .i64)], []⟩)], [], [], []⟩
def f3_vc (frame : Int) (agent : Int) (opsa : Option Addr) (opsn : Nat) (opsc : Nat) (w : World) (R : Ending → World → Prop) : Prop :=
 Calls Proofs.Try.prog 6 #[Value.slice none 0 0, Value.slice opsa opsn opsc] w fun (e1 : Ending) (w2 : World) =>
 ∃ (b3 : Bool),
 e1 = Ending.returned (Value.bool b3) ∧
 ((!b3) = true → R (Ending.returned (Value.bool true)) w2) ∧
 ((!b3) = false →
 Calls Proofs.Try.prog 7 #[Value.int IntKind.i64 frame, Value.int IntKind.i64 agent, Value.slice opsa opsn opsc] w2 fun (e4 : Ending) (w5 : World) =>
 ∃ (a6 : Option Addr),
 ∃ (n7 : Nat),
 ∃ (n8 : Nat),
 e4 = Ending.returned (Value.slice a6 n7 n8) ∧
 ∃ (J9 : Int × Int × Unit → World → Prop),
 ∃ (J10 : Int × Int × Unit → World → Nat),
 J9 (0, 0, ()) w5 ∧
 ∀ (x11 x12 : Int) (w13 : World),
 J9 (x11, x12, ()) w13 →
 (decide (x12 < (↑n7 : Int)) = true →
 ∃ (ad14 : Addr),
 Gives Proofs.Try.prog (Instr.indexAt 24 (Value.slice a6 n7 n8) (Value.int IntKind.i64 x12)) (Value.pointer (some ad14)) ∧
 ∃ (x15 : Int),
 Reads Proofs.Try.prog [] (Instr.loadAt 3 (Value.pointer (some ad14))) w13 (Value.int IntKind.i64 x15) ∧
 ((x15 == 13) = true → J9 (IntKind.i64.wrap (x11 + 1), IntKind.i64.wrap (x12 + 1), ()) w13 ∧ J10 (IntKind.i64.wrap (x11 + 1), IntKind.i64.wrap (x12 + 1), ()) w13 < J10 (x11, x12, ()) w13) ∧
 ((x15 == 13) = false → J9 (x11, IntKind.i64.wrap (x12 + 1), ()) w13 ∧ J10 (x11, IntKind.i64.wrap (x12 + 1), ()) w13 < J10 (x11, x12, ()) w13)) ∧
 (decide (x12 < (↑n7 : Int)) = false →
 Calls Proofs.Try.prog 9 #[Value.int IntKind.i64 frame, Value.int IntKind.i64 agent, Value.slice opsa opsn opsc] w13 fun (e16 : Ending) (w17 : World) =>
 ∃ (a18 : Option Addr),
 ∃ (n19 : Nat),
 ∃ (n20 : Nat),
 e16 = Ending.returned (Value.slice a18 n19 n20) ∧
 Calls Proofs.Try.prog 8 #[Value.slice a18 n19 n20, Value.slice a6 n7 n8] w17 fun (e21 : Ending) (w22 : World) =>
 ∃ (b23 : Bool),
 e21 = Ending.returned (Value.bool b23) ∧
 (b23 = true →
 Calls Proofs.Try.prog 10 #[Value.slice opsa opsn opsc] w22 fun (e24 : Ending) (w25 : World) =>
 ∃ (x26 : Int),
 e24 = Ending.returned (Value.int IntKind.i64 x26) ∧
 ((x26 == x11) = true →
 Calls Proofs.Try.prog 11 #[] w25 fun (e27 : Ending) (w28 : World) => ∃ (b29 : Bool), e27 = Ending.returned (Value.bool b29) ∧ R (Ending.returned (Value.bool b29)) w28) ∧
 ((x26 == x11) = false → R (Ending.returned (Value.bool false)) w25)) ∧
 (b23 = false → R (Ending.returned (Value.bool false)) w22)))
theorem f3_eq (frame : Int) (agent : Int) (opsa : Option Addr) (opsn : Nat) (opsc : Nat) (w : World) (R : Ending → World → Prop) : (fnF Go.Proofs.Try.prog h3 Go.Proofs.Try.f3 [Value.int IntKind.i64 frame, Value.int IntKind.i64 agent, Value.slice opsa opsn opsc] w R).den = f3_vc frame agent opsa opsn opsc w R := by kernel_rfl
theorem f3_calls (frame : Int) (agent : Int) (opsa : Option Addr) (opsn : Nat) (opsc : Nat) (w : World) (R : Ending → World → Prop) (h : f3_vc frame agent opsa opsn opsc w R) : Calls Go.Proofs.Try.prog 3 (List.toArray [Value.int IntKind.i64 frame, Value.int IntKind.i64 agent, Value.slice opsa opsn opsc]) w R :=
 fn_sound (H := h3) (fn := Go.Proofs.Try.f3) (by kernel_rfl) (by kernel_rfl) (by kernel_rfl) ((f3_eq frame agent opsa opsn opsc w R).mpr h)

end Vce

/- Calls of functions' values. -/
namespace Go.Vc
open Go Go.RowKit
section
variable {P : Program} {w W : World} {M : Nat → Prop} {gs : List Nat} {fv : Value}

/-- A call of a function's value that returns a value, and changes nothing. -/
def RetI (P : Program) (fv : Value) (args : Array Value) (W : World) (v : Value) : Prop := ∀ K : Value → World → Prop, (∀ w', Bel W w' → K v w') → OpW P (invokeS fv args) W K
theorem opw_invoke {f : FuncId} {first cap args : Array Value} {K : Value → World → Prop} (he : pureRun P (invokeS (.func (.func f) first cap) args) = some (.enter f ((first ++ args) ++ cap))) (h : Calls P f ((first ++ args) ++ cap) W fun e w' => ∃ v, e = .returned v ∧ K v w') : OpW P (invokeS (.func (.func f) first cap) args) W K := by
  unfold OpW
  rw [pureRun_run he W]
  exact h
theorem RetI.of {f : FuncId} {first cap args : Array Value} {v : Value} (he : pureRun P (invokeS (.func (.func f) first cap) args) = some (.enter f ((first ++ args) ++ cap))) (h : Ret P f ((first ++ args) ++ cap) W v) : RetI P (.func (.func f) first cap) args W v := fun _ hK => opw_invoke he (h _ fun w' hb => ⟨v, rfl, hK w' hb⟩)
theorem at_inv {args : Array Value} {v : Value} {K : Value → World → Prop} (hA : AtF w M gs W) (hc : RetI P fv args W v) (hK : ∀ w', AtF w M gs w' → Keeps gs W w' → Bel W w' → K v w') : OpW P (invokeS fv args) W K := hc K fun w' hb => hK w' (hA.call hb) (hA.keeps hb) hb
end
end Go.Vc

/- pool.of, Foreign, check. -/
set_option maxRecDepth 20000
set_option maxHeartbeats 1000000
namespace Go.Vc.V
open Go Go.Vc Go.RowKit Go.Proofs Vce

variable {w W W' : World} {M : Nat → Prop} {gs : List Nat}

/-- An operation in memory. -/
def opR (W : World) (x : OpT) (cs : List Value) : Prop := ∃ a n c, cs = [.int .i64 x.1, .int .i64 x.2.1, .slice a n c] ∧ SlE W 3 partE x.2.2 a n c
abbrev OpsR (W : World) (ops : List OpT) (a : Option Addr) (n c : Nat) : Prop := SlR W 3 (opR W) ops a n c
theorem OpsR_call {ops : List OpT} {a : Option Addr} {n c : Nat} (h : OpsR W ops a n c) (hb : Bel W W') : OpsR W' ops a n c :=
  h.mono (cell_below hb.below) fun _ _ ⟨a', n', c', e, hs⟩ => ⟨a', n', c', e, hs.call hb⟩
theorem op_at {ops : List OpT} {a : Option Addr} {n c : Nat} {i : Nat} {x : OpT} (h : OpsR W ops a n c) (hx : ops[i]? = some x) :
    ∃ ad a' n' c', Gives Try.prog (Instr.indexAt 22 (.slice a n c) (.int .i64 (i : Int))) (.pointer (some ad)) ∧ Elt W ad [.int .i64 x.1, .int .i64 x.2.1, .slice a' n' c'] ∧ SlE W 3 partE x.2.2 a' n' c' := by
  obtain ⟨b, cs, rfl, hl, hcs, a', n', c', rfl, hs⟩ := h.at_ hx
  have hi := (List.getElem?_eq_some_iff.1 hx).1
  have hn := h.1
  exact ⟨b.add (i * 3), a', n', c', gives_index (e := 40) (n := 3) (by kernel_rfl) (by kernel_rfl) (by omega), hcs, hs⟩

theorem reads_var {P : Program} {t : TypeId} {ds : List Nat} {ad : Addr} {cs : List Value} (hagg : pureRun P (isAgg t) = some true) (hsz : pureRun P (sizeOf t) = some cs.length) (h : Elt W ad cs) (hd : ∀ d ∈ ds, d ≠ ad.block) : Reads P ds (loadVar t ad) W (.agg cs.toArray) := by
  intro W' hW
  have h' := h.evo hW hd
  unfold loadVar
  rw [run_bind_ok (pureRun_run hagg W')]
  simp only [if_true]
  rw [run_bind_ok (pureRun_run hsz W'), run_bind_ok (run_loadCells_list W' ad cs h')]
  rfl

/-- A step's value: which roles it may take of, from which, to which. -/
structure StepV (W : World) (f : Value) (kind role : Int) : Prop where
  one : oneCell f = true
  ask : ∀ W' r, Bel W W' → RetI Try.prog f #[.int .i64 r] W' (.bool (may kind role r))
theorem step_store {f : Value} (hf : oneCell f = true) (x y : Int) : cellStore Try.prog 68 [.nilFunc, .int .i64 0, .int .i64 0] 0 (.agg #[f, .int .i64 x, .int .i64 y]) = some [f, .int .i64 x, .int .i64 y] := by
  unfold cellStore
  have h : pureRun Try.prog (sizeOf 68) = some 3 := by kernel_rfl
  rw [h]
  have h1 : ([f, .int .i64 x, .int .i64 y] : List Value).all oneCell = true := by
    simp [hf]
    exact ⟨rfl, rfl⟩
  have e : (Value.agg #[f, .int .i64 x, .int .i64 y]).cells.toList = [f, .int .i64 x, .int .i64 y] := rfl
  rw [e, h1]
  rfl

theorem c42 {b : Nat} {role : Int} (r : Int) (hb : W.heap[b]? = some (.cells #[.int .i64 role] 3 (0, 0))) : Ret Try.prog 42 #[.int .i64 r, .pointer (some ⟨b, 0, none⟩)] W (.bool (may 1 role r)) := by
  intro R h
  refine f42_calls r _ W R ?_
  unfold f42_vc
  unfold may at h
  refine brE (fun h0 => leaf h (At.refl W) ?_) (fun h0 => ⟨_, rd_f0 (r := []) (ty := 3) hb (by kernel_rfl) (by simp), leaf h (At.refl W) ?_⟩)
  · simp [h0]
  · rw [if_pos rfl]
    refine congrArg (fun b => Ending.returned (.bool b)) ?_
    rw [Bool.eq_iff_iff]
    simp [h0]
theorem c43 (role r : Int) : Ret Try.prog 43 #[.int .i64 r] W (.bool (may 2 role r)) := by
  intro R h
  refine f43_calls r W R ?_
  unfold f43_vc
  refine leaf h (At.refl W) ?_
  unfold may
  refine congrArg (fun b => Ending.returned (.bool b)) ?_
  rw [Bool.eq_iff_iff]
  simp
theorem c44 {b : Nat} {role : Int} (r : Int) (hb : W.heap[b]? = some (.cells #[.int .i64 role] 3 (0, 0))) : Ret Try.prog 44 #[.int .i64 r, .pointer (some ⟨b, 0, none⟩)] W (.bool (may 3 role r)) := by
  intro R h
  refine f44_calls r _ W R ?_
  unfold f44_vc
  refine ⟨_, rd_f0 (r := []) (ty := 3) hb (by kernel_rfl) (by simp), leaf h (At.refl W) ?_⟩
  unfold may
  refine congrArg (fun b => Ending.returned (.bool b)) ?_
  rw [Bool.eq_iff_iff]
  simp

theorem c32 (kind role : Int) (W : World) : RetQ Try.prog 32 #[.int .i64 kind, .int .i64 role] W fun v W' => ∃ f x y, v = .tuple #[.agg #[f, .int .i64 x, .int .i64 y], .bool (okK kind)] ∧ oneCell f = true ∧ (okK kind = true → x = fromR kind role ∧ y = toR kind role ∧ StepV W' f kind role) := by
  intro R h
  refine f32_calls kind role W R ?_
  unfold f32_vc
  refine opw_boxS (At.refl W) fun b w2 hb0 hA _ hb2 hblk => ⟨_, rfl, ?_⟩
  refine opw_allocS [.nilFunc, .int .i64 0, .int .i64 0] (zv := .agg #[.nilFunc, .int .i64 0, .int .i64 0]) (by kernel_rfl) rfl hA fun p w5 hp hA _ hb5 hpb => ⟨_, rfl, ?_⟩
  have hbl := (Array.getElem?_eq_some_iff.1 hblk).1
  have hblk : w5.heap[b]? = some (.cells #[.int .i64 role] 3 (0, 0)) := by rw [hb5.block hbl, hblk]; rfl
  have hbp : b ≠ p := by omega
  have hp0 : W.heap.size ≤ p := by have := hb2.size; omega
  have rdb : Reads Try.prog [] (Instr.loadAt 3 (Value.pointer (some ⟨b, 0, none⟩))) w5 (.int .i64 role) := rd_f0 (r := []) (ty := 3) hblk (by kernel_rfl) (by simp)
  have fin : ∀ {f : Value} {x y : Int} {w8 : World}, AtF W noB [] w8 → w8.heap[p]? = some (.cells [f, .int .i64 x, .int .i64 y].toArray 68 (0, 0)) → Reads Try.prog [] (loadVar 68 ⟨p, 0, none⟩) w8 (.agg #[f, .int .i64 x, .int .i64 y]) := fun hA hq => reads_var (by kernel_rfl) (by kernel_rfl) (elt_cells hq) (by simp)
  refine brE (fun h1 => ?_) (fun h1 => brE (fun h2 => ⟨_, rdb, ?_⟩) (fun h2 => brE (fun h3 => ⟨_, rdb, ?_⟩) (fun h3 => ?_)))
  · subst h1
    refine opw_storeF hA hpb (.inl hp0) (by simp) (step_store rfl 0 (-1)) fun w8 hA _ hch hpb => ⟨_, _, _, fin hA hpb, leafq h hA ⟨_, _, _, rfl, rfl, fun _ => ⟨rfl, rfl, rfl, fun W' r hb => RetI.of (by kernel_rfl) (c42 (b := b) r ?_)⟩⟩⟩
    have hbl5 := (Array.getElem?_eq_some_iff.1 hblk).1
    rw [hb.block (Nat.lt_of_lt_of_le hbl5 hch.size), hch.block b hbl5 hbp, hblk]
  · subst h2
    refine opw_storeF hA hpb (.inl hp0) (by simp) (step_store rfl 0 role) fun w8 hA _ hch hpb => ⟨_, _, _, fin hA hpb, leafq h hA ⟨_, _, _, rfl, rfl, fun _ => ⟨rfl, rfl, rfl, fun W' r hb => RetI.of (by kernel_rfl) (c43 role r)⟩⟩⟩
  · subst h3
    refine opw_storeF hA hpb (.inl hp0) (by simp) (step_store rfl role 0) fun w8 hA _ hch hpb => ⟨_, _, _, fin hA hpb, leafq h hA ⟨_, _, _, rfl, rfl, fun _ => ⟨rfl, rfl, rfl, fun W' r hb => RetI.of (by kernel_rfl) (c44 (b := b) r ?_)⟩⟩⟩
    have hbl5 := (Array.getElem?_eq_some_iff.1 hblk).1
    rw [hb.block (Nat.lt_of_lt_of_le hbl5 hch.size), hch.block b hbl5 hbp, hblk]
  · have hk : okK kind = false := by unfold okK; exact decide_eq_false (by omega)
    refine opw_storeF hA hpb (.inl hp0) (by simp) (step_store rfl 0 0) fun w8 hA _ hch hpb => ⟨_, _, _, fin hA hpb, leafq h hA ⟨_, _, _, by rw [hk], rfl, fun e => by rw [hk] at e; cases e⟩⟩

theorem any_take {α : Type} {p : α → Bool} {l : List α} {i : Nat} {x : α} (hx : l[i]? = some x) : (l.take (i + 1)).any p = ((l.take i).any p || p x) := by
  rw [List.take_add_one, hx, List.any_append]; simp

theorem c23 {ops : List OpT} {a : Option Addr} {n c : Nat} (role : Int) (W : World) (hs : OpsR W ops a n c) : Ret Try.prog 23 #[.int .i64 role, .slice a n c] W (.bool (foreign role ops)) := by
  intro R h
  refine f23_calls role _ _ _ W R ?_
  unfold f23_vc
  have hn := hs.1
  have hmx := hs.2.1
  have hmx2 := hs.2.2.1
  simp only [maxLen] at hmx2
  refine ⟨fun v W' => At W [] W' ∧ ∃ i : Nat, v.1 = i ∧ i ≤ ops.length ∧ (ops.take i).any (foreignO role) = false, fun v _ => (n - v.1).toNat, ⟨At.refl W, 0, rfl, Nat.zero_le _, rfl⟩, ?_⟩
  rintro x3 w4 ⟨hA, i, hi, hil, hf⟩
  simp only at hi
  subst hi
  refine brD (fun hlt => ?_) (fun hge => leaf h hA ?_)
  · obtain ⟨o, ho⟩ : ∃ x, ops[i]? = some x := ⟨_, List.getElem?_eq_getElem (by omega)⟩
    obtain ⟨ad, a', n', c', g1, el, hv⟩ := op_at (OpsR_call hs hA.below) ho
    refine ⟨ad, g1, _, _, _, _, _, el.agg 3 (by kernel_rfl) (by kernel_rfl) (by simp) (by simp), ?_⟩
    intro n11 hn11 w12 hev hun
    have hbel := hev.bel (by simpa using hn11)
    have hA : At W [n11] w12 := ⟨(hA.call hbel).chg, hun⟩
    refine at_callq hA (c32 o.1 role w12) fun v w14 hA hk hb14 ⟨f, x, y, e, hf1, hst⟩ => ?_
    subst e
    refine ⟨_, _, _, _, rfl, hk, ?_⟩
    refine opw_allocS [.nilFunc, .int .i64 0, .int .i64 0] (zv := .agg #[.nilFunc, .int .i64 0, .int .i64 0]) (by kernel_rfl) rfl hA fun p w20 hp hA hk20 hb20 hpb => ⟨_, rfl, hk20, ?_⟩
    have hsz14 := ‹AtF W noB [n11] w14›.size
    refine opw_storeF hA hpb (.inl (by omega)) (fun hx => by have := ‹AtF W noB [n11] w14›.under _ hx; omega) (step_store hf1 x y) fun w23 hA hk23 hch hpb => ⟨hk23, ?_⟩
    have hbel14 : Bel w14 w23 := ⟨⟨hch.os.trans hb20.below.os, hch.tape.trans hb20.below.tape, hch.output.trans hb20.below.output, Nat.le_trans hb20.size hch.size, fun b hb => by rw [hch.block b (Nat.lt_of_lt_of_le hb hb20.size) (by omega), hb20.block hb]⟩, Nat.le_trans hb20.drawn hch.drawn⟩
    have hv23 := hv.call ((hbel.trans hb14).trans hbel14)
    have hnv := hv23.1
    have hany := any_take (p := foreignO role) ho
    rw [hf, Bool.false_or] at hany
    refine ⟨fun v W' => At W [n11] W' ∧ Bel w23 W' ∧ ∃ j : Nat, v.1 = j ∧ j ≤ o.2.2.length ∧ (okK o.1 && (o.2.2.take j).any fun p => !may o.1 role p.2.1) = false, fun v _ => (n' - v.1).toNat, ⟨hA, (At.refl w23).below, 0, rfl, Nat.zero_le _, by simp⟩, ?_⟩
    rintro x26 w27 ⟨hA, hb27, j, hj, hjl, hfj⟩
    simp only at hj
    subst hj
    have hmv := hv23.2.1
    have hmv2 := hv23.2.2.1
    simp only [maxLen] at hmv2
    refine brD (fun hlt2 => ?_) (fun hge2 => ?_)
    · obtain ⟨q, hq⟩ : ∃ x, o.2.2[j]? = some x := ⟨_, List.getElem?_eq_getElem (by omega)⟩
      obtain ⟨ad, g1, el, _⟩ := elt_at (P := Try.prog) (k := .i64) (t := 26) (hv23.call hb27) hq (e := 55) (by kernel_rfl) (by kernel_rfl)
      refine ⟨ad, g1, _, _, _, el.agg 3 (by kernel_rfl) (by kernel_rfl) (by simp) (by simp), ?_⟩
      have hpb27 : w27.heap[p]? = some (.cells [f, .int .i64 x, .int .i64 y].toArray 68 (0, 0)) := by rw [hb27.block (Array.getElem?_eq_some_iff.1 hpb).1, hpb]
      have hpl := (Array.getElem?_eq_some_iff.1 hpb27).1
      intro n32 hn32
      have hanyj := any_take (p := fun p : PartT => !may o.1 role p.2.1) hq
      rw [succ_i j (by omega)]
      refine brB (fun hk => ⟨_, rd_f0 hpb27 (by kernel_rfl) (by simp; omega), ?_⟩) (fun hk => ?_)
      · obtain ⟨e1, e2, hS⟩ := hst hk
        intro w34 hev hun
        have hbel := hev.bel (by simpa using hn32)
        have hA : At W [n11, n32] w34 := ⟨(hA.call hbel).chg, hun⟩
        refine at_inv hA (hS.ask w34 q.2.1 ((hbel14.trans hb27).trans hbel)) fun w36 hA hk36 hb36 => ⟨_, rfl, hk36, ?_⟩
        rw [hk, Bool.true_and] at hfj
        rw [hfj, Bool.false_or] at hanyj
        refine brB (fun hno => leaf h hA ?_) (fun hyes => ?_)
        · refine congrArg (fun b => Ending.returned (.bool b)) ?_
          symm
          rw [foreign, List.any_eq_true]
          refine ⟨o, List.mem_of_getElem? ho, ?_⟩
          unfold foreignO
          rw [hk, Bool.true_and, List.any_eq_true]
          exact ⟨q, List.mem_of_getElem? hq, by simpa using hno⟩
        · refine ⟨⟨hA.sub (by simp), (hb27.trans hbel).trans hb36, j + 1, rfl, by omega, ?_⟩, by simp only; omega⟩
          rw [hk, Bool.true_and, hanyj]
          simpa using hyes
      · intro w38 hev hun
        have hbel := hev.bel (by simpa using hn32)
        refine ⟨⟨hA.call hbel, hb27.trans hbel, j + 1, rfl, by omega, by rw [hk]; rfl⟩, by simp only; omega⟩
    · rw [succ_i i (by omega)]
      refine ⟨⟨hA.off, i + 1, rfl, by omega, ?_⟩, by simp only; omega⟩
      rw [hany]
      unfold foreignO
      have hje : j = o.2.2.length := by omega
      rw [hje, List.take_length] at hfj
      exact hfj
  · have hie : i = ops.length := by omega
    rw [hie, List.take_length] at hf
    rw [foreign, hf]

theorem c33 {all : List PartT} {ops : List OpT} {a b : Option Addr} {n c m d : Nat} (role : Int) (W : World) (ha : SlE W 3 partE all b m d) (hs : OpsR W ops a n c) : Ret Try.prog 33 #[.slice b m d, .int .i64 role, .slice a n c] W (.int .i64 (checkL all role ops)) := by
  intro R h
  refine f33_calls b m d role a n c W R ?_
  unfold f33_vc
  unfold checkL at h
  have hn := hs.1
  have hmx := hs.2.1
  have hmx2 := hs.2.2.1
  simp only [maxLen] at hmx2
  refine at_callb (At.refl W) (c25 W ha) fun w2 hA _ hb2 => ⟨_, rfl, brNB (fun hv => ?_) (fun hv => ?_)⟩
  · rw [if_pos (.inl hv)] at h
    exact leaf h hA rfl
  refine brD (fun h1 => ?_) (fun h1 => brD (fun h2 => ?_) (fun h2 => ?_))
  · rw [if_pos (.inr (.inl h1))] at h
    exact leaf h hA rfl
  · rw [if_pos (.inr (.inr h2))] at h
    exact leaf h hA rfl
  rw [if_neg (by rw [hv]; simp; omega)] at h
  refine ⟨fun v W' => At W [] W' ∧ ∃ i : Nat, v.1 = i ∧ i ≤ ops.length ∧ (ops.take i).any badO = false, fun v _ => (n - v.1).toNat, ⟨hA, 0, rfl, Nat.zero_le _, rfl⟩, ?_⟩
  rintro x6 w7 ⟨hA, i, hi, hil, hf⟩
  simp only at hi
  subst hi
  refine brD (fun hlt => ?_) (fun hge => ?_)
  · obtain ⟨o, ho⟩ : ∃ x, ops[i]? = some x := ⟨_, List.getElem?_eq_getElem (by omega)⟩
    have hany := any_take (p := badO) ho
    rw [hf, Bool.false_or] at hany
    have bad : badO o = true → ∀ {W' gs}, At W gs W' → R (.returned (.int .i64 41)) W' := fun hb {W' gs} hA => by
      rw [if_pos (List.any_eq_true.2 ⟨o, List.mem_of_getElem? ho, hb⟩)] at h
      exact leaf h hA rfl
    obtain ⟨ad, a', n', c', g1, el, hvv⟩ := op_at (OpsR_call hs hA.below) ho
    have hnv := hvv.1
    refine ⟨ad, g1, _, _, _, _, _, el.agg 3 (by kernel_rfl) (by kernel_rfl) (by simp) (by simp), ?_⟩
    intro n11 hn11 w12 hev hun
    have hbel := hev.bel (by simpa using hn11)
    have hA : At W [n11] w12 := ⟨(hA.call hbel).chg, hun⟩
    refine at_callq hA (c32 o.1 role w12) fun v w14 hA hk hb14 ⟨f, x, y, e, hf1, hst⟩ => ?_
    subst e
    refine ⟨_, _, _, _, rfl, hk, ?_⟩
    refine opw_allocS [.nilFunc, .int .i64 0, .int .i64 0] (zv := .agg #[.nilFunc, .int .i64 0, .int .i64 0]) (by kernel_rfl) rfl hA fun p w20 hp hA hk20 hb20 hpb => ⟨_, rfl, hk20, ?_⟩
    have hsz14 := ‹AtF W noB [n11] w14›.size
    refine opw_storeF hA hpb (.inl (by omega)) (fun hx => by have := ‹AtF W noB [n11] w14›.under _ hx; omega) (step_store hf1 x y) fun w23 hA hk23 hch hpb => ⟨hk23, ?_⟩
    have hbel14 : Bel w14 w23 := ⟨⟨hch.os.trans hb20.below.os, hch.tape.trans hb20.below.tape, hch.output.trans hb20.below.output, Nat.le_trans hb20.size hch.size, fun b hb => by rw [hch.block b (Nat.lt_of_lt_of_le hb hb20.size) (by omega), hb20.block hb]⟩, Nat.le_trans hb20.drawn hch.drawn⟩
    have hv23 := hvv.call ((hbel.trans hb14).trans hbel14)
    refine brNB (fun hno => bad (by unfold badO; rw [hno]; rfl) hA) (fun hok => brE (fun he => bad ?_ hA) (fun hne => ?_))
    · have : o.2.2 = [] := List.eq_nil_of_length_eq_zero (by omega)
      unfold badO
      rw [this]; simp
    refine at_callb hA (c25 w23 hv23) fun w28 hA hk28 _ => ⟨_, rfl, hk28, brNB (fun hno => bad (by unfold badO; rw [hno]; simp) hA) (fun hvok => ?_)⟩
    rw [succ_i i (by omega)]
    refine ⟨⟨hA.off, i + 1, rfl, by omega, ?_⟩, by simp only; omega⟩
    rw [hany]
    have hne' : o.2.2 ≠ [] := fun e => hne (by rw [hnv, e]; rfl)
    simp [badO, hok, hvok, hne']
  · have hie : i = ops.length := by omega
    rw [hie, List.take_length] at hf
    rw [if_neg (by rw [hf]; decide)] at h
    refine at_callb hA (c23 role w7 (OpsR_call hs hA.below)) fun w31 hA _ _ => ⟨_, rfl, brB (fun hb => ?_) (fun hb => ?_)⟩
    · rw [if_pos hb] at h; exact leaf h hA rfl
    · rw [if_neg (by rw [hb]; decide)] at h; exact leaf h hA rfl
end Go.Vc.V

/- pool's operations, done. -/
set_option maxRecDepth 20000
set_option maxHeartbeats 1000000
namespace Go.Vc.V
open Go Go.Vc Go.RowKit Go.Proofs Vce

variable {w W W' : World} {M : Nat → Prop} {gs : List Nat}

def rank (p : PartT) : Nat := (33 * p.1 + p.2.1).toNat
theorem sorted_len : ∀ (l : List PartT) (lo : Nat), l.Pairwise slt → (∀ p ∈ l, partR p) → (∀ p ∈ l, lo ≤ rank p) → l.length ≤ 132 - lo
  | [], _, _, _, _ => Nat.zero_le _
  | p :: l, lo, h, hR, hlo => by
    have h := List.pairwise_cons.1 h
    have hp := hR p (by simp)
    have hlp := hlo p (by simp)
    have ih := sorted_len l (rank p + 1) h.2 (fun q hq => hR q (by simp [hq])) fun q hq => by
      have h1 := h.1 q hq
      have h2 := hR q (by simp [hq])
      unfold rank slt partR slotR at *
      omega
    unfold rank partR slotR at *
    simp only [List.length_cons]
    omega
theorem vec_len {l : List PartT} (h : vecB l = true) : l.length ≤ 132 := sorted_len l 0 (vecB_iff.1 h).2 (vecB_iff.1 h).1 fun _ _ => Nat.zero_le _
theorem vmove_len {l : List PartT} {f t : Int} : (vout (vmove l f t)).length ≤ 132 := by
  cases hm : vmove l f t with
  | none => simp [vout]
  | some c =>
    unfold vmove at hm
    split at hm
    · exact vec_len (vof_some hm).1
    · cases hm
theorem vmove_vec {l : List PartT} {f t : Int} : vecB (vout (vmove l f t)) = true := by
  cases hm : vmove l f t with
  | none => rfl
  | some c =>
    unfold vmove at hm
    split at hm
    · exact (vof_some hm).1
    · cases hm

theorem c34 {rest v : List PartT} {a b : Option Addr} {n c m d : Nat} {f : Value} (kind role : Int) (W : World) (ha : SlE W 3 partE rest a n c) (hb : SlE W 3 partE v b m d) (hl : rest.length ≤ 1000000) (hlv : v.length ≤ 1000000) :
    RetQ Try.prog 34 #[.agg #[f, .int .i64 (fromR kind role), .int .i64 (toR kind role)], .slice a n c, .slice b m d] W fun u W' => ∃ s, u = .tuple #[s, .int .i64 (doL kind role rest v).2] ∧ W'.ownsRow W.heap.size 55 3 s (doL kind role rest v).1.length ((doL kind role rest v).1.flatMap partE) := by
  intro R h
  refine f34_calls f _ _ _ _ _ _ _ _ W R ?_
  unfold f34_vc
  refine opw_boxS (At.refl W) fun p w2 hp hA _ hb2 hpb => ⟨_, rfl, ?_⟩
  have out : ∀ {W' : World} {gs : List Nat} {s : Value} {l : List PartT} {e : Int}, At W gs W' → OwnL W gs W' 55 3 partE s l → doL kind role rest v = (l, e) → R (.returned (.tuple #[s, .int .i64 e])) W' := fun {W' gs s l e} hA ho hd => by
    refine h _ _ hA.below ⟨s, by rw [hd], ?_⟩
    rw [hd]
    exact ho.row
  have hR : ∀ {W' : World}, Bel w2 W' → ∀ o x r, ([f, .int .i64 (fromR kind role), .int .i64 (toR kind role)] : List Value).drop (o + 1) = Value.int .i64 x :: r → Reads Try.prog [] (Instr.loadAt 3 (Value.pointer (some (Addr.mk p (0 + (o + 1)) none)))) W' (.int .i64 x) := fun {W'} hb o x r hc => by
    have hpb' : W'.heap[p]? = some (.cells ([f, .int .i64 (fromR kind role), .int .i64 (toR kind role)] : List Value).toArray 68 (0, 0)) := by
      rw [hb.block (Array.getElem?_eq_some_iff.1 hpb).1, hpb]; rfl
    exact rd_f o hpb' hc (by kernel_rfl) (by simp)
  refine at_calllb hA (c30 w2 (ha.call hb2) (hb.call hb2) hl) (fun _ _ => rfl) fun a6 c6 w5 hA _ hb5 ho hs5 => ⟨_, _, _, _, rfl, ?_⟩
  have hdo : doL kind role rest v = if vecB rest = true ∧ vecB v = true ∧ (vsub rest v).isSome = true then
    (if toR kind role < 0 then (vout (vsub rest v), 0)
     else if vecB (vout (vmove v (fromR kind role) (toR kind role))) = true ∧ (vadd (vout (vsub rest v)) (vout (vmove v (fromR kind role) (toR kind role)))).isSome = true then (vout (vadd (vout (vsub rest v)) (vout (vmove v (fromR kind role) (toR kind role)))), 0)
     else ([], 31)) else ([], 30) := rfl
  refine brNB (fun hno => ?_) (fun hyes => ?_)
  · refine out hA OwnL.nil ?_
    rw [hdo, if_neg]
    rintro ⟨h1, h2, h3⟩
    rw [decide_eq_true ⟨h1, h2⟩, h3] at hno
    cases hno
  rw [Bool.and_eq_true, decide_eq_true_eq] at hyes
  obtain ⟨⟨hv1, hv2⟩, hsub⟩ := hyes
  rw [if_pos ⟨hv1, hv2⟩] at ho hs5 ⊢
  rw [if_pos ⟨hv1, hv2, hsub⟩] at hdo
  have hsv : vecB (vout (vsub rest v)) = true := by
    cases hs : vsub rest v with
    | none => rfl
    | some d => exact (vsub_amt hv1 hv2 hs).1
  have hsl := vec_len hsv
  refine ⟨_, hR hb5 1 _ [] rfl, brD (fun hneg => ?_) (fun hpos => ?_)⟩
  · rw [if_pos hneg] at hdo
    exact out hA ho hdo
  · refine ⟨_, hR hb5 0 _ _ rfl, _, hR hb5 1 _ [] rfl, ?_⟩
    rw [if_neg hpos] at hdo
    refine at_calllb hA (c16 (fromR kind role) (toR kind role) w5 ((hb.call hb2).call hb5) hlv) (fun _ _ => rfl) fun a15 c15 w14 hA _ hb14 ho15 hs15 => ⟨_, _, _, _, rfl, ?_⟩
    have hml := vmove_len (l := v) (f := fromR kind role) (t := toR kind role)
    have hmv := vmove_vec (l := v) (f := fromR kind role) (t := toR kind role)
    refine at_calllb hA (c45 w14 (hs5.call hb14) hs15 (by omega) (by omega)) (fun _ _ => rfl) fun a21 c21 w20 hA _ hb20 ho21 hs21 => ⟨_, _, _, _, rfl, ?_⟩
    refine brNB (fun hno => ?_) (fun hyes => ?_)
    · refine out hA OwnL.nil ?_
      rw [hdo, if_neg]
      rintro ⟨_, h3⟩
      rw [decide_eq_true ⟨hsv, hmv⟩, h3] at hno
      cases hno
    · rw [Bool.and_eq_true] at hyes
      rw [if_pos ⟨hsv, hmv⟩] at ho21 ⊢
      refine out hA ho21 ?_
      rw [hdo, if_pos ⟨hmv, hyes.2⟩]

/-- What a check that finds nothing has seen. -/
theorem check_ok {all : List PartT} {role : Int} {ops : List OpT} (h : checkL all role ops = 0) : vecB all = true ∧ 1 ≤ role ∧ role ≤ 32 ∧ foreign role ops = false ∧ ∀ o ∈ ops, okK o.1 = true ∧ o.2.2 ≠ [] ∧ vecB o.2.2 = true := by
  unfold checkL at h
  split at h
  · cases h
  · rename_i h1
    split at h
    · cases h
    · rename_i h2
      split at h
      · cases h
      · rename_i h3
        refine ⟨by simpa using fun e => h1 (.inl e), by omega, by omega, by simpa using h3, fun o ho => ?_⟩
        have : badO o = false := by
          cases hb : badO o with
          | false => rfl
          | true => exact absurd (List.any_eq_true.2 ⟨o, ho, hb⟩) h2
        unfold badO at this
        simpa using this
theorem doL_err {kind role : Int} {rest v : List PartT} (h : (doL kind role rest v).2 ≠ 0) : (doL kind role rest v).1 = [] := by
  unfold doL at h
  unfold doL
  split
  · rename_i c
    rw [if_pos c] at h
    split
    · rename_i c2
      rw [if_pos c2] at h
      exact absurd rfl h
    · rename_i c2
      rw [if_neg c2] at h
      split
      · rename_i c3
        rw [if_pos c3] at h
        exact absurd rfl h
      · rfl
  · rfl
theorem doL_vec {kind role : Int} {rest v : List PartT} : vecB (doL kind role rest v).1 = true := by
  unfold doL
  split
  · rename_i h
    obtain ⟨c, hc⟩ := Option.isSome_iff_exists.1 h.2.2
    have hs := vsub_amt h.1 h.2.1 hc
    rw [hc]
    split
    · exact hs.1
    · split
      · rename_i h2
        obtain ⟨d, hd⟩ := Option.isSome_iff_exists.1 h2.2
        have := vadd_amt hs.1 h2.1 hd
        rw [hd]
        exact this.1
      · rfl
  · rfl

theorem c24 {all : List PartT} {ops : List OpT} {a b : Option Addr} {n c m d : Nat} (role but : Int) (W : World) (ha : SlE W 3 partE all b m d) (hs : OpsR W ops a n c) (hl : all.length ≤ 1000000) :
    RetQ Try.prog 24 #[.slice b m d, .int .i64 role, .slice a n c, .int .i64 but] W fun u W' => ∃ s, u = .tuple #[s, .int .i64 (runL all role ops but).2] ∧ W'.ownsRow W.heap.size 55 3 s (runL all role ops but).1.length ((runL all role ops but).1.flatMap partE) := by
  intro R h
  refine f24_calls _ _ _ role _ _ _ but W R ?_
  unfold f24_vc
  have hn := hs.1
  have hmx := hs.2.1
  have hmx2 := hs.2.2.1
  simp only [maxLen] at hmx2
  have out : ∀ {W' : World} {gs : List Nat} {s : Value} {l : List PartT} {e : Int}, At W gs W' → OwnL W gs W' 55 3 partE s l → runL all role ops but = (l, e) → R (.returned (.tuple #[s, .int .i64 e])) W' := fun {W' gs s l e} hA ho hd => by
    refine h _ _ hA.below ⟨s, by rw [hd], ?_⟩
    rw [hd]
    exact ho.row
  refine at_callb (At.refl W) (c33 role W ha hs) fun w2 hA _ hb2 => ⟨_, rfl, brN (fun hne => ?_) (fun he => ?_)⟩
  · exact out hA OwnL.nil (if_pos hne)
  obtain ⟨hv, hr1, hr2, hf, hops⟩ := check_ok he
  have hrun : runL all role ops but = stepsL role but all ops := if_neg (by rw [he]; decide)
  rw [he]
  refine at_calll hA (c22 w2 (ha.call hb2) hl) (fun _ _ => rfl) fun a6 c6 w5 hA _ hb5 ho _ => ⟨_, _, _, rfl, ?_⟩
  refine ⟨fun v W' => At W [] W' ∧ ∃ (i : Nat) (rest : List PartT), v.1 = 0 ∧ v.2.2.1 = i ∧ i ≤ ops.length ∧ OwnL W [] W' 55 3 partE (.slice v.2.1.1 v.2.1.2.1 v.2.1.2.2) rest ∧ rest.length ≤ 1000000 ∧ stepsL role but rest (ops.drop i) = stepsL role but all ops, fun v _ => (n - v.2.2.1).toNat, ⟨hA, 0, all, rfl, rfl, Nat.zero_le _, ho, hl, rfl⟩, ?_⟩
  rintro x11 a12 n13 n14 x15 w16 ⟨hA, i, rest, e0, hi, hil, ho, hrl, hst⟩
  simp only at e0 hi ho
  subst e0 hi
  refine brD (fun hlt => ?_) (fun hge => ?_)
  · obtain ⟨o, hoi⟩ : ∃ x, ops[i]? = some x := ⟨_, List.getElem?_eq_getElem (by omega)⟩
    obtain ⟨hok, _, hvo⟩ := hops o (List.mem_of_getElem? hoi)
    rw [drop_cons hoi, stepsL] at hst
    obtain ⟨ad, a', n', c', g1, el, hvv⟩ := op_at (OpsR_call hs hA.below) hoi
    refine ⟨ad, g1, _, _, _, _, _, el.agg 3 (by kernel_rfl) (by kernel_rfl) (by simp) (by simp), ?_⟩
    intro n23 hn23 w24 hev hun
    have hbel := hev.bel (by simpa using hn23)
    have hA : At W [n23] w24 := ⟨(hA.call hbel).chg, hun⟩
    have ho := (ho.more (gs' := [n23]) (by intro g h1 _; simp at h1; omega)).call hbel
    refine at_callq hA (c32 o.1 role w24) fun v w26 hA hk hb26 ⟨f, x, y, e, hf1, hstp⟩ => ?_
    subst e
    obtain ⟨e1, e2, _⟩ := hstp hok
    subst e1 e2
    have ho := ho.call hb26
    refine ⟨_, _, _, _, rfl, hk, ?_⟩
    refine opw_allocS [.nilFunc, .int .i64 0, .int .i64 0] (zv := .agg #[.nilFunc, .int .i64 0, .int .i64 0]) (by kernel_rfl) rfl hA fun p w32 hp hA hk32 hb32 hpb => ⟨_, rfl, hk32, ?_⟩
    have hsz26 := ‹AtF W noB [n23] w26›.size
    have ho := ho.call hb32
    refine opw_storeF hA hpb (.inl (by omega)) (fun hx => by have := ‹AtF W noB [n23] w26›.under _ hx; omega) (step_store hf1 _ _) fun w35 hA hk35 hch hpb => ⟨hk35, ?_⟩
    have hne68 : ∀ k, (Value.slice a12 n13 n14).ownBlock = some k → k ≠ p := fun k hk => by
      obtain ⟨cur, hc⟩ := ho.blk hk
      exact cells_ne hc ‹w32.heap[p]? = _› (by decide)
    have ho := ho.chg hch hne68
    have hbel26 : Bel w26 w35 := ⟨⟨hch.os.trans hb32.below.os, hch.tape.trans hb32.below.tape, hch.output.trans hb32.below.output, Nat.le_trans hb32.size hch.size, fun b hb => by rw [hch.block b (Nat.lt_of_lt_of_le hb hb32.size) (by omega), hb32.block hb]⟩, Nat.le_trans hb32.drawn hch.drawn⟩
    have hv35 := hvv.call ((hbel.trans hb26).trans hbel26)
    rw [succ_i i (by omega)]
    refine brE (fun hbut => ?_) (fun hnb => ?_)
    · rw [if_pos hbut] at hst
      exact ⟨⟨hA.off, i + 1, rest, rfl, rfl, by omega, ho.more (by simp), hrl, hst⟩, by simp only; omega⟩
    · rw [if_neg hnb] at hst
      refine ⟨_, _, _, (elt_cells hpb).agg 3 (by kernel_rfl) (by kernel_rfl) (by simp) (by simp), ?_⟩
      refine at_callq hA (c34 o.1 role w35 (ho.sl fun _ _ => rfl) hv35 hrl (by have := vec_len hvo; omega)) fun u w40 hA' hk40 hb40 ⟨s, e, hrow⟩ => ?_
      subst e
      have ho' : OwnL W [n23] w40 55 3 partE s (doL o.1 role rest o.2.2).1 := OwnF.ret hA hrow rfl rfl
      obtain ⟨a', c', rfl, _⟩ := ho'.slice fun _ _ => rfl
      refine ⟨_, _, _, _, rfl, hk40, brN (fun hne => ?_) (fun heq => ?_)⟩
      · rw [if_neg hne] at hst
        exact out hA' ho' (by rw [hrun, ← hst])
      · rw [if_pos heq] at hst
        refine ⟨⟨hA'.off, i + 1, _, heq, rfl, by omega, ho'.more (by simp), ?_, hst⟩, by simp only; omega⟩
        have := vec_len (doL_vec (kind := o.1) (role := role) (rest := rest) (v := o.2.2))
        omega
  · rw [List.drop_of_length_le (by omega), stepsL] at hst
    exact out hA ho (by rw [hrun, ← hst])
theorem c12 {all : List PartT} {ops : List OpT} {a b : Option Addr} {n c m d : Nat} (role : Int) (W : World) (ha : SlE W 3 partE all b m d) (hs : OpsR W ops a n c) (hl : all.length ≤ 1000000) :
    RetQ Try.prog 12 #[.slice b m d, .int .i64 role, .slice a n c] W fun u W' => ∃ s, u = .tuple #[s, .int .i64 (runL all role ops 0).2] ∧ W'.ownsRow W.heap.size 55 3 s (runL all role ops 0).1.length ((runL all role ops 0).1.flatMap partE) := by
  intro R h
  refine f12_calls _ _ _ role _ _ _ W R ?_
  unfold f12_vc
  refine at_callq (At.refl W) (c24 role 0 W ha hs hl) fun u w2 hA _ hb ⟨s, e, hrow⟩ => ?_
  subst e
  have ho' : OwnL W [] w2 55 3 partE s (runL all role ops 0).1 := OwnF.ret (At.refl W) hrow rfl rfl
  obtain ⟨a', c', rfl, _⟩ := ho'.slice fun _ _ => rfl
  exact ⟨_, _, _, _, rfl, h _ _ hA.below ⟨_, rfl, hrow⟩⟩
theorem c13 {all : List PartT} {ops : List OpT} {a b : Option Addr} {n c m d : Nat} (role : Int) (W : World) (ha : SlE W 3 partE all b m d) (hs : OpsR W ops a n c) (hl : all.length ≤ 1000000) :
    RetQ Try.prog 13 #[.slice b m d, .int .i64 role, .slice a n c] W fun u W' => ∃ s, u = .tuple #[s, .int .i64 (runL all role ops 1).2] ∧ W'.ownsRow W.heap.size 55 3 s (runL all role ops 1).1.length ((runL all role ops 1).1.flatMap partE) := by
  intro R h
  refine f13_calls _ _ _ role _ _ _ W R ?_
  unfold f13_vc
  refine at_callq (At.refl W) (c24 role 1 W ha hs hl) fun u w2 hA _ hb ⟨s, e, hrow⟩ => ?_
  subst e
  have ho' : OwnL W [] w2 55 3 partE s (runL all role ops 1).1 := OwnF.ret (At.refl W) hrow rfl rfl
  obtain ⟨a', c', rfl, _⟩ := ho'.slice fun _ _ => rfl
  exact ⟨_, _, _, _, rfl, h _ _ hA.below ⟨_, rfl, hrow⟩⟩

/-- How many are launched. -/
def tasksL (ops : List OpT) : Nat := (ops.filter fun o => decide (o.1 = 1)).length
theorem c10 {ops : List OpT} {a : Option Addr} {n c : Nat} (W : World) (hs : OpsR W ops a n c) : Ret Try.prog 10 #[.slice a n c] W (.int .i64 (tasksL ops : Int)) := by
  intro R h
  refine f10_calls _ _ _ W R ?_
  unfold f10_vc
  have hn := hs.1
  have hmx := hs.2.1
  have hmx2 := hs.2.2.1
  simp only [maxLen] at hmx2
  refine ⟨fun v W' => At W [] W' ∧ ∃ i : Nat, v.2.1 = i ∧ i ≤ ops.length ∧ v.1 = tasksL (ops.take i), fun v _ => (n - v.2.1).toNat, ⟨At.refl W, 0, rfl, Nat.zero_le _, rfl⟩, ?_⟩
  rintro x3 x4 w5 ⟨hA, i, hi, hil, e⟩
  simp only at hi e
  subst hi e
  have hle : tasksL (ops.take i) ≤ i := Nat.le_trans (List.length_filter_le ..) (by simp; omega)
  refine brD (fun hlt => ?_) (fun hge => leaf h hA ?_)
  · obtain ⟨o, hoi⟩ : ∃ x, ops[i]? = some x := ⟨_, List.getElem?_eq_getElem (by omega)⟩
    obtain ⟨ad, a', n', c', g1, el, _⟩ := op_at (OpsR_call hs hA.below) hoi
    have htk : tasksL (ops.take (i + 1)) = tasksL (ops.take i) + if o.1 = 1 then 1 else 0 := by
      unfold tasksL
      rw [List.take_add_one, hoi, List.filter_append, List.length_append]
      by_cases h1 : o.1 = 1 <;> simp [h1]
    refine ⟨ad, g1, _, _, _, _, _, el.agg 3 (by kernel_rfl) (by kernel_rfl) (by simp) (by simp), ?_⟩
    intro n12 hn12
    rw [succ_i i (by omega)]
    refine brE (fun h1 => ?_) (fun h1 => ?_)
    · intro w13 hev hun
      rw [succ_i _ (by omega)]
      rw [if_pos h1] at htk
      exact ⟨⟨(hA.call (hev.bel (by simpa using hn12))).off, i + 1, rfl, by omega, by simp only; rw [htk]⟩, by simp only; omega⟩
    · intro w13 hev hun
      rw [if_neg h1] at htk
      exact ⟨⟨(hA.call (hev.bel (by simpa using hn12))).off, i + 1, rfl, by omega, by simp only; rw [htk]; rfl⟩, by simp only; omega⟩
  · rw [show i = ops.length by omega, List.take_length]
end Go.Vc.V

