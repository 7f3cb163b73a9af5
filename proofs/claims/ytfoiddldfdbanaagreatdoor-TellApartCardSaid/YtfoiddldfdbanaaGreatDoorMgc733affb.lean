/- Own texts of this claim, laid together: ZvW1, VcCopy, VcMap2, VcRange, ZvW2, ZvW3, ZvWd, ZvX0, VcPart, ZvWg, ZdF2, VcInv, ZvWm, ZvX2, VcSlice, ZvX3, ZvX4, ZvX5. -/
import Derived.Test.YtfoiddldfdbanaaGreatDoorMgf72032b5
import Derived.Laws.CopyRow
import Derived.Maps.RangeRun
import Derived.Test.YtfoiddldfdbanaaGreatDoorProg

/- quant, slot, vec.Right. -/
set_option maxRecDepth 20000
namespace Go.Vc.ZW
open Go Go.Vc Go.Vc.V Go.RowKit Go.Proofs Vcqz

/-! ### Amounts -/
def qgo (most : Int) : Int → List Int → Int × Bool
  | s, [] => (s, true)
  | s, n :: r => if n < 0 ∨ n > most - s then (0, false) else qgo most (s + n) r
def qsum (most : Int) (l : List Int) : Int × Bool := if most < 0 then (0, false) else qgo most 0 l
abbrev pairV (p : Int × Bool) : Value := .tuple #[.int .i64 p.1, .bool p.2]

theorem c87 {most : Int} {l : List Int} {a : Option Addr} {n c : Nat} (w : World) (hm : I64 most) (hs : SlE w 1 one l a n c) (hI : ∀ x ∈ l, I64 x) : Ret Tryz.prog 87 #[.int .i64 most, .slice a n c] w (pairV (qsum most l)) := by
  intro R h
  refine f87_calls most a n c w R ?_
  unfold f87_vc
  have hA := At.refl w
  have hlen := hs.len_le
  have hn := hlen.1
  subst hn
  refine brD (fun hneg => leaf h hA (by rw [qsum, if_pos hneg])) (fun hpos => ?_)
  rw [qsum, if_neg hpos] at h
  refine ⟨fun s W => At w [] W ∧ ∃ k : Nat, s.2.1 = k ∧ k ≤ l.length ∧ (0 ≤ s.1 ∧ s.1 ≤ most) ∧ qgo most s.1 (l.drop k) = qgo most 0 l, fun s _ => l.length - s.2.1.toNat, ⟨hA, 0, rfl, Nat.zero_le _, by show (0 : Int) ≤ 0 ∧ (0 : Int) ≤ most; omega, rfl⟩, ?_⟩
  intro s i W ⟨hA, k, hik, hk, hb, hg⟩
  simp only at hik hb hg
  subst hik
  refine brD (fun hlt => ?_) (fun hge => ?_)
  · obtain ⟨x, hx⟩ : ∃ x, l[k]? = some x := ⟨_, List.getElem?_eq_getElem (by omega)⟩
    have hIx := hI x (List.mem_of_getElem? hx)
    obtain ⟨ad, g1, r1⟩ := rd_one (te := 2) (ds := []) (k := .i64) (t := 99) (P := Tryz.prog) (e := 2) (hs.call hA.below) hx rfl (by kernel_rfl) (by kernel_rfl) (by kernel_rfl) (fun _ h => by cases h)
    rw [drop_cons hx, qgo] at hg
    refine ⟨_, g1, _, r1, ?_⟩
    rw [wrap_i64 (x := most - s) (by omega) (by omega), wrap_i64 (x := (k : Int) + 1) (by omega) (by omega)]
    refine brD (fun h1 => ?_) (fun h1 => brD (fun h2 => ?_) (fun h2 => ?_))
    · rw [if_pos (.inl h1)] at hg
      exact leaf h hA (by rw [← hg])
    · rw [if_pos (.inr h2)] at hg
      exact leaf h hA (by rw [← hg])
    · rw [if_neg (by omega)] at hg
      rw [wrap_i64 (x := s + x) (by omega) (by omega)]
      exact ⟨⟨hA, k + 1, rfl, by omega, by show (0 : Int) ≤ s + x ∧ s + x ≤ most; omega, hg⟩, by simp only; omega⟩
  · have hke : k = l.length := by omega
    subst hke
    rw [List.drop_length, qgo] at hg
    exact leaf h hA (by rw [← hg])

theorem c66 (n : Int) (w : World) : Ret Tryz.prog 66 #[.int .i64 n] w (.bool (decide (0 ≤ n ∧ n ≤ 9007199254740992))) := by
  intro R h
  refine f66_calls n w R ?_
  unfold f66_vc
  have hA := At.refl w
  refine brD (fun h1 => leaf h hA ?_) (fun h1 => leaf h hA ?_)
  · simp [h1]
  · simp only [ge_iff_le] at h1
    simp [h1]

theorem c75 (a b most : Int) (ha : I64 a) (hb : I64 b) (hm : I64 most) (w : World) : Ret Tryz.prog 75 #[.int .i64 a, .int .i64 b, .int .i64 most] w (pairV (qsum most [a, b])) := by
  intro R h
  refine f75_calls a b most w R ?_
  unfold f75_vc
  have hA := At.refl w
  refine opw_lit hA (e' := 2) (cs := [a, b].flatMap one) (by kernel_rfl) fun w' hA hk hbw hc hh => ⟨_, _, _, rfl, ?_⟩
  have ho : OwnL w [] w' 2 1 one (.slice (some ⟨w.heap.size, 0, none⟩) 2 2) [a, b] :=
    OwnL.of ⟨rfl, .inr ⟨_, 2, _, rfl, Nat.le_refl _, hh, Nat.le_refl _, by decide, rfl, rfl⟩⟩ (fun _ h => by cases h)
  refine at_call hA (c87 (l := [a, b]) _ hm (ho.sl (by simp)) (by simp; exact ⟨ha, hb⟩)) (fun _ hA hk => ⟨_, _, rfl, ?_⟩)
  exact leaf h hA rfl

/-- A difference of amounts. -/
def qsub (a b : Int) : Int × Bool := if b < 0 ∨ b > a then (0, false) else (a - b, true)
theorem qsum2 {a b : Int} (ha : 0 ≤ a ∧ a ≤ 9007199254740992) (hb : 0 ≤ b ∧ b ≤ 9007199254740992) : qsum 9007199254740992 [a, b] = if a + b ≤ 9007199254740992 then (a + b, true) else (0, false) := by
  unfold qsum
  rw [if_neg (by omega)]
  simp only [qgo]
  repeat' split
  all_goals first | omega | (congr 1; omega) | rfl | skip

/-! ### Slots -/
theorem c64 (k r : Int) (w : World) : Ret Tryz.prog 64 #[slotV k r] w (.bool (decide (slotR k r))) := by
  intro R h
  refine f64_calls k r w R ?_
  unfold f64_vc
  have hA := At.refl w
  refine go_n hA fun n1 h_n1 => ?_
  refine brD (fun h1 => brD (fun h2 => brD (fun h3 => ?_) (fun h3 => ?_)) (fun h2 => ?_)) (fun h1 => ?_)
  all_goals refine go_below hA fun _ hA => leaf h hA ?_
  · rw [show decide (slotR k r) = decide (r ≤ 32) from decide_eq_decide.2 ⟨fun hh => hh.2.2.2, fun hh => ⟨h1, h2, h3, hh⟩⟩]
  · rw [decide_eq_false (show ¬ slotR k r from fun hh => h3 hh.2.2.1)]
  · rw [decide_eq_false (show ¬ slotR k r from fun hh => h2 hh.2.1)]
  · rw [decide_eq_false (show ¬ slotR k r from fun hh => h1 hh.1)]

theorem c65 (a b c : Int) (w : World) : Ret Tryz.prog 65 #[.agg #[.int .i64 a, .int .i64 b, .int .i64 c]] w (slotV a b) := by
  intro R h
  refine f65_calls a b c w R ?_
  unfold f65_vc
  intro n1 h1 n2 h2 w' hev _
  exact h _ (Chg.below ((Chg.of_evo hev).mono fun b hb hm => by simp at hm; omega))

theorem c67 (a b c d : Int) (w : World) : Ret Tryz.prog 67 #[slotV a b, slotV c d] w (.int .i64 (slotC a b c d)) := by
  intro R h
  refine f67_calls a b c d w R ?_
  unfold f67_vc
  have hA := At.refl w
  refine go_n hA fun n1 h_n1 => ?_
  refine go_n hA fun n2 h_n2 => ?_
  refine ⟨fun he => go_below hA fun _ hA => leaf h hA ?_, fun hne => ?_⟩
  · simp at he
    rw [slotC, if_pos he]
  simp at hne
  refine brD (fun h1 => go_below hA fun _ hA => leaf h hA ?_) (fun h1 => brE (fun h2 => brD (fun h3 => go_below hA fun _ hA => leaf h hA ?_) (fun h3 => go_below hA fun _ hA => leaf h hA ?_)) (fun h2 => go_below hA fun _ hA => leaf h hA ?_))
  · rw [slotC, if_neg (by omega), if_pos (.inl h1)]
  · rw [slotC, if_neg (by omega), if_pos (.inr ⟨h2, h3⟩)]
  · rw [slotC, if_neg (fun hh => hne hh.1 hh.2), if_neg (by omega)]
  · rw [slotC, if_neg (fun hh => hne hh.1 hh.2), if_neg (by omega)]

/-! ### Right -/
theorem c40 {l : List PartT} {a : Option Addr} {n c : Nat} (w : World) (hs : SlE w 3 partE l a n c) : Ret Tryz.prog 40 #[.slice a n c] w (.bool (vecB l)) := by
  intro R h
  refine f40_calls a n c w R ?_
  unfold f40_vc
  have hA := At.refl w
  have hn := hs.1
  subst hn
  have hlen := hs.len_le.2
  have hat : ∀ {W : World} {gs : List Nat} {i : Nat} {x : PartT}, At w gs W → l[i]? = some x → ∃ ad, Gives Tryz.prog (Instr.indexAt 43 (.slice a l.length c) (.int .i64 (i : Int))) (.pointer (some ad)) ∧ Reads Tryz.prog [] (Instr.loadAt 53 (.pointer (some ad))) W (partV x) := fun hA hx =>
    rd_agg (f := partE) (hs.call hA.below) hx (e := 53) (by kernel_rfl) (by kernel_rfl) (by kernel_rfl) (by kernel_rfl) (fun _ h => by cases h)
  refine ⟨fun s W => At w [] W ∧ ∃ k : Nat, s.1 = k ∧ k ≤ l.length ∧ vok (if k = 0 then none else l[k - 1]?) (l.drop k) = vecB l, fun s _ => l.length - s.1.toNat, ⟨hA, 0, rfl, Nat.zero_le _, rfl⟩, ?_⟩
  intro i W ⟨hA, k, hi, hk, hv⟩
  simp only at hi
  subst hi
  refine brD (fun hlt => ?_) (fun hge => ?_)
  · obtain ⟨p, hp⟩ : ∃ x, l[k]? = some x := ⟨_, List.getElem?_eq_getElem (by omega)⟩
    obtain ⟨ad, g1, r1⟩ := hat hA hp
    rw [vok_step hp] at hv
    have e1 : IntKind.i64.wrap ((k : Int) + 1) = ((k + 1 : Nat) : Int) := by rw [wrap_i64 (by omega) (by omega)]; rfl
    rw [e1]
    refine ⟨_, g1, _, _, _, r1, ?_⟩
    refine go_n hA fun n9 h_n9 => ?_
    refine go_evo hA (by intro d hd; simp at hd; omega) fun _ hA => ?_
    refine at_call hA (c65 _ _ _ _) (fun _ hA hk => ?_)
    refine ⟨_, _, rfl, hk, ?_⟩
    refine at_call hA (c64 _ _ _) (fun _ hA hk => ?_)
    refine ⟨_, rfl, hk, ?_⟩
    have next : (∀ W', At w [n9] W' → decide (partR p) = true → okB (if k = 0 then none else l[k - 1]?) p = true → (At w [] W' ∧ ∃ k' : Nat, ((k + 1 : Nat) : Int) = k' ∧ k' ≤ l.length ∧ vok (if k' = 0 then none else l[k' - 1]?) (l.drop k') = vecB l) ∧ l.length - ((k + 1 : Nat) : Int).toNat < l.length - (k : Int).toNat) := by
      intro W' hA h1 h2
      rw [h1, h2] at hv
      refine ⟨⟨hA.off, k + 1, rfl, by omega, ?_⟩, by omega⟩
      rw [if_neg (by omega), show k + 1 - 1 = k by omega, hp]
      simpa using hv
    refine brND (fun h1 => ?_) (fun h1 => brD (fun h2 => ?_) (fun h2 => ?_))
    · refine leaf h hA ?_
      rw [← hv, decide_eq_false (show ¬ partR p from fun hh => h1 hh.1)]
      rfl
    · refine leaf h hA ?_
      rw [← hv, decide_eq_false (show ¬ partR p from fun hh => by have := hh.2.1; omega)]
      rfl
    refine at_call hA (c66 _ _) (fun _ hA hk => ?_)
    refine ⟨_, rfl, hk, ?_⟩
    refine brND (fun h3 => leaf h hA ?_) (fun h3 => ?_)
    · rw [← hv, decide_eq_false (show ¬ partR p from fun hh => by have := hh.2; omega)]
      rfl
    have hR : partR p := ⟨h1, by omega, h3.2⟩
    refine brD (fun h4 => ?_) (fun h4 => ?_)
    · obtain ⟨q, hq⟩ : ∃ x, l[k - 1]? = some x := ⟨_, List.getElem?_eq_getElem (by omega)⟩
      obtain ⟨ad2, g2, r2⟩ := hat hA hq
      have e2 : IntKind.i64.wrap ((k : Int) - 1) = ((k - 1 : Nat) : Int) := by rw [wrap_i64 (by omega) (by omega)]; omega
      rw [e2]
      refine ⟨_, g2, _, _, _, r2, ?_⟩
      refine at_call hA (c65 _ _ _ _) (fun _ hA hk => ?_)
      refine ⟨_, _, rfl, hk, ?_⟩
      refine at_call hA (c65 _ _ _ _) (fun _ hA hk => ?_)
      refine ⟨_, _, rfl, hk, ?_⟩
      refine at_call hA (c67 _ _ _ _ _) (fun _ hA hk => ?_)
      refine ⟨_, rfl, hk, ?_⟩
      rw [if_neg (show ¬ k = 0 by omega), hq] at hv next
      refine brD (fun h5 => leaf h hA ?_) (fun h5 => next _ hA (by simpa using hR) (by rw [slotC_ge] at h5; simpa [okB] using h5))
      rw [slotC_ge] at h5
      rw [← hv]
      simp [okB, h5]
    · have h0 : k = 0 := by omega
      rw [if_pos h0] at next
      exact next _ hA (by simpa using hR) rfl
  · have hke : k = l.length := by omega
    subst hke
    rw [List.drop_length] at hv
    exact leaf h hA (by rw [← hv, vok_nil])
end Go.Vc.ZW

/- Copying all elements of a slice into an own one; a map made with a hint. -/
namespace Go.Vc
open Go Go.RowKit

section
variable {α : Type} {P : Program} {w W : World} {M : Nat → Prop} {gs : List Nat} {e : TypeId} {size : Nat} {f : α → List Value} {l l0 : List α} {t ty : TypeId} {fl : Array Bool} {bytes : Nat}

theorem SlE_cells {ad : Addr} {n c : Nat} (hs : SlE W size f l (some ad) n c) (hf : ∀ x ∈ l, (f x).length = size) : ∀ j u, (l.flatMap f)[j]? = some u → W.cell? (ad.add j) = some u := by
  intro j u hu
  have hj := (List.getElem?_eq_some_iff.1 hu).1
  rw [flatMap_len hf] at hj
  have hsz : 0 < size := by
    rcases Nat.eq_zero_or_pos size with h | h
    · subst h; omega
    · exact h
  have hi : j / size < l.length := Nat.div_lt_of_lt_mul (by rw [Nat.mul_comm]; exact hj)
  obtain ⟨ad', cs, hae, hcl, hcs, hcf⟩ := hs.at_ (List.getElem?_eq_getElem hi)
  cases hae
  subst hcf
  have hp := flatMap_part hf (List.getElem?_eq_getElem hi)
  have hm : j % size < size := Nat.mod_lt _ hsz
  have hdm : j / size * size + j % size = j := by rw [Nat.mul_comm]; exact Nat.div_add_mod j size
  have hv : (f l[j / size])[j % size]? = some u := by
    rw [← hp, List.getElem?_take, if_pos hm, List.getElem?_drop, hdm]
    exact hu
  have := hcs _ _ hv
  rw [add_add, hdm] at this
  exact this

theorem chg_setRow {g : Nat} {cs : Array Value} : Chg (fun b => b = g) W (W.setRow g cs) := by
  refine ⟨rfl, rfl, rfl, ?_, fun b _ hb => ?_, Nat.le_refl _⟩
  · simp [World.setRow]
  · simp [World.setRow, Array.getElem?_modify, Ne.symm hb]

theorem opw_copyAll {d : Option Addr} {n c n' c' : Nat} {a : Option Addr} (he : elemB P t e size bytes = true) (hA : AtF w M gs W) (ho : OwnF w M gs W e size f (.slice d n c) l0) (hs : SlE W size f l a n' c') (hl : l.length = l0.length) (hf : ∀ x ∈ l, (f x).length = size) (hf0 : ∀ x ∈ l0, (f x).length = size) (h1 : ∀ x ∈ l, ∀ u ∈ f x, u.oneCell' = true) {K : Value → World → Prop}
    (h : ∀ w', AtF w M gs w' → Keeps gs W w' → Chg (fun b => (Value.slice d n c).ownBlock = some b) W w' → OwnF w M gs w' e size f (.slice d n c) l → K (goInt l.length) w') :
    OpW P (builtin .copy #[t, t] ty fl #[.slice d n c, .slice a n' c']) W K := by
  obtain ⟨i, z, ok⟩ := elemB_ok he
  have hn := ho.len
  have hn' := hs.1
  subst hn hn'
  have hsz : ∀ W : World, (sizeOf e).run P W = .ok size W := fun W => by simp [sizeOf, typeInfo, ok.hi, ok.hsize]
  rcases ho.row0.2 with ⟨hv, h0⟩ | ⟨g, cap, cur, hv, _, hg, hnc, hcm, hcs, htk⟩
  · obtain ⟨rfl, hn0, rfl⟩ := Value.slice.inj hv
    have e1 : l0 = [] := List.eq_nil_of_length_eq_zero h0
    have e2 : l = [] := List.eq_nil_of_length_eq_zero (by omega)
    subst e1 e2
    have hr : (Builtin.copy_ #[t, t] ty #[.slice none 0 0, .slice a 0 c']).run P W = .ok (goInt 0) W := by
      unfold Builtin.copy_
      simp only [List.getElem?_toArray, List.getElem?_cons_zero, List.getElem?_cons_succ]
      rw [run_bind_ok (run_underlying ok.ht W)]
      simp only [Builtin.lenOf, pure_bind]
      rw [run_bind_ok (hsz W)]
      cases a with
      | none => rfl
      | some ad =>
        have this : (loadCells ad 0).run P W = .ok #[] W := run_loadCells_list (P := P) W ad [] (fun j v hv => by simp at hv)
        simp only [Builtin.firstCells, Nat.min_self, Nat.zero_mul]
        rw [run_bind_ok this]
        rfl
    have hrun : (builtin .copy #[t, t] ty fl #[.slice none 0 0, .slice a 0 c']).run P W = .ok (.value (goInt 0)) W := by
      show (do pure (Next.value (← Builtin.copy_ #[t, t] ty #[.slice none 0 0, .slice a 0 c'])) : Sem Next).run P W = _
      rw [run_bind_ok hr]
      rfl
    unfold OpW
    simp only [List.length_nil] at *
    rw [hrun]
    exact h W hA (fun _ _ => rfl) (Chg.refl _ _) ho
  · obtain ⟨rfl, _, rfl⟩ := Value.slice.inj hv
    have hlen : (l.flatMap f).length = l.length * size := flatMap_len hf
    have hone : ∀ u ∈ l.flatMap f, u.oneCell' = true := fun u hu => by
      obtain ⟨x, hx, hxu⟩ := List.mem_flatMap.1 hu
      exact h1 x hx u hxu
    have hfit : (l.flatMap f).length ≤ cur.size := by
      rw [hlen, hcs, hl]
      exact Nat.mul_le_mul_right _ hnc
    have hst := run_storeCells_at P g 0 e (l.flatMap f) 0 cur W hg (by simpa using hfit) hone
    simp only [Nat.zero_add] at hst
    have hr : (Builtin.copy_ #[t, t] ty #[.slice (some ⟨g, 0, none⟩) l0.length c, .slice a l.length c']).run P W = .ok (goInt l.length) (W.setRow g (cur.toList.take 0 ++ l.flatMap f ++ cur.toList.drop (l.flatMap f).length).toArray) := by
      unfold Builtin.copy_
      simp only [List.getElem?_toArray, List.getElem?_cons_zero, List.getElem?_cons_succ]
      rw [run_bind_ok (run_underlying ok.ht W)]
      simp only [Builtin.lenOf, pure_bind]
      rw [run_bind_ok (hsz W)]
      have hmin : Nat.min l.length l0.length = l.length := by rw [hl]; exact Nat.min_self _
      rw [hmin]
      have hld : (Builtin.firstCells size l.length (.slice a l.length c')).run P W = .ok (l.flatMap f).toArray W := by
        cases a with
        | none =>
          have hc0 := hs.2.2.2.1 rfl
          have : l = [] := List.eq_nil_of_length_eq_zero (by have := hs.2.1; omega)
          subst this
          rfl
        | some ad =>
          have := run_loadCells_list (P := P) W ad (l.flatMap f) (SlE_cells hs hf)
          rw [hlen] at this
          exact this
      rw [run_bind_ok hld]
      simp only
      rw [run_bind_ok hst]
      rfl
    have hrun : (builtin .copy #[t, t] ty fl #[.slice (some ⟨g, 0, none⟩) l0.length c, .slice a l.length c']).run P W = .ok (.value (goInt l.length)) (W.setRow g (cur.toList.take 0 ++ l.flatMap f ++ cur.toList.drop (l.flatMap f).length).toArray) := by
      show (do pure (Next.value (← Builtin.copy_ #[t, t] ty #[.slice (some ⟨g, 0, none⟩) l0.length c, .slice a l.length c'])) : Sem Next).run P W = _
      rw [run_bind_ok hr]
      rfl
    unfold OpW
    rw [hrun]
    have hch : Chg (fun b => (Value.slice (some ⟨g, 0, none⟩) l0.length c).ownBlock = some b) W (W.setRow g (cur.toList.take 0 ++ l.flatMap f ++ cur.toList.drop (l.flatMap f).length).toArray) := chg_setRow.mono fun b _ hb => by subst hb; rfl
    refine h _ (hA.step hch fun b _ hb => ho.mine b hb) (hA.keepsC hch fun x hx hb => ho.apart x hx hb) hch ⟨?_, ho.mine, ho.apart⟩
    refine ⟨hlen, .inr ⟨g, c, _, by rw [hl], Nat.zero_le _, setRow_heap W g cur _ e (0, 0) hg, by omega, hcm, ?_, ?_⟩⟩
    · simp only [List.take_zero, List.nil_append, List.size_toArray, List.length_append, List.length_drop, Array.length_toList]
      omega
    · simp only [List.take_zero, List.nil_append]
      rw [← hlen, List.take_left]
end

theorem opw_makeMapR {κ α : Type} {P : Program} {w W : World} {M : Nat → Prop} {gs : List Nat} {kf : κ → Value} {vf : α → Value} {t kt et : TypeId} {k : IntKind} {x : Int} {K : Value → World → Prop} (ht : P.underlying t = some (.map kt et)) (hA : AtF w M gs W) (h : ∀ g w', W.heap.size = g → AtF w M gs w' → Keeps gs W w' → Bel W w' → OwnM w M gs w' g kf vf ([] : List (κ × α)) → K (.map (some g)) w') : OpW P (valueS (Instr.makeMap t (some (.int k x)))) W K := by
  have hr : (Instr.makeMap t (some (.int k x))).run P W = .ok (.map (some W.heap.size)) (W.alloc (.map #[] 0)) := by
    unfold Instr.makeMap
    simp only
    rw [run_bind_ok (run_underlying ht W)]
    rfl
  unfold OpW
  rw [run_valueS hr]
  refine h _ _ rfl (hA.call (below_alloc _)) (hA.keeps (below_alloc _)) (below_alloc _) ⟨.inl hA.size, fun hm => ?_, #[], 0, heap_alloc_new W _, rfl, by simp, fun e he => by simp at he⟩
  have := hA.under _ hm
  omega
end Go.Vc

/- A map's entry made, then filled: two steps that are a set. -/
namespace Go.Vc
open Go Go.RowKit

section
variable {κ α : Type} {P : Program} {w W : World} {M : Nat → Prop} {gs : List Nat} {r : Nat} {kt : TypeId} {kf : κ → Value} {vf : α → Value} {m : List (κ × α)}

/-- An own map with an entry that is to be filled. -/
structure OwnE (w : World) (M : Nat → Prop) (gs : List Nat) (W : World) (r : Nat) (kf : κ → Value) (vf : α → Value) (m : List (κ × α)) (j : Nat) (k : κ) (stamp : Nat) : Prop where
  mine : w.heap.size ≤ r ∨ M r
  apart : r ∉ gs
  obj : ∃ (es : Array MapEntry) (clock : Nat), W.heap[r]? = some (.map es clock) ∧ EntR kf vf es.toList m ∧ (es.toList.map (·.born)).Nodup ∧ (∀ e ∈ es.toList, e.born < clock) ∧ ∃ e, es[j]? = some e ∧ e.born = stamp
  key : ∃ v, m[j]? = some (k, v)
theorem OwnE.lt {j : Nat} {k : κ} {stamp : Nat} (h : OwnE w M gs W r kf vf m j k stamp) : r < W.heap.size := by
  obtain ⟨es, clock, hr, _⟩ := h.obj
  exact (Array.getElem?_eq_some_iff.1 hr).1

theorem opw_mapEntryO [DecidableEq κ] {t et : TypeId} {k : κ} {z : α} {K : Value → World → Prop} (Ko : KeyOk P kt kf) (ht : P.underlying t = some (.map kt et)) (hz : midx k m = none → pureRun P (zeroValue et) = some (vf z)) (hA : AtF w M gs W) (ho : OwnM w M gs W r kf vf m)
    (h : ∀ w' m1 j v0 stamp, AtF w M gs w' → Keeps gs W w' → Chg (fun b => b = r) W w' → OwnE w M gs w' r kf vf m1 j k stamp → (∀ v, m1.set j (k, v) = mset k v m) → K (.tuple #[vf v0, .int .i64 (stamp : Int)]) w') : OpW P (valueS (Instr.mapEntry t (.map (some r)) (kf k))) W K := by
  have hl := ho.lt
  obtain ⟨es, clock, hr, he, hn, hb⟩ := ho.obj
  unfold OpW
  cases hm : midx k m with
  | none =>
    have hrun : (Instr.mapEntry t (.map (some r)) (kf k)).run P W = .ok (.tuple #[vf z, .int .i64 (clock : Int)]) { W with heap := W.heap.setIfInBounds r (.map (es.push { key := kf k, val := vf z, born := clock }) (clock + 1)) } := by
      unfold Instr.mapEntry
      rw [run_bind_ok (run_underlying ht W)]
      simp only
      rw [run_bind_ok (run_getObj_m hr)]
      simp only
      rw [run_bind_ok (Ko.chk false k W), run_bind_ok (findKey_run Ko k W he), hm]
      simp only [Option.bind_none]
      rw [run_bind_ok (pureRun_run (hz hm) W), run_bind_ok (run_setObj_m hr _)]
      rfl
    rw [run_valueS hrun]
    have hlen := EntR.len he
    refine h _ (m ++ [(k, z)]) m.length z clock (hA.setObjF ho.mine) (keeps_setObj ho.apart) chg_setObj ⟨ho.mine, ho.apart, ⟨_, _, setObj_heap hl _, ?_, ?_, ?_, ⟨{ key := kf k, val := vf z, born := clock }, ?_, rfl⟩⟩, ⟨z, by simp⟩⟩ fun v => by rw [mset_new hm]; simp
    · rw [Array.toList_push]
      unfold EntR at he ⊢
      rw [List.map_append, List.map_append, he]
      rfl
    · rw [Array.toList_push, List.map_append]
      refine List.nodup_append.2 ⟨hn, by simp, fun a ha b hb' => ?_⟩
      simp at hb'
      obtain ⟨e, hem, rfl⟩ := List.mem_map.1 ha
      have := hb e hem
      omega
    · intro e hem
      rw [Array.toList_push] at hem
      rcases List.mem_append.1 hem with h1 | h1
      · have := hb e h1; omega
      · simp at h1; subst h1; simp
    · rw [← hlen, Array.length_toList]; simp
  | some j =>
    obtain ⟨v0, hv0⟩ := midx_key hm
    obtain ⟨e0, he0, hk0, hv00⟩ := EntR.at_ he hv0
    have he0' : es[j]? = some e0 := by simpa using he0
    have hks : (Instr.keyThatStays (kf k) (kf k)).run P W = .ok (kf k) W := by
      unfold Instr.keyThatStays
      rw [if_pos (Ko.bits k)]
      rfl
    have hrun : (Instr.mapEntry t (.map (some r)) (kf k)).run P W = .ok (.tuple #[vf v0, .int .i64 (e0.born : Int)]) { W with heap := W.heap.setIfInBounds r (.map (es.modify j fun e => { e with key := kf k }) clock) } := by
      unfold Instr.mapEntry
      rw [run_bind_ok (run_underlying ht W)]
      simp only
      rw [run_bind_ok (run_getObj_m hr)]
      simp only
      rw [run_bind_ok (Ko.chk false k W), run_bind_ok (findKey_run Ko k W he), hm]
      simp only [Option.bind_some, hv0, Option.map_some, he0', Option.getD_some, hk0]
      rw [run_bind_ok hks, run_bind_ok (run_setObj_m hr _)]
      rfl
    have hmod : es.modify j (fun e => { e with key := kf k }) = es := by
      apply Array.ext_getElem?
      intro i
      rw [Array.getElem?_modify]
      split
      · rename_i hij
        subst hij
        rw [he0']
        simp only [Option.map_some, Option.some.injEq]
        rw [← hk0]
      · rfl
    rw [run_valueS hrun, hmod]
    exact h _ m j v0 e0.born (hA.setObjF ho.mine) (keeps_setObj ho.apart) chg_setObj ⟨ho.mine, ho.apart, ⟨_, _, setObj_heap hl _, he, hn, hb, ⟨e0, he0', rfl⟩⟩, ⟨v0, hv0⟩⟩ fun v => (mset_at hm).symm

theorem opw_mapEntry [DecidableEq κ] {t et : TypeId} {k : κ} {z : α} {K : Value → World → Prop} (Ko : KeyOk P kt kf) (ht : P.underlying t = some (.map kt et)) (hz : pureRun P (zeroValue et) = some (vf z)) (hA : AtF w M gs W) (ho : OwnM w M gs W r kf vf m)
    (h : ∀ w' m1 j v0 stamp, AtF w M gs w' → Keeps gs W w' → Chg (fun b => b = r) W w' → OwnE w M gs w' r kf vf m1 j k stamp → (∀ v, m1.set j (k, v) = mset k v m) → K (.tuple #[vf v0, .int .i64 (stamp : Int)]) w') : OpW P (valueS (Instr.mapEntry t (.map (some r)) (kf k))) W K :=
  opw_mapEntryO Ko ht (fun _ => hz) hA ho h
/-- The same, of a key that is there. -/
theorem opw_mapEntryH [DecidableEq κ] {t et : TypeId} {k : κ} {z : α} {K : Value → World → Prop} (Ko : KeyOk P kt kf) (ht : P.underlying t = some (.map kt et)) (hz : mget k m = some z) (hA : AtF w M gs W) (ho : OwnM w M gs W r kf vf m)
    (h : ∀ w' m1 j v0 stamp, AtF w M gs w' → Keeps gs W w' → Chg (fun b => b = r) W w' → OwnE w M gs w' r kf vf m1 j k stamp → (∀ v, m1.set j (k, v) = mset k v m) → K (.tuple #[vf v0, .int .i64 (stamp : Int)]) w') : OpW P (valueS (Instr.mapEntry t (.map (some r)) (kf k))) W K :=
  opw_mapEntryO (z := z) Ko ht (fun e => by rw [mget_idx, e] at hz; cases hz) hA ho h
theorem opw_entryStore {t : TypeId} {k : κ} {j stamp : Nat} {v : α} {K : Value → World → Prop} (hA : AtF w M gs W) (ho : OwnE w M gs W r kf vf m j k stamp)
    (h : ∀ w', AtF w M gs w' → Keeps gs W w' → Chg (fun b => b = r) W w' → OwnM w M gs w' r kf vf (m.set j (k, v)) → K undef w') : OpW P (skipS (Instr.entryStore t (.map (some r)) (.int .i64 (stamp : Int)) (vf v))) W K := by
  have hl := ho.lt
  obtain ⟨es, clock, hr, he, hn, hb, e0, he0, hst⟩ := ho.obj
  obtain ⟨v0, hv0⟩ := ho.key
  obtain ⟨e1, he1, hk1, _⟩ := EntR.at_ he hv0
  have he1' : es[j]? = some e1 := by simpa using he1
  rw [he0] at he1'
  cases he1'
  have hjl := (Array.getElem?_eq_some_iff.1 he0).1
  have hfind : es.findIdx? (fun e => (e.born : Int) == (stamp : Int)) = some j := by
    rw [Array.findIdx?_eq_some_iff_getElem]
    refine ⟨hjl, ?_, fun q hq => ?_⟩
    · have := (Array.getElem?_eq_some_iff.1 he0).2
      simp [this, hst]
    · have hql : q < es.size := by omega
      have h2 : (es.toList.map (·.born))[q]'(by simpa using hql) ≠ (es.toList.map (·.born))[j]'(by simpa using hjl) := (List.pairwise_iff_getElem.1 hn) q j (by simpa using hql) (by simpa using hjl) hq
      have h3 := (Array.getElem?_eq_some_iff.1 he0).2
      simp only [List.getElem_map, Array.getElem_toList, h3, hst] at h2
      simp only [beq_iff_eq]
      intro e
      exact h2 (by omega)
  have hrun : (Instr.entryStore t (.map (some r)) (.int .i64 (stamp : Int)) (vf v)).run P W = .ok () { W with heap := W.heap.setIfInBounds r (.map (es.modify j fun e => { e with val := vf v }) clock) } := by
    unfold Instr.entryStore
    simp only
    rw [run_bind_ok (run_getObj_m hr)]
    simp only
    have hi : (asInt (.int .i64 (stamp : Int))).run P W = .ok (stamp : Int) W := rfl
    rw [run_bind_ok hi]
    simp only [hfind]
    exact run_setObj_m hr _
  unfold OpW skipS
  rw [run_bind_ok hrun]
  refine h _ (hA.setObjF ho.mine) (keeps_setObj ho.apart) chg_setObj ⟨ho.mine, ho.apart, _, clock, setObj_heap hl _, ?_, ?_, ?_⟩
  · unfold EntR at he ⊢
    rw [List.map_set, ← he]
    apply List.ext_getElem?
    intro i
    simp only [List.getElem?_map, Array.getElem?_toList, Array.getElem?_modify, List.getElem?_set, List.length_map, Array.length_toList]
    by_cases hij : j = i
    · subst hij
      have h3 := (Array.getElem?_eq_some_iff.1 he0).2
      simp [hjl, h3, hk1]
    · simp [hij]
  · have : (es.modify j fun e => { e with val := vf v }).toList.map (·.born) = es.toList.map (·.born) := by
      apply List.ext_getElem?
      intro i
      simp only [List.getElem?_map, Array.getElem?_toList, Array.getElem?_modify]
      by_cases hij : j = i
      · subst hij; simp [he0]
      · simp [hij]
    rw [this]
    exact hn
  · intro e hem
    obtain ⟨i, hi⟩ := List.mem_iff_getElem?.1 hem
    simp only [Array.getElem?_toList, Array.getElem?_modify] at hi
    by_cases hij : j = i
    · subst hij
      simp [he0] at hi
      subst hi
      exact hb e0 (List.mem_of_getElem? (i := j) (by simpa using he0))
    · simp [hij] at hi
      exact hb e (List.mem_of_getElem? (i := i) (by simpa using hi))
end
end Go.Vc

/- A range over a map: its iterator, the next round, the entry. -/
namespace Go.Vc
open Go Go.RowKit

theorem EntR_split {κ α : Type} {kf : κ → Value} {vf : α → Value} {A B : List MapEntry} {e : MapEntry} {rest : List (κ × α)} (h : EntR kf vf (A ++ e :: B) rest) :
    ∃ r1 x r2, rest = r1 ++ x :: r2 ∧ EntR kf vf (A ++ B) (r1 ++ r2) ∧ e.key = kf x.1 ∧ e.val = vf x.2 := by
  unfold EntR at h
  rw [List.map_append, List.map_cons] at h
  obtain ⟨r1, r', rfl, h1, h2⟩ := List.map_eq_append_iff.1 h.symm
  obtain ⟨x, r2, rfl, h3, h4⟩ := List.map_eq_cons_iff.1 h2
  refine ⟨r1, x, r2, rfl, ?_, (Prod.mk.inj h3).1.symm, (Prod.mk.inj h3).2.symm⟩
  unfold EntR
  rw [List.map_append, List.map_append, h1, h4]

theorem leftOf_push {es : Array MapEntry} {seen : Array Nat} {A B : List MapEntry} {e : MapEntry} (hn : (es.toList.map (·.born)).Nodup) (h : (leftOf es seen).toList = A ++ e :: B) :
    (leftOf es (seen.push e.born)).toList = A ++ B := by
  have h1 : (leftOf es (seen.push e.born)).toList = ((leftOf es seen).toList).filter (fun x => x.born != e.born) := by
    unfold leftOf
    rw [Array.toList_filter, Array.toList_filter, List.filter_filter]
    congr 1
    funext x
    by_cases hx : x.born = e.born
    · simp [hx]
    · simp [hx]
  have h2 : ((A ++ e :: B).map (·.born)).Nodup := by
    rw [← h]
    unfold leftOf
    rw [Array.toList_filter]
    exact hn.sublist (List.filter_sublist.map _)
  rw [h1, h, List.filter_append, List.filter_cons]
  rw [List.map_append, List.map_cons, List.nodup_append] at h2
  obtain ⟨h3, h4, h5⟩ := h2
  rw [List.nodup_cons] at h4
  have eA : A.filter (fun x => x.born != e.born) = A := List.filter_eq_self.2 fun x hx => by
    have := h5 x.born (List.mem_map.2 ⟨x, hx, rfl⟩) e.born (List.mem_cons_self ..)
    simpa using this
  have eB : B.filter (fun x => x.born != e.born) = B := List.filter_eq_self.2 fun x hx => by
    have : x.born ≠ e.born := fun he => h4.1 (he ▸ List.mem_map.2 ⟨x, hx, rfl⟩)
    simpa using this
  rw [eA, eB]
  simp

section
variable {κ α : Type} {P : Program} {w W W' : World} {M N : Nat → Prop} {gs gs' ds : List Nat} {q r : Nat} {kf : κ → Value} {vf : α → Value} {m rest : List (κ × α)} {cur : Option (κ × α)}

/-- An iterator over a map: what is left to come, and the entry at hand. -/
structure Itr (w : World) (M : Nat → Prop) (gs : List Nat) (W : World) (q r : Nat) (kf : κ → Value) (vf : α → Value) (m rest : List (κ × α)) (cur : Option (κ × α)) : Prop where
  mine : w.heap.size ≤ q ∨ M q
  apart : q ∉ gs
  obj : ∃ (es : Array MapEntry) (clock since c0 : Nat) (seen : Array Nat), W.heap[r]? = some (.map es clock) ∧ EntR kf vf es.toList m ∧ (es.toList.map (·.born)).Nodup ∧ (∀ e ∈ es.toList, e.born < clock) ∧
    W.heap[q]? = some (.mapIter (some r) since seen c0) ∧ (∀ e ∈ es.toList, e.born < since) ∧ since ≤ c0 ∧ since ≤ clock ∧ EntR kf vf (leftOf es seen).toList rest ∧
    (∀ x, cur = some x → c0 = clock ∧ ∃ e ∈ es.toList, seen.back? = some e.born ∧ e.key = kf x.1 ∧ e.val = vf x.2)

theorem Itr.lts (h : Itr w M gs W q r kf vf m rest cur) : q < W.heap.size ∧ r < W.heap.size ∧ q ≠ r := by
  obtain ⟨es, clock, since, c0, seen, h1, _, _, _, h2, _⟩ := h.obj
  refine ⟨(Array.getElem?_eq_some_iff.1 h2).1, (Array.getElem?_eq_some_iff.1 h1).1, fun e => ?_⟩
  subst e
  rw [h1] at h2
  cases h2
theorem Itr.keep (h : Itr w M gs W q r kf vf m rest cur) (hq : W'.heap[q]? = W.heap[q]?) (hr : W'.heap[r]? = W.heap[r]?) : Itr w M gs W' q r kf vf m rest cur := by
  obtain ⟨es, clock, since, c0, seen, h1, h2, h3, h4, h5, h6⟩ := h.obj
  exact ⟨h.mine, h.apart, es, clock, since, c0, seen, by rw [hr]; exact h1, h2, h3, h4, by rw [hq]; exact h5, h6⟩
theorem Itr.chg (h : Itr w M gs W q r kf vf m rest cur) (hc : Chg N W W') (hq : ¬ N q) (hr : ¬ N r) : Itr w M gs W' q r kf vf m rest cur :=
  h.keep (hc.block q h.lts.1 hq) (hc.block r h.lts.2.1 hr)
theorem Itr.call (h : Itr w M gs W q r kf vf m rest cur) (hb : Bel W W') : Itr w M gs W' q r kf vf m rest cur := h.keep (hb.block h.lts.1) (hb.block h.lts.2.1)
theorem Itr.more (h : Itr w M gs W q r kf vf m rest cur) (hg : ∀ g ∈ gs', g ∉ gs → W.heap.size ≤ g) : Itr w M gs' W q r kf vf m rest cur :=
  ⟨h.mine, fun hr => by
    by_cases hk : q ∈ gs
    · exact h.apart hk
    · have := hg q hr hk
      have := h.lts.1
      omega, h.obj⟩
theorem Itr.evo (h : Itr w M gs W q r kf vf m rest cur) (hd : ∀ d ∈ ds, d ≠ q ∧ d ≠ r) (hb : Evo ds W W') : Itr w M gs W' q r kf vf m rest cur :=
  h.chg (Chg.of_evo hb) (fun hm => (hd q hm).1 rfl) (fun hm => (hd r hm).2 rfl)
theorem Itr.ownM (h : Itr w M gs W q r kf vf m rest cur) {w0 : World} {M0 : Nat → Prop} {gs0 : List Nat} (hm : w0.heap.size ≤ r ∨ M0 r) (ha : r ∉ gs0) : OwnM w0 M0 gs0 W r kf vf m := by
  obtain ⟨es, clock, since, c0, seen, h1, h2, h3, h4, _⟩ := h.obj
  exact ⟨hm, ha, es, clock, h1, h2, h3, h4⟩

/-- How many entries are left to come. -/
def itLeft (W : World) (q r : Nat) : Nat := match W.heap[q]?, W.heap[r]? with
  | some (.mapIter _ _ seen _), some (.map es _) => (leftOf es seen).size
  | _, _ => 0
theorem Itr.left (h : Itr w M gs W q r kf vf m rest cur) : itLeft W q r = rest.length := by
  obtain ⟨es, clock, since, c0, seen, h1, h2, h3, h4, h5, _, _, _, h6, _⟩ := h.obj
  unfold itLeft
  rw [h1, h5]
  simp only
  have := congrArg List.length h6
  simpa using this
theorem Itr.base {w' : World} {M' : Nat → Prop} (h : Itr w M gs W q r kf vf m rest cur) (hm : w'.heap.size ≤ q ∨ M' q) (ha : q ∉ gs') : Itr w' M' gs' W q r kf vf m rest cur := ⟨hm, ha, h.obj⟩
theorem Evo.bel (h : Evo ds W W') (hd : ∀ d ∈ ds, W.heap.size ≤ d) : Bel W W' := ⟨⟨h.os, h.tape, h.output, h.size, fun b hb => h.block b hb fun hm => by have := hd b hm; omega⟩, h.drawn⟩

theorem opw_range {t kt et : TypeId} {w0 : World} {M0 : Nat → Prop} {gs0 : List Nat} {K : Value → World → Prop} (ht : P.underlying t = some (.map kt et)) (hA : AtF w M gs W) (ho : OwnM w0 M0 gs0 W r kf vf m)
    (h : ∀ q w', W.heap.size = q → AtF w M gs w' → Keeps gs W w' → Bel W w' → Itr w M gs w' q r kf vf m m none → K (.pointer (some ⟨q, 0, none⟩)) w') : OpW P (valueS (Instr.range t (.map (some r)))) W K := by
  have hl := ho.lt
  obtain ⟨es, clock, hr, he, hn, hb⟩ := ho.obj
  unfold OpW
  rw [run_valueS (run_range_map (P := P) W t kt et r es clock ht hr)]
  refine h _ _ rfl (hA.call (below_alloc _)) (hA.keeps (below_alloc _)) (below_alloc _) ⟨.inl hA.size, fun hm => ?_, es, clock, clock, clock, #[], ?_, he, hn, hb, heap_alloc_new W _, hb, Nat.le_refl _, Nat.le_refl _, ?_, fun x hx => by cases hx⟩
  · have := hA.under _ hm
    omega
  · rw [heap_alloc_old W _ hl, hr]
  · have : leftOf es #[] = es := by unfold leftOf; simp
    rw [this]
    exact he

theorem opw_next {ty : TypeId} {K : Value → World → Prop} (hA : AtF w M gs W) (hi : Itr w M gs W q r kf vf m rest cur) (h0 : rest = [] → K (.tuple #[.bool false]) W)
    (h1 : ∀ x r1 r2 w', rest = r1 ++ x :: r2 → AtF w M gs w' → Keeps gs W w' → Chg (fun b => b = q) W w' → Itr w M gs w' q r kf vf m (r1 ++ r2) (some x) → K (.tuple #[.bool true, kf x.1, vf x.2]) w') :
    OpW P (valueS (Instr.next (.pointer (some ⟨q, 0, none⟩)) false ty)) W K := by
  have hlt := hi.lts
  obtain ⟨es, clock, since, c0, seen, e1, e2, e3, e4, e5, e6, e7, e8, e9, _⟩ := hi.obj
  rcases run_next_at (P := P) W ty q r since c0 seen es clock e5 e1 e6 e7 with ⟨hz, hrun⟩ | ⟨e, hel, w1, hw1, hrun⟩
  · unfold OpW
    rw [run_valueS hrun]
    refine h0 ?_
    have : (leftOf es seen).toList = [] := List.eq_nil_of_length_eq_zero (by simpa using hz)
    rw [this] at e9
    unfold EntR at e9
    exact List.map_eq_nil_iff.1 e9.symm
  · obtain ⟨A, B, hAB⟩ := List.append_of_mem hel
    have hps := leftOf_push e3 hAB
    rw [hAB] at e9
    obtain ⟨x, r1, r2, hr0, he0, hk, hv⟩ : ∃ x r1 r2, rest = r1 ++ x :: r2 ∧ EntR kf vf (A ++ B) (r1 ++ r2) ∧ e.key = kf x.1 ∧ e.val = vf x.2 := by
      obtain ⟨r1, x, r2, a, b, c, d⟩ := EntR_split e9
      exact ⟨x, r1, r2, a, b, c, d⟩
    have hmem : e ∈ es.toList := by
      unfold leftOf at hel
      rw [Array.toList_filter] at hel
      exact (List.mem_filter.1 hel).1
    have hh : w1.heap = W.heap ∧ w1.os = W.os ∧ w1.tape = W.tape ∧ w1.output = W.output ∧ W.drawn ≤ w1.drawn := by
      rcases hw1 with rfl | rfl
      · exact ⟨rfl, rfl, rfl, rfl, Nat.le_refl _⟩
      · exact ⟨rfl, rfl, rfl, rfl, Nat.le_succ _⟩
    obtain ⟨a1, a2, a3, a4, a5⟩ := hh
    have hch : Chg (fun b => b = q) W (Go.ChangeMaps.setBlock w1 q (.mapIter (some r) since (seen.push e.born) clock)) :=
      ⟨a2, a3, a4, by simp [Go.ChangeMaps.setBlock, a1], fun b _ hb => by simp [Go.ChangeMaps.setBlock, a1, Ne.symm hb], a5⟩
    unfold OpW
    rw [run_valueS hrun, hk, hv]
    refine h1 x r1 r2 _ hr0 (hA.step hch fun b _ hb => hb ▸ hi.mine) (hA.keepsC hch fun g hg hb => hi.apart (hb ▸ hg)) hch ⟨hi.mine, hi.apart, es, clock, since, clock, seen.push e.born, ?_, e2, e3, e4, ?_, e6, e8, e8, ?_, fun y hy => ?_⟩
    · rw [hch.block r hlt.2.1 (Ne.symm hlt.2.2), e1]
    · have : q < w1.heap.size := by rw [a1]; exact hlt.1
      simp [Go.ChangeMaps.setBlock, this]
    · rw [hps]; exact he0
    · cases hy
      exact ⟨rfl, e, hmem, by simp, hk, hv⟩

theorem opw_entry {x : κ × α} {K : Value → World → Prop} (hi : Itr w M gs W q r kf vf m rest (some x)) (h : K (.tuple #[kf x.1, vf x.2]) W) : OpW P (valueS (Instr.entry (.pointer (some ⟨q, 0, none⟩)))) W K := by
  obtain ⟨es, clock, since, c0, seen, e1, e2, e3, e4, e5, e6, e7, e8, e9, e10⟩ := hi.obj
  obtain ⟨rfl, e, hem, hback, hk, hv⟩ := e10 x rfl
  obtain ⟨s, rfl⟩ := Array.back?_eq_some_iff.1 hback
  unfold OpW
  rw [run_valueS (run_entry_at (P := P) W q r since s es c0 e e5 e1 hem e3), hk, hv]
  exact h
end
end Go.Vc

/- vec.Copy, Same, Sub, Holds, Only. -/
set_option maxRecDepth 20000
namespace Go.Vc.ZW
open Go Go.Vc Go.Vc.V Go.RowKit Go.Proofs Vcqz

theorem succ_i (k : Nat) (h : k < 9223372036854775807) : IntKind.i64.wrap ((k : Int) + 1) = ((k + 1 : Nat) : Int) := by rw [wrap_i64 (by omega) (by omega)]; rfl
theorem part_len (x : PartT) : (partE x).length = 3 := rfl
theorem part_one (x : PartT) : ∀ u ∈ partE x, u.oneCell' = true := fun u hu => by
  simp at hu
  rcases hu with rfl | rfl | rfl <;> rfl
theorem part_cond (x y : PartT) : (x.1 == y.1 && (x.2.1 == y.2.1 && (x.2.2 == y.2.2 && true))) = decide (x = y) := by
  obtain ⟨a, b, c⟩ := x
  obtain ⟨a', b', c'⟩ := y
  rw [Bool.eq_iff_iff]
  simp
theorem slot_cond (x y : PartT) : (x.1 == y.1 && (x.2.1 == y.2.1 && true)) = decide (slotOf x = slotOf y) := by
  obtain ⟨a, b, c⟩ := x
  obtain ⟨a', b', c'⟩ := y
  rw [Bool.eq_iff_iff]
  simp [slotOf]

theorem c61 {l1 l2 : List PartT} {aa ba : Option Addr} {an ac bn bc : Nat} (w : World) (h1 : SlE w 3 partE l1 aa an ac) (h2 : SlE w 3 partE l2 ba bn bc) : Ret Tryz.prog 61 #[.slice aa an ac, .slice ba bn bc] w (.bool (decide (l1 = l2))) := by
  intro R h
  refine f61_calls aa an ac ba bn bc w R ?_
  unfold f61_vc
  have hn1 := h1.len_le
  have hn2 := h2.len_le
  refine brN (fun hne => leaf h (At.refl w) ?_) (fun he => ?_)
  · rw [decide_eq_false]
    rintro rfl
    exact hne (by rw [hn1.1, hn2.1])
  have he' : an = bn := by omega
  refine ⟨fun v w4 => ∃ i : Nat, v.1 = i ∧ At w [] w4 ∧ (∀ q, q < i → l1[q]? = l2[q]?), fun v _ => (an - v.1).toNat, ⟨0, rfl, At.refl w, fun q hq => by omega⟩, ?_⟩
  rintro x3 w4 ⟨i, hi, hA, hmin⟩
  simp only at hi
  subst hi
  refine brD (fun hlt => ?_) (fun hge => leaf h hA ?_)
  · obtain ⟨x, hx⟩ : ∃ x, l1[i]? = some x := ⟨_, List.getElem?_eq_getElem (by omega)⟩
    obtain ⟨y, hy⟩ : ∃ x, l2[i]? = some x := ⟨_, List.getElem?_eq_getElem (by omega)⟩
    obtain ⟨ad, g1, el, _⟩ := elt_at (P := Tryz.prog) (k := .i64) (t := 43) (h1.call hA.below) hx (e := 53) (by kernel_rfl) (by kernel_rfl)
    obtain ⟨ad2, g2, el2, _⟩ := elt_at (P := Tryz.prog) (k := .i64) (t := 43) (h2.call hA.below) hy (e := 53) (by kernel_rfl) (by kernel_rfl)
    refine ⟨ad, g1, _, _, _, el.agg 3 (by kernel_rfl) (by kernel_rfl) (by simp) (by simp), ad2, g2, _, _, _, el2.agg 3 (by kernel_rfl) (by kernel_rfl) (by simp) (by simp), ?_⟩
    rw [part_cond x y]
    refine brND (fun hne => go_below0 hA fun w13 hA => leaf h hA ?_) (fun he => go_below0 hA fun w14 hA => ?_)
    · rw [decide_eq_false]
      rintro rfl
      rw [hx] at hy
      exact hne (Option.some.inj hy)
    · rw [succ_i i (by omega)]
      refine ⟨⟨i + 1, rfl, hA, fun q hq => ?_⟩, by simp only; omega⟩
      by_cases hqi : q = i
      · subst hqi
        rw [hx, hy, he]
      · exact hmin q (by omega)
  · rw [decide_eq_true]
    apply List.ext_getElem?
    intro q
    by_cases hq : q < i
    · exact hmin q hq
    · rw [List.getElem?_eq_none (by omega), List.getElem?_eq_none (by omega)]
theorem c28 {l1 l2 : List PartT} {aa ba : Option Addr} {an ac bn bc : Nat} (w : World) (h1 : SlE w 3 partE l1 aa an ac) (h2 : SlE w 3 partE l2 ba bn bc) : Ret Tryz.prog 28 #[.slice aa an ac, .slice ba bn bc] w (.bool (decide (l1 = l2))) := by
  intro R h
  refine f28_calls aa an ac ba bn bc w R ?_
  unfold f28_vc
  exact at_callb (At.refl w) (c61 w h1 h2) fun w2 hA _ _ => ⟨_, rfl, leaf h hA rfl⟩

/-! ### Sub -/
theorem vsub_len : ∀ (a b c : List PartT), vsub a b = some c → c.length ≤ a.length
  | [], [], c, h => by rw [vsub] at h; cases h; simp
  | [], _ :: _, c, h => by rw [vsub] at h; cases h
  | p :: a, [], c, h => by
    rw [vsub] at h
    cases hv : vsub a [] with
    | none => rw [hv] at h; cases h
    | some d => rw [hv] at h; cases h; have := vsub_len a [] d hv; simp; omega
  | p :: a, q :: b, c, h => by
    rw [vsub] at h
    split at h
    · split at h
      · split at h
        · cases hv : vsub a b with
          | none => rw [hv] at h; cases h
          | some d => rw [hv] at h; cases h; have := vsub_len a b d hv; simp; omega
        · have := vsub_len a b c h; simp; omega
      · cases h
    · cases hv : vsub a (q :: b) with
      | none => rw [hv] at h; cases h
      | some d => rw [hv] at h; cases h; have := vsub_len a (q :: b) d hv; simp; omega

def rank (p : PartT) : Nat := (33 * p.1 + p.2.1).toNat
theorem sorted_len : ∀ (l : List PartT) (lo : Nat), l.Pairwise slt → (∀ p ∈ l, partR p) → (∀ p ∈ l, lo ≤ rank p) → l.length ≤ 132 - lo
  | [], _, _, _, _ => Nat.zero_le _
  | p :: l, lo, h, hR, hlo => by
    have h := List.pairwise_cons.1 h
    have hp := hR p (by simp)
    have hlp := hlo p (by simp)
    have ih := sorted_len l (rank p + 1) h.2 (fun q hq => hR q (by simp [hq])) fun q hq => by
      have h1 := h.1 q hq
      have h2 := hR q (by simp [hq])
      unfold rank slt partR slotR at *
      omega
    unfold rank partR slotR at *
    simp only [List.length_cons]
    omega
theorem vec_len' {l : List PartT} (h : vecB l = true) : l.length ≤ 132 := sorted_len l 0 (vecB_iff.1 h).2 (vecB_iff.1 h).1 fun _ _ => Nat.zero_le _
/-! ### Only -/
theorem c97 {l : List Int} {a : Option Addr} {n c : Nat} (v : Int) (w : World) (hs : SlE w 1 one l a n c) : RetQ Tryz.prog 97 #[.slice a n c, .int .i64 v] w fun u _ => ∃ i : Int, u = .int .i64 i ∧ (i ≥ 0 ↔ v ∈ l) := by
  intro R h
  refine f97_calls a n c v w R ?_
  unfold f97_vc
  have hn := hs.len_le
  refine ⟨fun s W => At w [] W ∧ ∃ k : Nat, s.1 = k ∧ k ≤ l.length ∧ ∀ q, q < k → ∀ y, l[q]? = some y → y ≠ v, fun s _ => (n - s.1).toNat, ⟨At.refl w, 0, rfl, Nat.zero_le _, fun q hq => by omega⟩, ?_⟩
  rintro x3 w4 ⟨hA, k, hk, hkl, hmin⟩
  simp only at hk
  subst hk
  refine brD (fun hlt => ?_) (fun hge => ?_)
  · obtain ⟨x, hx⟩ : ∃ x, l[k]? = some x := ⟨_, List.getElem?_eq_getElem (by omega)⟩
    obtain ⟨ad, g1, r1⟩ := rd_one (te := 3) (ds := []) (k := .i64) (t := 127) (P := Tryz.prog) (e := 3) (hs.call hA.below) hx rfl (by kernel_rfl) (by kernel_rfl) (by kernel_rfl) (fun _ h => by cases h)
    refine ⟨ad, g1, _, r1, brE (fun he => leafq h hA ⟨_, rfl, ?_⟩) (fun hne => ?_)⟩
    · exact ⟨fun _ => by rw [he]; exact List.mem_of_getElem? hx, fun _ => by omega⟩
    · rw [succ_i k (by omega)]
      refine ⟨⟨hA, k + 1, rfl, by omega, fun q hq y hy => ?_⟩, by simp only; omega⟩
      by_cases hqk : q = k
      · subst hqk
        rw [hx] at hy
        cases hy
        exact fun e => hne e.symm
      · exact hmin q (by omega) y hy
  · refine leafq h hA ⟨_, rfl, ⟨fun hh => by omega, fun hm => ?_⟩⟩
    obtain ⟨q, hq⟩ := List.mem_iff_getElem?.1 hm
    have := (List.getElem?_eq_some_iff.1 hq).1
    exact absurd rfl (hmin q (by omega) v hq)
theorem c86 {l : List Int} {a : Option Addr} {n c : Nat} (v : Int) (w : World) (hs : SlE w 1 one l a n c) : Ret Tryz.prog 86 #[.slice a n c, .int .i64 v] w (.bool (decide (v ∈ l))) := by
  intro R h
  refine f86_calls a n c v w R ?_
  unfold f86_vc
  refine at_callq (At.refl w) (c97 v w hs) fun u w2 hA _ _ ⟨i, e, hi⟩ => ?_
  subst e
  exact ⟨_, rfl, leaf h hA (congrArg (fun b => Ending.returned (.bool b)) (decide_eq_decide.2 hi))⟩
/-- What is of some roles. -/
def onlyL (l : List PartT) (roles : List Int) : List PartT := if vecB l = true then l.filter fun p => decide (p.2.1 ∈ roles) else []
theorem c69 {l : List PartT} {roles : List Int} {a ra : Option Addr} {n c rn rc : Nat} (w : World) (hs : SlE w 3 partE l a n c) (hr : SlE w 1 one roles ra rn rc) : RetL Tryz.prog 69 #[.slice a n c, .slice ra rn rc] w 53 3 partE (onlyL l roles) := by
  intro R h
  refine f69_calls a n c ra rn rc w R ?_
  unfold f69_vc
  have hn := hs.len_le.1
  have hnn := hs.len_le.2
  refine ⟨fun v W => At w [] W ∧ ∃ i : Nat, v.2.1 = i ∧ i ≤ l.length ∧ OwnL w [] W 53 3 partE (.slice v.1.1 v.1.2.1 v.1.2.2) (if vecB l = true then (l.take i).filter fun p => decide (p.2.1 ∈ roles) else []), fun v _ => (n - v.2.1).toNat, ⟨At.refl w, 0, rfl, Nat.zero_le _, by simp only [List.take_zero, List.filter_nil, ite_self]; exact OwnL.nil⟩, ?_⟩
  rintro a3 n4 n5 x6 w7 ⟨hA, i, hi, hil, ho⟩
  simp only at hi ho
  subst hi
  refine brD (fun hlt => ?_) (fun hge => leafl h hA ho ?_)
  · obtain ⟨p, hp⟩ : ∃ x, l[i]? = some x := ⟨_, List.getElem?_eq_getElem (by omega)⟩
    obtain ⟨ad, g1, el, _⟩ := elt_at (P := Tryz.prog) (k := .i64) (t := 43) (hs.call hA.below) hp (e := 53) (by kernel_rfl) (by kernel_rfl)
    have htk : l.take (i + 1) = l.take i ++ [p] := by rw [List.take_add_one, hp]; rfl
    refine ⟨ad, g1, _, _, _, el.agg 3 (by kernel_rfl) (by kernel_rfl) (by simp) (by simp), ?_⟩
    intro n12 hn12 w13 hev hun
    have hbel := hev.bel (by simpa using hn12)
    have hA : At w [n12] w13 := ⟨(hA.call hbel).chg, hun⟩
    have ho := (ho.more (gs' := [n12]) (by intro g h1 _; simp at h1; omega)).call hbel
    refine at_callb hA (c86 p.2.1 w13 (hr.call hA.below)) fun w15 hA hk hb => ⟨_, rfl, hk, ?_⟩
    have ho := ho.call hb
    have hol : ((l.take i).filter fun p => decide (p.2.1 ∈ roles)).length ≤ i := Nat.le_trans (List.length_filter_le ..) (by simp; omega)
    rw [succ_i i (by omega)]
    refine brD (fun hm => ?_) (fun hm => ?_)
    · refine at_callb hA (c40 w15 (hs.call hA.below)) fun w18 hA hk hb => ⟨_, rfl, hk, ?_⟩
      have ho := ho.call hb
      refine brB (fun hv => ?_) (fun hv => ?_)
      · have hl := vec_len' hv
        rw [if_pos hv] at ho
        refine opw_push (e' := 53) (bytes := 24) hA ho p (by kernel_rfl) (by kernel_rfl) rfl (fun _ _ => rfl) (part_one _) (by omega) (by decide) fun a2 cc2 w26 hA ho _ _ => ?_
        refine ⟨⟨hA.off, i + 1, rfl, by omega, ?_⟩, by simp only; omega⟩
        simp only
        rw [if_pos hv, htk, List.filter_append, List.filter_cons, if_pos (by simpa using hm)]
        exact ho.more (by simp)
      · have hv' : ¬ vecB l = true := by rw [hv]; decide
        rw [if_neg hv'] at ho
        refine ⟨⟨hA.off, i + 1, rfl, by omega, ?_⟩, by simp only; omega⟩
        simp only
        rw [if_neg hv']
        exact ho.more (by simp)
    · refine ⟨⟨hA.off, i + 1, rfl, by omega, ?_⟩, by simp only; omega⟩
      simp only
      have e : (l.take i ++ [p]).filter (fun p => decide (p.2.1 ∈ roles)) = (l.take i).filter fun p => decide (p.2.1 ∈ roles) := by
        rw [List.filter_append, List.filter_cons_of_neg (by simpa using hm), List.filter_nil, List.append_nil]
      rw [htk, e]
      exact ho.more (by simp)
  · unfold onlyL
    rw [List.take_of_length_le (by omega)]
end Go.Vc.ZW

/- vec.Get, Text, Least; what works at all. -/
set_option maxRecDepth 20000
set_option maxHeartbeats 1000000
namespace Go.Vc.ZW
open Go Go.Vc Go.Vc.V Go.RowKit Go.Proofs Vcqz

variable {w W W' : World} {M : Nat → Prop} {gs : List Nat}

/-! ### Text -/
theorem part_I {l : List PartT} (hv : vecB l = true) {p : PartT} (hp : p ∈ l) : I64 p.2.2 := by
  have := ((vecB_iff.1 hv).1 p hp).2
  unfold I64
  omega

end Go.Vc.ZW

/- A book in memory; places of frames and agents; agents and filters answer. -/
set_option maxRecDepth 20000
set_option maxHeartbeats 1000000
namespace Go.Vc.ZW
open Go Go.Vc Go.Vc.V Go.RowKit Go.Proofs Vcqz

variable {w W W' : World} {M : Nat → Prop} {gs : List Nat}

/-- A frame: number, role, weight, up, quiet, two times. -/
abbrev FrT := Int × Int × Int × Bool × Bool × Int × Int
abbrev frE (x : FrT) : List Value := [.int .i64 x.1, .int .i64 x.2.1, .int .i64 x.2.2.1, .bool x.2.2.2.1, .bool x.2.2.2.2.1, .int .i64 x.2.2.2.2.2.1, .int .i64 x.2.2.2.2.2.2]
/-- An agent: number, total, free. -/
abbrev AgT := Int × List PartT × List PartT
def agR (W : World) (x : AgT) (cs : List Value) : Prop := ∃ a n c a2 n2 cc2, cs = [.int .i64 x.1, .slice a n c, .slice a2 n2 cc2] ∧ SlE W 3 partE x.2.1 a n c ∧ SlE W 3 partE x.2.2 a2 n2 cc2
/-- An offer: number, frame, agent, vector, until. -/
abbrev OfT := Int × Int × Int × List PartT × Int
def ofR (W : World) (x : OfT) (cs : List Value) : Prop := ∃ a n c, cs = [.int .i64 x.1, .int .i64 x.2.1, .int .i64 x.2.2.1, .slice a n c, .int .i64 x.2.2.2.2] ∧ SlE W 3 partE x.2.2.2.1 a n c
/-- A task (frame, number, agent, vector) or a filter (frame, agent, until, vector). -/
abbrev TkT := Int × Int × Int × List PartT
def tkR (W : World) (x : TkT) (cs : List Value) : Prop := ∃ a n c, cs = [.int .i64 x.1, .int .i64 x.2.1, .int .i64 x.2.2.1, .slice a n c] ∧ SlE W 3 partE x.2.2.2 a n c

structure BkA where
  cc0 : Int
  cc1 : Int
  cc2 : Int
  cc3 : Int
  cc4 : Int
  cc5 : Int
  cc6 : Int
  cc7 : Int
  cq8 : Int
  now : Int
  last : Int
  f : Option Addr × Nat × Nat
  a : Option Addr × Nat × Nat
  o : Option Addr × Nat × Nat
  t : Option Addr × Nat × Nat
  l : Option Addr × Nat × Nat
abbrev BkA.v (b : BkA) : Value := .agg #[.int .i64 b.cc0, .int .i64 b.cc1, .int .i64 b.cc2, .int .i64 b.cc3, .int .i64 b.cc4, .int .i64 b.cc5, .int .i64 b.cc6, .int .i64 b.cc7, .int .i64 b.cq8, .int .i64 b.now, .int .i64 b.last, .slice b.f.1 b.f.2.1 b.f.2.2, .slice b.a.1 b.a.2.1 b.a.2.2, .slice b.o.1 b.o.2.1 b.o.2.2, .slice b.t.1 b.t.2.1 b.t.2.2, .slice b.l.1 b.l.2.1 b.l.2.2]
structure BkD where
  frs : List FrT
  ags : List AgT
  ofs : List OfT
  tks : List TkT
  fls : List TkT
/-- A book, as it lies in memory. -/
structure Bk (W : World) (b : BkA) (d : BkD) : Prop where
  fr : SlE W 7 frE d.frs b.f.1 b.f.2.1 b.f.2.2
  ag : SlR W 3 (agR W) d.ags b.a.1 b.a.2.1 b.a.2.2
  off : SlR W 5 (ofR W) d.ofs b.o.1 b.o.2.1 b.o.2.2
  tk : SlR W 4 (tkR W) d.tks b.t.1 b.t.2.1 b.t.2.2
  fl : SlR W 4 (tkR W) d.fls b.l.1 b.l.2.1 b.l.2.2
theorem Bk.call {b : BkA} {d : BkD} (h : Bk W b d) (hb : Bel W W') : Bk W' b d :=
  ⟨h.fr.call hb, h.ag.mono (cell_below hb.below) fun _ _ ⟨_, _, _, _, _, _, e, h1, h2⟩ => ⟨_, _, _, _, _, _, e, h1.call hb, h2.call hb⟩,
    h.off.mono (cell_below hb.below) fun _ _ ⟨_, _, _, e, h1⟩ => ⟨_, _, _, e, h1.call hb⟩,
    h.tk.mono (cell_below hb.below) fun _ _ ⟨_, _, _, e, h1⟩ => ⟨_, _, _, e, h1.call hb⟩,
    h.fl.mono (cell_below hb.below) fun _ _ ⟨_, _, _, e, h1⟩ => ⟨_, _, _, e, h1.call hb⟩⟩
/-- An element of related cells: where it lies. -/
theorem rel_at {α : Type} {t e : TypeId} {size : Nat} {R : α → List Value → Prop} {l : List α} {a : Option Addr} {n c : Nat} {x : α} {i : Nat} (hs : SlR W size R l a n c) (hx : l[i]? = some x) (ht : Tryz.prog.underlying t = some (.slice e)) (hz : pureRun Tryz.prog (sizeOf e) = some size) :
    ∃ ad cs, Gives Tryz.prog (Instr.indexAt t (.slice a n c) (.int .i64 (i : Int))) (.pointer (some ad)) ∧ Elt W ad cs ∧ R x cs := by
  obtain ⟨b, cs, rfl, hl, hcs, hr⟩ := hs.at_ hx
  have hi := (List.getElem?_eq_some_iff.1 hx).1
  have hn := hs.1
  exact ⟨b.add (i * size), cs, gives_index ht hz (by omega), hcs, hr⟩

def ixOf {α : Type} (k : α → Int) (id : Int) : List α → Nat → Int
  | [], _ => -1
  | x :: r, i => if k x = id then i else ixOf k id r (i + 1)
theorem ixOf_step {α : Type} {k : α → Int} {id : Int} {l : List α} {i : Nat} {x : α} (hx : l[i]? = some x) : ixOf k id (l.drop i) i = if k x = id then (i : Int) else ixOf k id (l.drop (i + 1)) (i + 1) := by
  rw [drop_cons hx, ixOf]
theorem ixOf_range {α : Type} {k : α → Int} {id : Int} : ∀ (l : List α) (i : Nat), ixOf k id l i < 0 ∨ ∃ j : Nat, ixOf k id l i = j ∧ i ≤ j ∧ j < i + l.length
  | [], i => .inl (by simp [ixOf])
  | x :: r, i => by
    rw [ixOf]
    split
    · exact .inr ⟨i, rfl, Nat.le_refl _, by simp⟩
    · rcases ixOf_range (k := k) (id := id) r (i + 1) with h | ⟨j, h1, h2, h3⟩
      · exact .inl h
      · exact .inr ⟨j, h1, by omega, by simp; omega⟩

end Go.Vc.ZW

/- Pieces of seat v that book.Right leans on. -/
set_option maxRecDepth 20000
set_option maxHeartbeats 1000000
namespace Go.Vc.ZW
open Go Go.Vc Go.Vc.V Go.RowKit Go.Proofs Vcqz

variable {w W W' : World} {M : Nat → Prop} {gs : List Nat}

theorem prev_i {i : Nat} (h : 0 < i) (h2 : i < 9223372036854775807) : IntKind.i64.wrap ((i : Int) - 1) = ((i - 1 : Nat) : Int) := by rw [wrap_i64 (by omega) (by omega)]; omega
def openAt (d : BkD) (i : Int) : Bool := (d.frs[i.toNat]?).elim false fun f => f.2.2.2.1 && !f.2.2.2.2.1
theorem frame_at2 {b : BkA} {d : BkD} (hb : Bk w b d) {id : Int} (h : ¬ ixOf (·.1) id d.frs 0 < 0) : ∃ ad f, Gives Tryz.prog (Instr.indexAt 25 (.slice b.f.1 b.f.2.1 b.f.2.2) (.int .i64 (ixOf (·.1) id d.frs 0))) (.pointer (some ad)) ∧ Elt w ad (frE f) ∧ openAt d (ixOf (·.1) id d.frs 0) = (f.2.2.2.1 && !f.2.2.2.2.1) := by
  rcases ixOf_range (k := fun x : FrT => x.1) (id := id) d.frs 0 with hneg | ⟨j, hj, _, hjl⟩
  · exact absurd hneg h
  obtain ⟨f, hf⟩ : ∃ x, d.frs[j]? = some x := ⟨_, List.getElem?_eq_getElem (by omega)⟩
  obtain ⟨ad, g1, el, _⟩ := elt_at (P := Tryz.prog) (k := .i64) (t := 25) hb.fr hf (e := 37) (by kernel_rfl) (by kernel_rfl)
  rw [hj]
  exact ⟨ad, f, g1, el, by unfold openAt; rw [Int.toNat_natCast, hf]; rfl⟩
end Go.Vc.ZW

/- A part of an own slice's element is stored. -/
namespace Go.Vc
open Go Go.RowKit
section
variable {α : Type} {P : Program} {w W : World} {M : Nat → Prop} {gs : List Nat} {e : TypeId} {size : Nat} {f : α → List Value} {a : Option Addr} {n c : Nat} {l : List α}

theorem part_swap {β : Type} {A X B ys : List β} {o m : Nat} (h : o + m ≤ X.length) : (A ++ X ++ B).take (A.length + o) ++ ys ++ (A ++ X ++ B).drop (A.length + o + m) = A ++ (X.take o ++ ys ++ X.drop (o + m)) ++ B := by
  have e1 : (A ++ X ++ B).take (A.length + o) = A ++ X.take o := by
    rw [List.append_assoc, List.take_append, List.take_of_length_le (by omega), Nat.add_sub_cancel_left, List.take_append_of_le_length (by omega)]
  have e2 : (A ++ X ++ B).drop (A.length + o + m) = X.drop (o + m) ++ B := by
    rw [List.append_assoc, List.drop_append, List.drop_of_length_le (by omega), List.nil_append, show A.length + o + m - A.length = o + m by omega, List.drop_append_of_le_length (by omega)]
  rw [e1, e2]
  simp only [List.append_assoc]

theorem opw_storeP {te : TypeId} {i o m : Nat} {x0 y : α} {x : Value} (hA : AtF w M gs W) (ho : OwnF w M gs W e size f (.slice a n c) l) (hf : ∀ x ∈ l, (f x).length = size) (hx : l[i]? = some x0) (hom : o + m ≤ size) (hy : f y = (f x0).take o ++ x.cells.toList ++ (f x0).drop (o + m)) (hxl : x.cells.toList.length = m) (h1 : x.cells.toList.all oneCell = true) (hsz : pureRun P (sizeOf te) = some m) {K : Value → World → Prop} {ad : Addr} (had : ∀ g, a = some ⟨g, 0, none⟩ → ad = ⟨g, i * size + o, none⟩)
    (h : ∀ w', AtF w M gs w' → Keeps gs W w' → Chg (fun b => (Value.slice a n c).ownBlock = some b) W w' → OwnF w M gs w' e size f (.slice a n c) (l.set i y) → K undef w') :
    OpW P (skipS (Instr.storeAt te (.pointer (some ad)) x)) W K := by
  have hi := (List.getElem?_eq_some_iff.1 hx).1
  obtain ⟨g, cur, rfl, hge, hg, hlc, hcm, hcs, htk⟩ := ho.ptr (by omega)
  have had := had g rfl
  subst had
  have hn := ho.len
  have hlx : (f x0).length = size := hf x0 (List.mem_of_getElem? hx)
  have hle : i * size + size ≤ l.length * size := by
    have := Nat.mul_le_mul_right size (show i + 1 ≤ l.length by omega)
    rw [Nat.add_mul] at this
    omega
  have hle2 : l.length * size ≤ cur.size := by rw [hcs]; exact Nat.mul_le_mul_right _ hlc
  have hcl : cellStore P te cur.toList (i * size + o) x = some (cur.toList.take (i * size + o) ++ x.cells.toList ++ cur.toList.drop (i * size + o + m)) := by
    unfold cellStore
    rw [hsz]
    have b1 : Nat.beq x.cells.toList.length m = true := by rw [hxl]; exact Nat.beq_refl _
    have b2 : Nat.ble (i * size + o + m) cur.toList.length = true := Nat.ble_eq_true_of_le (by rw [Array.length_toList]; omega)
    simp only [b1, b2, h1]
    rfl
  obtain ⟨W', hr, hg', hb, hs1, h2, h3, h4⟩ := run_cellStore (P := P) (t := te) (cells := cur.toList) (by simpa using hg) hcl
  have hch : Chg (fun b => (Value.slice (some ⟨g, 0, none⟩) n c).ownBlock = some b) W W' := ⟨h2, h3, h4, by omega, fun k _ hk => hb k (fun e => hk (by rw [e]; rfl)), run_drawn hr⟩
  have hsk : (skipS (Instr.storeAt te (.pointer (some ⟨g, i * size + o, none⟩)) x)).run P W = .ok .skip W' := by
    unfold skipS
    rw [run_bind_ok hr]
    rfl
  unfold OpW
  rw [hsk]
  have hlf := flatMap_len hf
  have hset : ∀ z ∈ l.set i y, (f z).length = size := fun z hz => by
    rcases List.mem_or_eq_of_mem_set hz with hz | rfl
    · exact hf z hz
    · rw [hy]
      simp only [List.length_append, List.length_take, List.length_drop, hlx, hxl]
      omega
  refine h W' (hA.step hch fun b _ hb => ho.mine b hb) (hA.keepsC hch fun x hx hb => ho.apart x hx hb) hch ⟨?_, ho.mine, ho.apart⟩
  refine ⟨flatMap_len hset, .inr ⟨g, c, _, by rw [List.length_set, hn], Nat.zero_le _, hg', by rw [List.length_set]; exact hlc, hcm, ?_, ?_⟩⟩
  · simp only [List.size_toArray, List.length_append, List.length_take, List.length_drop, Array.length_toList, hxl]
    omega
  · rw [List.length_set]
    simp only
    have htm := take_mid (cur := cur.toList) (xs := l.flatMap f) (y := x.cells.toList) (L := l.length * size) (a := i * size + o) (s := m) htk hlf hxl (by omega)
    rw [htm]
    have hsplit : l.flatMap f = (l.flatMap f).take (i * size) ++ f x0 ++ (l.flatMap f).drop (i * size + size) := by
      have hp := flatMap_part hf hx
      conv => lhs; rw [← List.take_append_drop (i * size) (l.flatMap f), ← List.take_append_drop size ((l.flatMap f).drop (i * size)), hp, List.drop_drop]
      rw [List.append_assoc]
    have hAl : ((l.flatMap f).take (i * size)).length = i * size := by
      rw [List.length_take, hlf]; omega
    have hps := part_swap (A := (l.flatMap f).take (i * size)) (X := f x0) (B := (l.flatMap f).drop (i * size + size)) (ys := x.cells.toList) (o := o) (m := m) (by omega)
    rw [← hsplit, hAl] at hps
    rw [hps, ← hy, flatMap_set hf hi]

theorem own_elt {t : TypeId} {i : Nat} {x : α} {k : IntKind} (ho : OwnF w M gs W e size f (.slice a n c) l) (hf : ∀ x ∈ l, (f x).length = size) (hx : l[i]? = some x) (ht : P.underlying t = some (.slice e)) (hz : pureRun P (sizeOf e) = some size) :
    ∃ g, a = some ⟨g, 0, none⟩ ∧ Gives P (Instr.indexAt t (.slice a n c) (.int k (i : Int))) (.pointer (some ⟨g, i * size, none⟩)) ∧ Elt W ⟨g, i * size, none⟩ (f x) := by
  have hi := (List.getElem?_eq_some_iff.1 hx).1
  obtain ⟨g, cur, rfl, _⟩ := ho.ptr (by omega)
  have hs := ho.sl hf
  have hn := ho.len
  obtain ⟨ad', cs, ha, hcl, hcs, rfl⟩ := hs.at_ hx
  cases ha
  have e1 : (⟨g, 0, none⟩ : Addr).add (i * size) = ⟨g, i * size, none⟩ := by rw [addr_add]; simp
  refine ⟨g, rfl, ?_, ?_⟩
  · have := gives_index (P := P) (t := t) (k := k) (ad := ⟨g, 0, none⟩) (len := n) (cap := c) (i := i) ht hz (by omega)
    rw [e1] at this
    exact this
  · intro j v hv
    have := hcs j v hv
    rw [e1] at this
    exact this
end
end Go.Vc

/- sums.Right, Add, Of. -/
set_option maxRecDepth 20000
namespace Go.Vc.ZW
open Go Go.Vc Go.Vc.V Go.RowKit Go.Proofs Vcqz

abbrev arrV (a b c d : Int) : Value := .agg #[.int .i64 a, .int .i64 b, .int .i64 c, .int .i64 d]
def sumR (a b c d : Int) : Prop := (0 ≤ a ∧ a ≤ 1152921504606846976) ∧ (0 ≤ b ∧ b ≤ 1152921504606846976) ∧ (0 ≤ c ∧ c ≤ 1152921504606846976) ∧ (0 ≤ d ∧ d ≤ 1152921504606846976)
instance (a b c d : Int) : Decidable (sumR a b c d) := by unfold sumR; infer_instance
abbrev pairA (a b c d : Int) (o : Bool) : Value := .tuple #[arrV a b c d, .bool o]
theorem c68 (a b c d : Int) (w : World) : Ret Tryz.prog 68 #[arrV a b c d] w (.bool (decide (sumR a b c d))) := by
  intro R h
  refine f68_calls a b c d w R ?_
  unfold f68_vc
  have hA := At.refl w
  refine go_n hA fun n1 h_n1 => ?_
  have no : ¬ sumR a b c d → ∀ W, At w [n1] W → R (.returned (.bool false)) W := fun hn W hA => leaf h hA (by rw [decide_eq_false hn])
  unfold sumR at no
  refine brD (fun h1 => go_below hA fun _ hA => no (by omega) _ hA) (fun h1 => ?_)
  refine brD (fun h2 => go_below hA fun _ hA => no (by omega) _ hA) (fun h2 => ?_)
  refine brD (fun h3 => go_below hA fun _ hA => no (by omega) _ hA) (fun h3 => ?_)
  refine brD (fun h4 => go_below hA fun _ hA => no (by omega) _ hA) (fun h4 => ?_)
  refine brD (fun h5 => go_below hA fun _ hA => no (by omega) _ hA) (fun h5 => ?_)
  refine brD (fun h6 => go_below hA fun _ hA => no (by omega) _ hA) (fun h6 => ?_)
  refine brD (fun h7 => go_below hA fun _ hA => no (by omega) _ hA) (fun h7 => ?_)
  refine brD (fun h8 => go_below hA fun _ hA => no (by omega) _ hA) (fun h8 => ?_)
  refine go_below hA fun _ hA => ?_
  exact leaf h hA (by rw [decide_eq_true (show sumR a b c d by unfold sumR; omega)])


theorem arr_elt {W : World} {l : List Int} {ad : Addr} {n c : Nat} (hs : SlE W 1 one l (some ad) n c) (hsp : ad.spot = none) : Elt W ad (l.map fun x => Value.int .i64 x) := by
  intro j v hv
  rw [List.getElem?_map] at hv
  cases hx : l[j]? with
  | none => rw [hx] at hv; cases hv
  | some x =>
    rw [hx] at hv
    cases hv
    obtain ⟨ad', cs, ha, hl, hcs, rfl⟩ := hs.at_ hx
    cases ha
    have := hcs 0 _ rfl
    rw [addr_add_add _ _ _ hsp] at this
    simpa using this


theorem vec_bound {k : Int} {l : List PartT} (h : vecB l = true) : 0 ≤ sumK k l ∧ sumK k l ≤ 297237575406452736 := by
  have hs := slots_of h
  have hb := (vecB_iff.1 h)
  rw [sumK_tot k hs]
  have : ∀ n, n ≤ 33 → 0 ≤ rsum (fun r => tot (k, (r : Int)) l) n ∧ rsum (fun r => tot (k, (r : Int)) l) n ≤ 9007199254740992 * n := fun n => by
    induction n with
    | zero => intro _; simp [rsum]
    | succ n ih =>
      intro hn
      have ih := ih (by omega)
      have := amt_nonneg (s := (k, (n : Int))) hb.1
      rw [amt_tot hb.2] at this
      rw [rsum]
      omega
  have := this 33 (Nat.le_refl _)
  omega
theorem vec_take {l : List PartT} (n : Nat) (h : vecB l = true) : vecB (l.take n) = true :=
  vecB_iff.2 ⟨fun p hp => (vecB_iff.1 h).1 p (List.mem_of_mem_take hp), (vecB_iff.1 h).2.sublist (List.take_sublist n l)⟩
def sumL (l : List PartT) : List Int := [sumK 0 l, sumK 1 l, sumK 2 l, sumK 3 l]
theorem sumL_snoc {l : List PartT} {p : PartT} {k : Nat} (hp : p.1 = k) (hk : k < 4) : sumL (l ++ [p]) = (sumL l).set k (sumK p.1 l + p.2.2) ∧ (sumL l)[k]? = some (sumK p.1 l) := by
  have e : ∀ j : Int, sumK j (l ++ [p]) = sumK j l + (if p.1 = j then p.2.2 else 0) := fun j => by rw [sumK_append]; simp [sumK]
  have hc : k = 0 ∨ k = 1 ∨ k = 2 ∨ k = 3 := by omega
  unfold sumL
  simp only [e, hp]
  rcases hc with rfl | rfl | rfl | rfl <;> simp

def ofV (l : List PartT) : Value := if vecB l = true then arrV (sumK 0 l) (sumK 1 l) (sumK 2 l) (sumK 3 l) else arrV 0 0 0 0


theorem c42 {l : List PartT} {a : Option Addr} {n c : Nat} (w : World) (hs : SlE w 3 partE l a n c) : Ret Tryz.prog 42 #[.slice a n c] w (ofV l) := by
  intro R h
  refine f42_calls a n c w R ?_
  unfold f42_vc
  have hA := At.refl w
  have hn := hs.1
  subst hn
  have hlen := hs.len_le.2
  refine go_n hA fun n1 h_n1 => ?_
  refine go_below hA fun w2 hA => ?_
  refine opw_allocArr (n := 4) (size := 1) (f := one) (z := (0 : Int)) hA (zv := arrV 0 0 0 0) (by kernel_rfl) rfl rfl (by decide) fun w4 hA hk ho => ⟨_, rfl, hk, ?_⟩
  generalize hg : w2.heap.size = g at ho
  refine at_callb hA (c40 _ (hs.call hA.below)) (fun w7 hA hk hb => ⟨_, rfl, hk, ?_⟩)
  have ho := ho.call hb
  have rdA : ∀ {W : World} {gs : List Nat} {x0 x1 x2 x3 : Int}, OwnL w gs W 94 1 one (.slice (some ⟨g, 0, none⟩) 4 4) [x0, x1, x2, x3] → Reads Tryz.prog [] (Instr.loadAt 94 (.pointer (some ⟨g, 0, none⟩))) W (arrV x0 x1 x2 x3) := fun ho =>
    Elt.agg 4 (arr_elt (ho.sl (by simp)) rfl) (by kernel_rfl) (by kernel_rfl) (by simp) no_ds
  refine brNB (fun hno => ⟨_, _, _, _, rdA ho, ?_⟩) (fun hv => ?_)
  · refine go_evo hA (by intro d hd; simp at hd; omega) fun _ hA => ?_
    exact leaf h hA (by rw [ofV, if_neg (by rw [hno]; decide)])
  have hat : ∀ {W : World} {gs : List Nat} {i : Nat} {x : PartT}, At w gs W → l[i]? = some x → ∃ ad, Gives Tryz.prog (Instr.indexAt 43 (.slice a l.length c) (.int .i64 (i : Int))) (.pointer (some ad)) ∧ Reads Tryz.prog [] (Instr.loadAt 53 (.pointer (some ad))) W (partV x) := fun hA hx =>
    rd_agg (f := partE) (hs.call hA.below) hx (e := 53) (by kernel_rfl) (by kernel_rfl) (by kernel_rfl) (by kernel_rfl) (fun _ h => by cases h)
  refine ⟨fun s W => At w [n1] W ∧ ∃ k : Nat, s.1 = k ∧ k ≤ l.length ∧ OwnL w [n1] W 94 1 one (.slice (some ⟨g, 0, none⟩) 4 4) (sumL (l.take k)), fun s _ => l.length - s.1.toNat, ⟨hA, 0, rfl, Nat.zero_le _, ho⟩, ?_⟩
  intro i W ⟨hA, k, hi, hk, ho⟩
  simp only at hi
  subst hi
  refine brD (fun hlt => ?_) (fun hge => ?_)
  · obtain ⟨p, hp⟩ : ∃ x, l[k]? = some x := ⟨_, List.getElem?_eq_getElem (by omega)⟩
    obtain ⟨ad, g1, r1⟩ := hat hA hp
    have e1 : IntKind.i64.wrap ((k : Int) + 1) = ((k + 1 : Nat) : Int) := by rw [wrap_i64 (by omega) (by omega)]; rfl
    rw [e1]
    refine ⟨_, g1, _, _, _, r1, fun n22 hn22 => ?_⟩
    have hpr := (vecB_iff.1 hv).1 p (List.mem_of_getElem? hp)
    have hsl : 0 ≤ p.1 ∧ p.1 < 4 := ⟨hpr.1.1, hpr.1.2.1⟩
    obtain ⟨kk, hkk⟩ : ∃ kk : Nat, p.1 = kk := ⟨p.1.toNat, by omega⟩
    have hkk4 : kk < 4 := by omega
    obtain ⟨hset, hget⟩ := sumL_snoc (l := l.take k) hkk hkk4
    have htk : l.take k ++ [p] = l.take (k + 1) := by rw [List.take_add_one, hp]; rfl
    rw [htk] at hset
    have hb0 := vec_bound (k := p.1) (vec_take k hv)
    have hb1 := hpr.2
    have hx : Reads Tryz.prog [n22] (Instr.loadAt 2 (.pointer (some (Addr.add ⟨g, 0, none⟩ (kk * 1))))) W (.int .i64 (sumK p.1 (l.take k))) := by
      obtain ⟨ad', cs, ha, hl, hcs, rfl⟩ := (ho.sl (by simp)).at_ hget
      cases ha
      refine reads_one (by kernel_rfl) (fun d hd => ?_) (by have := hcs 0 _ rfl; rw [addr_add0] at this; exact this)
      simp at hd
      subst hd
      rw [add_block]
      have := World.block_lt_of_cell? W _ (hcs 0 _ rfl)
      rw [add_block, add_block] at this
      simp only at this ⊢
      omega
    have hgx : Gives Tryz.prog (Instr.indexAt 94 (.pointer (some ⟨g, 0, none⟩)) (.int .i64 p.1)) (.pointer (some (Addr.add ⟨g, 0, none⟩ (kk * 1)))) := by
      rw [hkk]
      exact gives_index_arr (e := 2) (by kernel_rfl) (by kernel_rfl) hkk4
    refine ⟨_, hgx, _, hx, _, hgx, ?_⟩
    have hsz := hA.size
    refine go_evo_too hA (by intro d hd; simp at hd; omega) fun w26 hA26 hev => ?_
    have ho26 := (ho.more (gs' := [n1, n22]) (by intro g' h1 h2; simp at h1 h2; omega)).evo (by intro d hd h2; simp at hd h2; omega) hev
    rw [wrap_i64 (by omega) (by omega)]
    refine opw_store (y := sumK p.1 (l.take k) + p.2.2) (i := kk) hA26 ho26 (by simp) (by simpa [sumL] using hkk4) rfl rfl rfl (by kernel_rfl) (fun w28 hA28 hk28 _ ho28 => ⟨hk28, ⟨⟨hA28.chg, fun g hg => hA28.under g (by simp at hg ⊢; omega)⟩, k + 1, rfl, by omega, ?_⟩, by show l.length - ((k + 1 : Nat) : Int).toNat < l.length - (k : Int).toNat; omega⟩) (fun g' hg' => by cases hg'; exact addr_add _ _ _ ▸ (by simp))
    rw [← hset] at ho28
    exact ho28.more (by intro g' h1 h2; simp at h1 h2; omega)
  · have hke : k = l.length := by omega
    subst hke
    rw [List.take_length] at ho
    refine ⟨_, _, _, _, rdA ho, ?_⟩
    refine go_evo hA (by intro d hd; simp at hd; omega) fun _ hA => ?_
    exact leaf h hA (by rw [ofV, if_pos hv])

/-! ### Move -/
end Go.Vc.ZW

/- The formulas of functions, printed by a program (VcTool.lean): each is what the generator's formula comes to, by the kernel's reckoning; whoever proves one has the function's contract. -/
set_option maxRecDepth 100000
set_option maxHeartbeats 1000000
set_option linter.unusedVariables false
namespace Vcqz
open Go Go.Vc Go.RowKit
/-! manciple/book.Right -/
def h4 : Hints := ⟨[1, 4, 5], [30, 32], [33], [], [(4, 9)], [], [], [], []⟩
def f4_vc (b_0 : Int) (b_1 : Int) (b_2 : Int) (b_3 : Int) (b_4 : Int) (b_5 : Int) (b_6 : Int) (b_7 : Int) (b_8 : Int) (b_9 : Int) (b_10 : Int) (b_11a : Option Addr) (b_11n : Nat) (b_11c : Nat) (b_12a : Option Addr) (b_12n : Nat) (b_12c : Nat) (b_13a : Option Addr) (b_13n : Nat) (b_13c : Nat) (b_14a : Option Addr) (b_14n : Nat) (b_14c : Nat) (b_15a : Option Addr) (b_15n : Nat) (b_15c : Nat) (w : World) (R : Ending → World → Prop) : Prop :=
 ∀ (n1 : Nat),
 w.heap.size ≤ n1 →
 ∀ (n2 : Nat),
 w.heap.size ≤ n2 →
 ∀ (n3 : Nat),
 w.heap.size ≤ n3 →
 ∀ (w4 : World),
 Evo [n3, n2] w w4 →
 Under [n1, n2, n3] w4 →
 OpW Proofs.Tryz.prog
 (invokeS
 (Value.func (Fn.func 9)
 #[Value.agg
 #[Value.int IntKind.i64 b_0, Value.int IntKind.i64 b_1, Value.int IntKind.i64 b_2, Value.int IntKind.i64 b_3, Value.int IntKind.i64 b_4, Value.int IntKind.i64 b_5, Value.int IntKind.i64 b_6,
 Value.int IntKind.i64 b_7, Value.int IntKind.i64 b_8, Value.int IntKind.i64 b_9, Value.int IntKind.i64 b_10, Value.slice b_11a b_11n b_11c, Value.slice b_12a b_12n b_12c, Value.slice b_13a b_13n b_13c,
 Value.slice b_14a b_14n b_14c, Value.slice b_15a b_15n b_15c]]
 #[])
 #[])
 w4 fun (v5 : Value) (w6 : World) =>
 ∃ (b7 : Bool),
 v5 = Value.bool b7 ∧
 Keeps [n1, n2, n3] w4 w6 ∧
 ((!b7) = true → R (Ending.returned (Value.tuple #[Value.int IntKind.i64 1, Value.bool false])) w6) ∧
 ((!b7) = false →
 OpW Proofs.Tryz.prog
 (invokeS
 (Value.func (Fn.func 10)
 #[Value.agg
 #[Value.int IntKind.i64 b_0, Value.int IntKind.i64 b_1, Value.int IntKind.i64 b_2, Value.int IntKind.i64 b_3, Value.int IntKind.i64 b_4, Value.int IntKind.i64 b_5, Value.int IntKind.i64 b_6,
 Value.int IntKind.i64 b_7, Value.int IntKind.i64 b_8, Value.int IntKind.i64 b_9, Value.int IntKind.i64 b_10, Value.slice b_11a b_11n b_11c, Value.slice b_12a b_12n b_12c,
 Value.slice b_13a b_13n b_13c, Value.slice b_14a b_14n b_14c, Value.slice b_15a b_15n b_15c]]
 #[])
 #[])
 w6 fun (v8 : Value) (w9 : World) =>
 ∃ (b10 : Bool),
 v8 = Value.bool b10 ∧
 Keeps [n1, n2, n3] w6 w9 ∧
 ((!b10) = true → R (Ending.returned (Value.tuple #[Value.int IntKind.i64 2, Value.bool false])) w9) ∧
 ((!b10) = false →
 OpW Proofs.Tryz.prog
 (invokeS
 (Value.func (Fn.func 11)
 #[Value.agg
 #[Value.int IntKind.i64 b_0, Value.int IntKind.i64 b_1, Value.int IntKind.i64 b_2, Value.int IntKind.i64 b_3, Value.int IntKind.i64 b_4, Value.int IntKind.i64 b_5,
 Value.int IntKind.i64 b_6, Value.int IntKind.i64 b_7, Value.int IntKind.i64 b_8, Value.int IntKind.i64 b_9, Value.int IntKind.i64 b_10, Value.slice b_11a b_11n b_11c,
 Value.slice b_12a b_12n b_12c, Value.slice b_13a b_13n b_13c, Value.slice b_14a b_14n b_14c, Value.slice b_15a b_15n b_15c]]
 #[])
 #[])
 w9 fun (v11 : Value) (w12 : World) =>
 ∃ (b13 : Bool),
 v11 = Value.bool b13 ∧
 Keeps [n1, n2, n3] w9 w12 ∧
 ((!b13) = true → R (Ending.returned (Value.tuple #[Value.int IntKind.i64 3, Value.bool false])) w12) ∧
 ((!b13) = false →
 OpW Proofs.Tryz.prog
 (invokeS
 (Value.func (Fn.func 12)
 #[Value.agg
 #[Value.int IntKind.i64 b_0, Value.int IntKind.i64 b_1, Value.int IntKind.i64 b_2, Value.int IntKind.i64 b_3, Value.int IntKind.i64 b_4, Value.int IntKind.i64 b_5,
 Value.int IntKind.i64 b_6, Value.int IntKind.i64 b_7, Value.int IntKind.i64 b_8, Value.int IntKind.i64 b_9, Value.int IntKind.i64 b_10, Value.slice b_11a b_11n b_11c,
 Value.slice b_12a b_12n b_12c, Value.slice b_13a b_13n b_13c, Value.slice b_14a b_14n b_14c, Value.slice b_15a b_15n b_15c]]
 #[])
 #[])
 w12 fun (v14 : Value) (w15 : World) =>
 ∃ (b16 : Bool),
 v14 = Value.bool b16 ∧
 Keeps [n1, n2, n3] w12 w15 ∧
 ((!b16) = true → R (Ending.returned (Value.tuple #[Value.int IntKind.i64 4, Value.bool false])) w15) ∧
 ((!b16) = false →
 OpW Proofs.Tryz.prog
 (invokeS
 (Value.func (Fn.func 13)
 #[Value.agg
 #[Value.int IntKind.i64 b_0, Value.int IntKind.i64 b_1, Value.int IntKind.i64 b_2, Value.int IntKind.i64 b_3, Value.int IntKind.i64 b_4, Value.int IntKind.i64 b_5,
 Value.int IntKind.i64 b_6, Value.int IntKind.i64 b_7, Value.int IntKind.i64 b_8, Value.int IntKind.i64 b_9, Value.int IntKind.i64 b_10,
 Value.slice b_11a b_11n b_11c, Value.slice b_12a b_12n b_12c, Value.slice b_13a b_13n b_13c, Value.slice b_14a b_14n b_14c, Value.slice b_15a b_15n b_15c]]
 #[])
 #[])
 w15 fun (v17 : Value) (w18 : World) =>
 ∃ (b19 : Bool),
 v17 = Value.bool b19 ∧
 Keeps [n1, n2, n3] w15 w18 ∧
 ((!b19) = true → R (Ending.returned (Value.tuple #[Value.int IntKind.i64 5, Value.bool false])) w18) ∧
 ((!b19) = false →
 OpW Proofs.Tryz.prog
 (invokeS
 (Value.func (Fn.func 14)
 #[Value.agg
 #[Value.int IntKind.i64 b_0, Value.int IntKind.i64 b_1, Value.int IntKind.i64 b_2, Value.int IntKind.i64 b_3, Value.int IntKind.i64 b_4,
 Value.int IntKind.i64 b_5, Value.int IntKind.i64 b_6, Value.int IntKind.i64 b_7, Value.int IntKind.i64 b_8, Value.int IntKind.i64 b_9,
 Value.int IntKind.i64 b_10, Value.slice b_11a b_11n b_11c, Value.slice b_12a b_12n b_12c, Value.slice b_13a b_13n b_13c,
 Value.slice b_14a b_14n b_14c, Value.slice b_15a b_15n b_15c]]
 #[])
 #[])
 w18 fun (v20 : Value) (w21 : World) =>
 ∃ (b22 : Bool),
 v20 = Value.bool b22 ∧
 Keeps [n1, n2, n3] w18 w21 ∧
 ((!b22) = true → R (Ending.returned (Value.tuple #[Value.int IntKind.i64 6, Value.bool false])) w21) ∧
 ((!b22) = false →
 OpW Proofs.Tryz.prog
 (invokeS
 (Value.func (Fn.func 15)
 #[Value.agg
 #[Value.int IntKind.i64 b_0, Value.int IntKind.i64 b_1, Value.int IntKind.i64 b_2, Value.int IntKind.i64 b_3, Value.int IntKind.i64 b_4,
 Value.int IntKind.i64 b_5, Value.int IntKind.i64 b_6, Value.int IntKind.i64 b_7, Value.int IntKind.i64 b_8, Value.int IntKind.i64 b_9,
 Value.int IntKind.i64 b_10, Value.slice b_11a b_11n b_11c, Value.slice b_12a b_12n b_12c, Value.slice b_13a b_13n b_13c,
 Value.slice b_14a b_14n b_14c, Value.slice b_15a b_15n b_15c]]
 #[])
 #[])
 w21 fun (v23 : Value) (w24 : World) =>
 ∃ (b25 : Bool),
 v23 = Value.bool b25 ∧
 Keeps [n1, n2, n3] w21 w24 ∧
 ((!b25) = true → R (Ending.returned (Value.tuple #[Value.int IntKind.i64 7, Value.bool false])) w24) ∧
 ((!b25) = false →
 OpW Proofs.Tryz.prog
 (invokeS
 (Value.func (Fn.func 16)
 #[Value.agg
 #[Value.int IntKind.i64 b_0, Value.int IntKind.i64 b_1, Value.int IntKind.i64 b_2, Value.int IntKind.i64 b_3,
 Value.int IntKind.i64 b_4, Value.int IntKind.i64 b_5, Value.int IntKind.i64 b_6, Value.int IntKind.i64 b_7,
 Value.int IntKind.i64 b_8, Value.int IntKind.i64 b_9, Value.int IntKind.i64 b_10, Value.slice b_11a b_11n b_11c,
 Value.slice b_12a b_12n b_12c, Value.slice b_13a b_13n b_13c, Value.slice b_14a b_14n b_14c, Value.slice b_15a b_15n b_15c]]
 #[])
 #[])
 w24 fun (v26 : Value) (w27 : World) =>
 ∃ (b28 : Bool),
 v26 = Value.bool b28 ∧
 Keeps [n1, n2, n3] w24 w27 ∧
 ((!b28) = true → R (Ending.returned (Value.tuple #[Value.int IntKind.i64 8, Value.bool false])) w27) ∧
 ((!b28) = false → R (Ending.returned (Value.tuple #[Value.int IntKind.i64 0, Value.bool true])) w27))))))))
theorem f4_eq (b_0 : Int) (b_1 : Int) (b_2 : Int) (b_3 : Int) (b_4 : Int) (b_5 : Int) (b_6 : Int) (b_7 : Int) (b_8 : Int) (b_9 : Int) (b_10 : Int) (b_11a : Option Addr) (b_11n : Nat) (b_11c : Nat) (b_12a : Option Addr) (b_12n : Nat) (b_12c : Nat) (b_13a : Option Addr) (b_13n : Nat) (b_13c : Nat) (b_14a : Option Addr) (b_14n : Nat) (b_14c : Nat) (b_15a : Option Addr) (b_15n : Nat) (b_15c : Nat) (w : World) (R : Ending → World → Prop) : (fnF Go.Proofs.Tryz.prog h4 Go.Proofs.Tryz.f4 [Value.agg
 #[Value.int IntKind.i64 b_0, Value.int IntKind.i64 b_1, Value.int IntKind.i64 b_2, Value.int IntKind.i64 b_3, Value.int IntKind.i64 b_4, Value.int IntKind.i64 b_5, Value.int IntKind.i64 b_6, Value.int IntKind.i64 b_7,
 Value.int IntKind.i64 b_8, Value.int IntKind.i64 b_9, Value.int IntKind.i64 b_10, Value.slice b_11a b_11n b_11c, Value.slice b_12a b_12n b_12c, Value.slice b_13a b_13n b_13c, Value.slice b_14a b_14n b_14c,
 Value.slice b_15a b_15n b_15c]] w R).den = f4_vc b_0 b_1 b_2 b_3 b_4 b_5 b_6 b_7 b_8 b_9 b_10 b_11a b_11n b_11c b_12a b_12n b_12c b_13a b_13n b_13c b_14a b_14n b_14c b_15a b_15n b_15c w R := by kernel_rfl
theorem f4_calls (b_0 : Int) (b_1 : Int) (b_2 : Int) (b_3 : Int) (b_4 : Int) (b_5 : Int) (b_6 : Int) (b_7 : Int) (b_8 : Int) (b_9 : Int) (b_10 : Int) (b_11a : Option Addr) (b_11n : Nat) (b_11c : Nat) (b_12a : Option Addr) (b_12n : Nat) (b_12c : Nat) (b_13a : Option Addr) (b_13n : Nat) (b_13c : Nat) (b_14a : Option Addr) (b_14n : Nat) (b_14c : Nat) (b_15a : Option Addr) (b_15n : Nat) (b_15c : Nat) (w : World) (R : Ending → World → Prop) (h : f4_vc b_0 b_1 b_2 b_3 b_4 b_5 b_6 b_7 b_8 b_9 b_10 b_11a b_11n b_11c b_12a b_12n b_12c b_13a b_13n b_13c b_14a b_14n b_14c b_15a b_15n b_15c w R) : Calls Go.Proofs.Tryz.prog 4 (List.toArray [Value.agg
 #[Value.int IntKind.i64 b_0, Value.int IntKind.i64 b_1, Value.int IntKind.i64 b_2, Value.int IntKind.i64 b_3, Value.int IntKind.i64 b_4, Value.int IntKind.i64 b_5, Value.int IntKind.i64 b_6, Value.int IntKind.i64 b_7,
 Value.int IntKind.i64 b_8, Value.int IntKind.i64 b_9, Value.int IntKind.i64 b_10, Value.slice b_11a b_11n b_11c, Value.slice b_12a b_12n b_12c, Value.slice b_13a b_13n b_13c, Value.slice b_14a b_14n b_14c,
 Value.slice b_15a b_15n b_15c]]) w R :=
 fn_sound (H := h4) (fn := Go.Proofs.Tryz.f4) (by kernel_rfl) (by kernel_rfl) (by kernel_rfl) ((f4_eq b_0 b_1 b_2 b_3 b_4 b_5 b_6 b_7 b_8 b_9 b_10 b_11a b_11n b_11c b_12a b_12n b_12c b_13a b_13n b_13c b_14a b_14n b_14c b_15a b_15n b_15c w R).mpr h)


/-! (manciple/book.look).set -/
def h9 : Hints := ⟨[1, 3], [], [10, 16, 24, 30], [], [], [], [], [], []⟩
def f9_vc (b_0 : Int) (b_1 : Int) (b_2 : Int) (b_3 : Int) (b_4 : Int) (b_5 : Int) (b_6 : Int) (b_7 : Int) (b_8 : Int) (b_9 : Int) (b_10 : Int) (b_11a : Option Addr) (b_11n : Nat) (b_11c : Nat) (b_12a : Option Addr) (b_12n : Nat) (b_12c : Nat) (b_13a : Option Addr) (b_13n : Nat) (b_13c : Nat) (b_14a : Option Addr) (b_14n : Nat) (b_14c : Nat) (b_15a : Option Addr) (b_15n : Nat) (b_15c : Nat) (w : World) (R : Ending → World → Prop) : Prop :=
 ∀ (n1 : Nat),
 w.heap.size ≤ n1 →
 ∀ (n2 : Nat),
 w.heap.size ≤ n2 →
 ∀ (w3 : World),
 Evo [n2] w w3 →
 Under [n1, n2] w3 →
 Calls Proofs.Tryz.prog 38
 #[Value.agg
 #[Value.int IntKind.i64 b_0, Value.int IntKind.i64 b_1, Value.int IntKind.i64 b_2, Value.int IntKind.i64 b_3, Value.int IntKind.i64 b_4, Value.int IntKind.i64 b_5, Value.int IntKind.i64 b_6, Value.int IntKind.i64 b_7,
 Value.int IntKind.i64 b_8]]
 w3 fun (e4 : Ending) (w5 : World) =>
 ∃ (x6 : Int),
 e4 = Ending.returned (Value.int IntKind.i64 x6) ∧
 Keeps [n1, n2] w3 w5 ∧
 ((x6 == 0) = true →
 (decide (b_9 ≥ 0) = true →
 (decide (b_9 ≤ b_0) = true → (decide (b_10 ≥ 0) = true → R (Ending.returned (Value.bool (decide (b_10 ≤ b_2)))) w5) ∧ (decide (b_10 ≥ 0) = false → R (Ending.returned (Value.bool false)) w5)) ∧
 (decide (b_9 ≤ b_0) = false → R (Ending.returned (Value.bool false)) w5)) ∧
 (decide (b_9 ≥ 0) = false → R (Ending.returned (Value.bool false)) w5)) ∧
 ((x6 == 0) = false → R (Ending.returned (Value.bool false)) w5)
theorem f9_eq (b_0 : Int) (b_1 : Int) (b_2 : Int) (b_3 : Int) (b_4 : Int) (b_5 : Int) (b_6 : Int) (b_7 : Int) (b_8 : Int) (b_9 : Int) (b_10 : Int) (b_11a : Option Addr) (b_11n : Nat) (b_11c : Nat) (b_12a : Option Addr) (b_12n : Nat) (b_12c : Nat) (b_13a : Option Addr) (b_13n : Nat) (b_13c : Nat) (b_14a : Option Addr) (b_14n : Nat) (b_14c : Nat) (b_15a : Option Addr) (b_15n : Nat) (b_15c : Nat) (w : World) (R : Ending → World → Prop) : (fnF Go.Proofs.Tryz.prog h9 Go.Proofs.Tryz.f9 [Value.agg
 #[Value.int IntKind.i64 b_0, Value.int IntKind.i64 b_1, Value.int IntKind.i64 b_2, Value.int IntKind.i64 b_3, Value.int IntKind.i64 b_4, Value.int IntKind.i64 b_5, Value.int IntKind.i64 b_6, Value.int IntKind.i64 b_7,
 Value.int IntKind.i64 b_8, Value.int IntKind.i64 b_9, Value.int IntKind.i64 b_10, Value.slice b_11a b_11n b_11c, Value.slice b_12a b_12n b_12c, Value.slice b_13a b_13n b_13c, Value.slice b_14a b_14n b_14c,
 Value.slice b_15a b_15n b_15c]] w R).den = f9_vc b_0 b_1 b_2 b_3 b_4 b_5 b_6 b_7 b_8 b_9 b_10 b_11a b_11n b_11c b_12a b_12n b_12c b_13a b_13n b_13c b_14a b_14n b_14c b_15a b_15n b_15c w R := by kernel_rfl
theorem f9_calls (b_0 : Int) (b_1 : Int) (b_2 : Int) (b_3 : Int) (b_4 : Int) (b_5 : Int) (b_6 : Int) (b_7 : Int) (b_8 : Int) (b_9 : Int) (b_10 : Int) (b_11a : Option Addr) (b_11n : Nat) (b_11c : Nat) (b_12a : Option Addr) (b_12n : Nat) (b_12c : Nat) (b_13a : Option Addr) (b_13n : Nat) (b_13c : Nat) (b_14a : Option Addr) (b_14n : Nat) (b_14c : Nat) (b_15a : Option Addr) (b_15n : Nat) (b_15c : Nat) (w : World) (R : Ending → World → Prop) (h : f9_vc b_0 b_1 b_2 b_3 b_4 b_5 b_6 b_7 b_8 b_9 b_10 b_11a b_11n b_11c b_12a b_12n b_12c b_13a b_13n b_13c b_14a b_14n b_14c b_15a b_15n b_15c w R) : Calls Go.Proofs.Tryz.prog 9 (List.toArray [Value.agg
 #[Value.int IntKind.i64 b_0, Value.int IntKind.i64 b_1, Value.int IntKind.i64 b_2, Value.int IntKind.i64 b_3, Value.int IntKind.i64 b_4, Value.int IntKind.i64 b_5, Value.int IntKind.i64 b_6, Value.int IntKind.i64 b_7,
 Value.int IntKind.i64 b_8, Value.int IntKind.i64 b_9, Value.int IntKind.i64 b_10, Value.slice b_11a b_11n b_11c, Value.slice b_12a b_12n b_12c, Value.slice b_13a b_13n b_13c, Value.slice b_14a b_14n b_14c,
 Value.slice b_15a b_15n b_15c]]) w R :=
 fn_sound (H := h9) (fn := Go.Proofs.Tryz.f9) (by kernel_rfl) (by kernel_rfl) (by kernel_rfl) ((f9_eq b_0 b_1 b_2 b_3 b_4 b_5 b_6 b_7 b_8 b_9 b_10 b_11a b_11n b_11c b_12a b_12n b_12c b_13a b_13n b_13c b_14a b_14n b_14c b_15a b_15n b_15c w R).mpr h)


/-! (manciple/book.look).frames -/
def h10 : Hints := ⟨[1, 5], [16, 33], [14, 59, 83, 105, 22, 25, 39, 43, 50, 55, 68, 74, 79, 92, 97, 100], [(5, [0, 1, 2, 3, 4, 5, 6, 7, 8, 9, 10, 11, 12, 13, 14, 15, 16, 17, 18, 19, 20, 21, 22, 23, 24, 25, 26, 27, 28, 29, 30, 31, 32, 33, 34, 35, 36, 37, 38, 39, 40, 41])], [], [(3, ⟨[(13, .int .i64)], []⟩)], [(13, ⟨[], []⟩), (7, ⟨[], []⟩), (6, ⟨[(59, .bool)], []⟩), (10, ⟨[], []⟩), (8, ⟨[(6, .int .i64), (7, .bool)], []⟩), (9, ⟨[(83, .bool)], []⟩), (11, ⟨[], []⟩), (12, ⟨[(105, .bool)], []⟩)], [], []⟩
def f10_vc (b_0 : Int) (b_1 : Int) (b_2 : Int) (b_3 : Int) (b_4 : Int) (b_5 : Int) (b_6 : Int) (b_7 : Int) (b_8 : Int) (b_9 : Int) (b_10 : Int) (b_11a : Option Addr) (b_11n : Nat) (b_11c : Nat) (b_12a : Option Addr) (b_12n : Nat) (b_12c : Nat) (b_13a : Option Addr) (b_13n : Nat) (b_13c : Nat) (b_14a : Option Addr) (b_14n : Nat) (b_14c : Nat) (b_15a : Option Addr) (b_15n : Nat) (b_15c : Nat) (w : World) (R : Ending → World → Prop) : Prop :=
 ∀ (n1 : Nat),
 w.heap.size ≤ n1 →
 ∀ (w2 : World),
 Bel w w2 →
 Under [n1] w2 →
 OpW Proofs.Tryz.prog (valueS (Instr.makeMap 90 none)) w2 fun (v3 : Value) (w4 : World) =>
 ∃ (r5 : Option Nat),
 v3 = Value.map r5 ∧
 Keeps [n1] w2 w4 ∧
 ∃ (J6 : Int × Unit → World → Prop),
 ∃ (J7 : Int × Unit → World → Nat),
 J6 (0, ()) w4 ∧
 ∀ (x8 : Int) (w9 : World),
 J6 (x8, ()) w9 →
 (decide (x8 < (↑b_11n : Int)) = true →
 ∃ (J10 : Unit → World → Prop),
 (∃ (ad11 : Addr),
 Gives Proofs.Tryz.prog (Instr.indexAt 25 (Value.slice b_11a b_11n b_11c) (Value.int IntKind.i64 x8)) (Value.pointer (some ad11)) ∧
 ∃ (x12 : Int),
 ∃ (x13 : Int),
 ∃ (x14 : Int),
 ∃ (b15 : Bool),
 ∃ (b16 : Bool),
 ∃ (x17 : Int),
 ∃ (x18 : Int),
 Reads Proofs.Tryz.prog [] (Instr.loadAt 37 (Value.pointer (some ad11))) w9
 (Value.agg #[Value.int IntKind.i64 x12, Value.int IntKind.i64 x13, Value.int IntKind.i64 x14, Value.bool b15, Value.bool b16, Value.int IntKind.i64 x17, Value.int IntKind.i64 x18]) ∧
 ∀ (n19 : Nat),
 w9.heap.size ≤ n19 →
 ∃ (J20 : Unit → World → Prop),
 (∃ (J21 : Bool × Unit → World → Prop),
 (∀ (w22 : World),
 Evo [n19] w9 w22 →
 Under [n1, n19] w22 →
 Calls Proofs.Tryz.prog 39 #[Value.int IntKind.i64 x12] w22 fun (e23 : Ending) (w24 : World) =>
 ∃ (b25 : Bool),
 e23 = Ending.returned (Value.bool b25) ∧
 Keeps [n1, n19] w22 w24 ∧
 ((!b25) = true → J21 (true, ()) w24) ∧
 ((!b25) = false →
 (decide (x8 > 0) = true →
 ∃ (ad26 : Addr),
 Gives Proofs.Tryz.prog (Instr.indexAt 25 (Value.slice b_11a b_11n b_11c) (Value.int IntKind.i64 (IntKind.i64.wrap (x8 - 1))))
 (Value.pointer (some ad26)) ∧
 ∃ (x27 : Int),
 Reads Proofs.Tryz.prog [] (Instr.loadAt 2 (Value.pointer (some ad26))) w24 (Value.int IntKind.i64 x27) ∧
 (decide (x12 ≤ x27) = true → J21 (true, ()) w24) ∧
 (decide (x12 ≤ x27) = false →
 ((x17 != 0) = true →
 Calls Proofs.Tryz.prog 39 #[Value.int IntKind.i64 x17] w24 fun (e28 : Ending) (w29 : World) =>
 ∃ (b30 : Bool),
 e28 = Ending.returned (Value.bool b30) ∧
 Keeps [n1, n19] w24 w29 ∧
 Reads Proofs.Tryz.prog [] (Instr.loadAt 2 (Value.pointer (some ad26))) w29 (Value.int IntKind.i64 x27) ∧
 ((!b30) = true → J21 (true, ()) w29) ∧
 ((!b30) = false →
 (decide (x13 < 1) = true → J21 (true, ()) w29) ∧ (decide (x13 < 1) = false → J21 (decide (x13 > 32), ()) w29))) ∧
 ((x17 != 0) = false → (decide (x13 < 1) = true → J21 (true, ()) w24) ∧ (decide (x13 < 1) = false → J21 (decide (x13 > 32), ()) w24)))) ∧
 (decide (x8 > 0) = false →
 ((x17 != 0) = true →
 Calls Proofs.Tryz.prog 39 #[Value.int IntKind.i64 x17] w24 fun (e31 : Ending) (w32 : World) =>
 ∃ (b33 : Bool),
 e31 = Ending.returned (Value.bool b33) ∧
 Keeps [n1, n19] w24 w32 ∧
 ((!b33) = true → J21 (true, ()) w32) ∧
 ((!b33) = false → (decide (x13 < 1) = true → J21 (true, ()) w32) ∧ (decide (x13 < 1) = false → J21 (decide (x13 > 32), ()) w32))) ∧
 ((x17 != 0) = false → (decide (x13 < 1) = true → J21 (true, ()) w24) ∧ (decide (x13 < 1) = false → J21 (decide (x13 > 32), ()) w24))))) ∧
 ∀ (b34 : Bool) (w35 : World), J21 (b34, ()) w35 → (b34 = true → R (Ending.returned (Value.bool false)) w35) ∧ (b34 = false → J20 () w35)) ∧
 ∀ (w36 : World),
 J20 () w36 →
 ∃ (J37 : Unit → World → Prop),
 (∃ (J38 : Int × Bool × Unit → World → Prop),
 (∃ (x39 : Int),
 ∃ (b40 : Bool),
 Reads Proofs.Tryz.prog [] (Instr.lookup 90 (Value.map r5) (Value.int IntKind.i64 x13) true) w36 (Value.tuple #[Value.int IntKind.i64 x39, Value.bool b40]) ∧
 J38 (x39, b40, ()) w36) ∧
 ∀ (x41 : Int) (b42 : Bool) (w43 : World),
 J38 (x41, b42, ()) w43 →
 ∃ (J44 : Bool × Unit → World → Prop),
 ((b42 = true →
 ((x41 != x14) = true → J44 (true, ()) w43) ∧
 ((x41 != x14) = false → (decide (x14 < 1) = true → J44 (true, ()) w43) ∧ (decide (x14 < 1) = false → J44 (decide (x14 > 1000), ()) w43))) ∧
 (b42 = false → (decide (x14 < 1) = true → J44 (true, ()) w43) ∧ (decide (x14 < 1) = false → J44 (decide (x14 > 1000), ()) w43))) ∧
 ∀ (b45 : Bool) (w46 : World), J44 (b45, ()) w46 → (b45 = true → R (Ending.returned (Value.bool false)) w46) ∧ (b45 = false → J37 () w46)) ∧
 ∀ (w47 : World),
 J37 () w47 →
 ∃ (J48 : Unit → World → Prop),
 (OpW Proofs.Tryz.prog (skipS (Instr.mapUpdate 90 (Value.map r5) (Value.int IntKind.i64 x13) (Value.int IntKind.i64 x14))) w47 fun (v49 : Value) (w50 : World) =>
 Keeps [n1, n19] w47 w50 ∧ J48 () w50) ∧
 ∀ (w51 : World),
 J48 () w51 →
 ∃ (J52 : Bool × Unit → World → Prop),
 ((decide (x18 < 0) = true → J52 (true, ()) w51) ∧
 (decide (x18 < 0) = false →
 (decide (x18 > 18014398509481984) = true → J52 (true, ()) w51) ∧
 (decide (x18 > 18014398509481984) = false → (b15 = true → J52 (decide (x18 > 0), ()) w51) ∧ (b15 = false → J52 (false, ()) w51)))) ∧
 ∀ (b53 : Bool) (w54 : World), J52 (b53, ()) w54 → (b53 = true → R (Ending.returned (Value.bool false)) w54) ∧ (b53 = false → J10 () w54)) ∧
 ∀ (w55 : World), J10 () w55 → J6 (IntKind.i64.wrap (x8 + 1), ()) w55 ∧ J7 (IntKind.i64.wrap (x8 + 1), ()) w55 < J7 (x8, ()) w9) ∧
 (decide (x8 < (↑b_11n : Int)) = false → R (Ending.returned (Value.bool (decide ((↑b_11n : Int) ≤ b_4)))) w9)
theorem f10_eq (b_0 : Int) (b_1 : Int) (b_2 : Int) (b_3 : Int) (b_4 : Int) (b_5 : Int) (b_6 : Int) (b_7 : Int) (b_8 : Int) (b_9 : Int) (b_10 : Int) (b_11a : Option Addr) (b_11n : Nat) (b_11c : Nat) (b_12a : Option Addr) (b_12n : Nat) (b_12c : Nat) (b_13a : Option Addr) (b_13n : Nat) (b_13c : Nat) (b_14a : Option Addr) (b_14n : Nat) (b_14c : Nat) (b_15a : Option Addr) (b_15n : Nat) (b_15c : Nat) (w : World) (R : Ending → World → Prop) : (fnF Go.Proofs.Tryz.prog h10 Go.Proofs.Tryz.f10 [Value.agg
 #[Value.int IntKind.i64 b_0, Value.int IntKind.i64 b_1, Value.int IntKind.i64 b_2, Value.int IntKind.i64 b_3, Value.int IntKind.i64 b_4, Value.int IntKind.i64 b_5, Value.int IntKind.i64 b_6, Value.int IntKind.i64 b_7,
 Value.int IntKind.i64 b_8, Value.int IntKind.i64 b_9, Value.int IntKind.i64 b_10, Value.slice b_11a b_11n b_11c, Value.slice b_12a b_12n b_12c, Value.slice b_13a b_13n b_13c, Value.slice b_14a b_14n b_14c,
 Value.slice b_15a b_15n b_15c]] w R).den = f10_vc b_0 b_1 b_2 b_3 b_4 b_5 b_6 b_7 b_8 b_9 b_10 b_11a b_11n b_11c b_12a b_12n b_12c b_13a b_13n b_13c b_14a b_14n b_14c b_15a b_15n b_15c w R := by kernel_rfl
theorem f10_calls (b_0 : Int) (b_1 : Int) (b_2 : Int) (b_3 : Int) (b_4 : Int) (b_5 : Int) (b_6 : Int) (b_7 : Int) (b_8 : Int) (b_9 : Int) (b_10 : Int) (b_11a : Option Addr) (b_11n : Nat) (b_11c : Nat) (b_12a : Option Addr) (b_12n : Nat) (b_12c : Nat) (b_13a : Option Addr) (b_13n : Nat) (b_13c : Nat) (b_14a : Option Addr) (b_14n : Nat) (b_14c : Nat) (b_15a : Option Addr) (b_15n : Nat) (b_15c : Nat) (w : World) (R : Ending → World → Prop) (h : f10_vc b_0 b_1 b_2 b_3 b_4 b_5 b_6 b_7 b_8 b_9 b_10 b_11a b_11n b_11c b_12a b_12n b_12c b_13a b_13n b_13c b_14a b_14n b_14c b_15a b_15n b_15c w R) : Calls Go.Proofs.Tryz.prog 10 (List.toArray [Value.agg
 #[Value.int IntKind.i64 b_0, Value.int IntKind.i64 b_1, Value.int IntKind.i64 b_2, Value.int IntKind.i64 b_3, Value.int IntKind.i64 b_4, Value.int IntKind.i64 b_5, Value.int IntKind.i64 b_6, Value.int IntKind.i64 b_7,
 Value.int IntKind.i64 b_8, Value.int IntKind.i64 b_9, Value.int IntKind.i64 b_10, Value.slice b_11a b_11n b_11c, Value.slice b_12a b_12n b_12c, Value.slice b_13a b_13n b_13c, Value.slice b_14a b_14n b_14c,
 Value.slice b_15a b_15n b_15c]]) w R :=
 fn_sound (H := h10) (fn := Go.Proofs.Tryz.f10) (by kernel_rfl) (by kernel_rfl) (by kernel_rfl) ((f10_eq b_0 b_1 b_2 b_3 b_4 b_5 b_6 b_7 b_8 b_9 b_10 b_11a b_11n b_11c b_12a b_12n b_12c b_13a b_13n b_13c b_14a b_14n b_14c b_15a b_15n b_15c w R).mpr h)


/-! (manciple/book.look).agents -/
def h11 : Hints := ⟨[1, 4], [12, 29], [10, 52, 18, 21, 35, 41, 47], [(4, [0, 1, 2, 3, 4, 5, 6, 7, 8, 9, 10, 11, 12, 13, 14, 15, 16, 17, 18, 19, 20, 21, 22, 23, 24, 25, 26, 27, 28, 29, 30, 31, 32, 33, 34, 35, 36, 37, 38])], [], [(2, ⟨[(9, .int .i64)], []⟩)], [], [], []⟩
def f11_vc (b_0 : Int) (b_1 : Int) (b_2 : Int) (b_3 : Int) (b_4 : Int) (b_5 : Int) (b_6 : Int) (b_7 : Int) (b_8 : Int) (b_9 : Int) (b_10 : Int) (b_11a : Option Addr) (b_11n : Nat) (b_11c : Nat) (b_12a : Option Addr) (b_12n : Nat) (b_12c : Nat) (b_13a : Option Addr) (b_13n : Nat) (b_13c : Nat) (b_14a : Option Addr) (b_14n : Nat) (b_14c : Nat) (b_15a : Option Addr) (b_15n : Nat) (b_15c : Nat) (w : World) (R : Ending → World → Prop) : Prop :=
 ∀ (n1 : Nat),
 w.heap.size ≤ n1 →
 ∃ (J2 : Int × Unit → World → Prop),
 ∃ (J3 : Int × Unit → World → Nat),
 (∀ (w4 : World), Bel w w4 → Under [n1] w4 → J2 (0, ()) w4) ∧
 ∀ (x5 : Int) (w6 : World),
 J2 (x5, ()) w6 →
 (decide (x5 < (↑b_12n : Int)) = true →
 ∃ (ad7 : Addr),
 Gives Proofs.Tryz.prog (Instr.indexAt 26 (Value.slice b_12a b_12n b_12c) (Value.int IntKind.i64 x5)) (Value.pointer (some ad7)) ∧
 ∃ (x8 : Int),
 ∃ (a9 : Option Addr),
 ∃ (n10 : Nat),
 ∃ (n11 : Nat),
 ∃ (a12 : Option Addr),
 ∃ (n13 : Nat),
 ∃ (n14 : Nat),
 Reads Proofs.Tryz.prog [] (Instr.loadAt 45 (Value.pointer (some ad7))) w6 (Value.agg #[Value.int IntKind.i64 x8, Value.slice a9 n10 n11, Value.slice a12 n13 n14]) ∧
 ∀ (n15 : Nat),
 w6.heap.size ≤ n15 →
 ∀ (w16 : World),
 Evo [n15] w6 w16 →
 Under [n1, n15] w16 →
 Calls Proofs.Tryz.prog 39 #[Value.int IntKind.i64 x8] w16 fun (e17 : Ending) (w18 : World) =>
 ∃ (b19 : Bool),
 e17 = Ending.returned (Value.bool b19) ∧
 Keeps [n1, n15] w16 w18 ∧
 ((!b19) = true → R (Ending.returned (Value.bool false)) w18) ∧
 ((!b19) = false →
 (decide (x5 > 0) = true →
 ∃ (ad20 : Addr),
 Gives Proofs.Tryz.prog (Instr.indexAt 26 (Value.slice b_12a b_12n b_12c) (Value.int IntKind.i64 (IntKind.i64.wrap (x5 - 1)))) (Value.pointer (some ad20)) ∧
 ∃ (x21 : Int),
 Reads Proofs.Tryz.prog [] (Instr.loadAt 2 (Value.pointer (some ad20))) w18 (Value.int IntKind.i64 x21) ∧
 (decide (x8 ≤ x21) = true → R (Ending.returned (Value.bool false)) w18) ∧
 (decide (x8 ≤ x21) = false →
 (((↑n10 : Int) == 0) = true → R (Ending.returned (Value.bool false)) w18) ∧
 (((↑n10 : Int) == 0) = false →
 Calls Proofs.Tryz.prog 40 #[Value.slice a9 n10 n11] w18 fun (e22 : Ending) (w23 : World) =>
 ∃ (b24 : Bool),
 e22 = Ending.returned (Value.bool b24) ∧
 Keeps [n1, n15] w18 w23 ∧
 Reads Proofs.Tryz.prog [] (Instr.loadAt 2 (Value.pointer (some ad20))) w23 (Value.int IntKind.i64 x21) ∧
 ((!b24) = true → R (Ending.returned (Value.bool false)) w23) ∧
 ((!b24) = false →
 Calls Proofs.Tryz.prog 40 #[Value.slice a12 n13 n14] w23 fun (e25 : Ending) (w26 : World) =>
 ∃ (b27 : Bool),
 e25 = Ending.returned (Value.bool b27) ∧
 Keeps [n1, n15] w23 w26 ∧
 Reads Proofs.Tryz.prog [] (Instr.loadAt 2 (Value.pointer (some ad20))) w26 (Value.int IntKind.i64 x21) ∧
 ((!b27) = true → R (Ending.returned (Value.bool false)) w26) ∧
 ((!b27) = false → J2 (IntKind.i64.wrap (x5 + 1), ()) w26 ∧ J3 (IntKind.i64.wrap (x5 + 1), ()) w26 < J3 (x5, ()) w6))))) ∧
 (decide (x5 > 0) = false →
 (((↑n10 : Int) == 0) = true → R (Ending.returned (Value.bool false)) w18) ∧
 (((↑n10 : Int) == 0) = false →
 Calls Proofs.Tryz.prog 40 #[Value.slice a9 n10 n11] w18 fun (e28 : Ending) (w29 : World) =>
 ∃ (b30 : Bool),
 e28 = Ending.returned (Value.bool b30) ∧
 Keeps [n1, n15] w18 w29 ∧
 ((!b30) = true → R (Ending.returned (Value.bool false)) w29) ∧
 ((!b30) = false →
 Calls Proofs.Tryz.prog 40 #[Value.slice a12 n13 n14] w29 fun (e31 : Ending) (w32 : World) =>
 ∃ (b33 : Bool),
 e31 = Ending.returned (Value.bool b33) ∧
 Keeps [n1, n15] w29 w32 ∧
 ((!b33) = true → R (Ending.returned (Value.bool false)) w32) ∧
 ((!b33) = false → J2 (IntKind.i64.wrap (x5 + 1), ()) w32 ∧ J3 (IntKind.i64.wrap (x5 + 1), ()) w32 < J3 (x5, ()) w6)))))) ∧
 (decide (x5 < (↑b_12n : Int)) = false → R (Ending.returned (Value.bool (decide ((↑b_12n : Int) ≤ b_4)))) w6)
theorem f11_eq (b_0 : Int) (b_1 : Int) (b_2 : Int) (b_3 : Int) (b_4 : Int) (b_5 : Int) (b_6 : Int) (b_7 : Int) (b_8 : Int) (b_9 : Int) (b_10 : Int) (b_11a : Option Addr) (b_11n : Nat) (b_11c : Nat) (b_12a : Option Addr) (b_12n : Nat) (b_12c : Nat) (b_13a : Option Addr) (b_13n : Nat) (b_13c : Nat) (b_14a : Option Addr) (b_14n : Nat) (b_14c : Nat) (b_15a : Option Addr) (b_15n : Nat) (b_15c : Nat) (w : World) (R : Ending → World → Prop) : (fnF Go.Proofs.Tryz.prog h11 Go.Proofs.Tryz.f11 [Value.agg
 #[Value.int IntKind.i64 b_0, Value.int IntKind.i64 b_1, Value.int IntKind.i64 b_2, Value.int IntKind.i64 b_3, Value.int IntKind.i64 b_4, Value.int IntKind.i64 b_5, Value.int IntKind.i64 b_6, Value.int IntKind.i64 b_7,
 Value.int IntKind.i64 b_8, Value.int IntKind.i64 b_9, Value.int IntKind.i64 b_10, Value.slice b_11a b_11n b_11c, Value.slice b_12a b_12n b_12c, Value.slice b_13a b_13n b_13c, Value.slice b_14a b_14n b_14c,
 Value.slice b_15a b_15n b_15c]] w R).den = f11_vc b_0 b_1 b_2 b_3 b_4 b_5 b_6 b_7 b_8 b_9 b_10 b_11a b_11n b_11c b_12a b_12n b_12c b_13a b_13n b_13c b_14a b_14n b_14c b_15a b_15n b_15c w R := by kernel_rfl
theorem f11_calls (b_0 : Int) (b_1 : Int) (b_2 : Int) (b_3 : Int) (b_4 : Int) (b_5 : Int) (b_6 : Int) (b_7 : Int) (b_8 : Int) (b_9 : Int) (b_10 : Int) (b_11a : Option Addr) (b_11n : Nat) (b_11c : Nat) (b_12a : Option Addr) (b_12n : Nat) (b_12c : Nat) (b_13a : Option Addr) (b_13n : Nat) (b_13c : Nat) (b_14a : Option Addr) (b_14n : Nat) (b_14c : Nat) (b_15a : Option Addr) (b_15n : Nat) (b_15c : Nat) (w : World) (R : Ending → World → Prop) (h : f11_vc b_0 b_1 b_2 b_3 b_4 b_5 b_6 b_7 b_8 b_9 b_10 b_11a b_11n b_11c b_12a b_12n b_12c b_13a b_13n b_13c b_14a b_14n b_14c b_15a b_15n b_15c w R) : Calls Go.Proofs.Tryz.prog 11 (List.toArray [Value.agg
 #[Value.int IntKind.i64 b_0, Value.int IntKind.i64 b_1, Value.int IntKind.i64 b_2, Value.int IntKind.i64 b_3, Value.int IntKind.i64 b_4, Value.int IntKind.i64 b_5, Value.int IntKind.i64 b_6, Value.int IntKind.i64 b_7,
 Value.int IntKind.i64 b_8, Value.int IntKind.i64 b_9, Value.int IntKind.i64 b_10, Value.slice b_11a b_11n b_11c, Value.slice b_12a b_12n b_12c, Value.slice b_13a b_13n b_13c, Value.slice b_14a b_14n b_14c,
 Value.slice b_15a b_15n b_15c]]) w R :=
 fn_sound (H := h11) (fn := Go.Proofs.Tryz.f11) (by kernel_rfl) (by kernel_rfl) (by kernel_rfl) ((f11_eq b_0 b_1 b_2 b_3 b_4 b_5 b_6 b_7 b_8 b_9 b_10 b_11a b_11n b_11c b_12a b_12n b_12c b_13a b_13n b_13c b_14a b_14n b_14c b_15a b_15n b_15c w R).mpr h)


/-! (manciple/book.look).most -/
def h12 : Hints := ⟨[1, 3, 5], [14, 27], [13, 34, 26], [(6, [0, 1, 2, 3, 5, 6, 7, 8, 4, 9, 10])], [], [(3, ⟨[(12, .int .i64)], [(3, .cons (.int .i64) (.cons (.int .i64) (.cons (.int .i64) (.cons (.int .i64) (.nil)))))]⟩)], [], [], [(5, (.op 0 (.op 1 (.op 2 (.alt (.op 3 (.alt (.op 4 (.op 5 (.op 6 (.op 7 (.op 8 (.op 9 (.op 10 .nil))))))) (.op 8 (.op 4 (.op 5 (.op 6 (.op 7 (.op 9 (.op 10 .nil))))))))) (.op 8 (.op 3 (.op 4 (.op 5 (.op 6 (.op 7 (.op 9 (.op 10 .nil)))))))))))))]⟩
def f12_vc (b_0 : Int) (b_1 : Int) (b_2 : Int) (b_3 : Int) (b_4 : Int) (b_5 : Int) (b_6 : Int) (b_7 : Int) (b_8 : Int) (b_9 : Int) (b_10 : Int) (b_11a : Option Addr) (b_11n : Nat) (b_11c : Nat) (b_12a : Option Addr) (b_12n : Nat) (b_12c : Nat) (b_13a : Option Addr) (b_13n : Nat) (b_13c : Nat) (b_14a : Option Addr) (b_14n : Nat) (b_14c : Nat) (b_15a : Option Addr) (b_15n : Nat) (b_15c : Nat) (w : World) (R : Ending → World → Prop) : Prop :=
 ∀ (n1 : Nat),
 w.heap.size ≤ n1 →
 ∀ (n2 : Nat),
 w.heap.size ≤ n2 →
 ∃ (J3 : Int × Int × Int × Int × Int × Unit → World → Prop),
 ∃ (J4 : Int × Int × Int × Int × Int × Unit → World → Nat),
 (∀ (w5 : World), Bel w w5 → Under [n1, n2] w5 → J3 (0, 0, 0, 0, 0, ()) w5) ∧
 ∀ (x6 x7 x8 x9 x10 : Int) (w11 : World),
 J3 (x6, x7, x8, x9, x10, ()) w11 →
 (decide (x6 < (↑b_12n : Int)) = true →
 ∃ (ad12 : Addr),
 Gives Proofs.Tryz.prog (Instr.indexAt 26 (Value.slice b_12a b_12n b_12c) (Value.int IntKind.i64 x6)) (Value.pointer (some ad12)) ∧
 ∃ (x13 : Int),
 ∃ (a14 : Option Addr),
 ∃ (n15 : Nat),
 ∃ (n16 : Nat),
 ∃ (a17 : Option Addr),
 ∃ (n18 : Nat),
 ∃ (n19 : Nat),
 Reads Proofs.Tryz.prog [] (Instr.loadAt 45 (Value.pointer (some ad12))) w11 (Value.agg #[Value.int IntKind.i64 x13, Value.slice a14 n15 n16, Value.slice a17 n18 n19]) ∧
 ∀ (n20 : Nat),
 w11.heap.size ≤ n20 →
 (∀ (w21 : World),
 Evo [n20] w11 w21 →
 Under [n1, n2, n20] w21 →
 Calls Proofs.Tryz.prog 42 #[Value.slice a14 n15 n16] w21 fun (e22 : Ending) (w23 : World) =>
 ∃ (x24 : Int),
 ∃ (x25 : Int),
 ∃ (x26 : Int),
 ∃ (x27 : Int),
 e22 = Ending.returned (Value.agg #[Value.int IntKind.i64 x24, Value.int IntKind.i64 x25, Value.int IntKind.i64 x26, Value.int IntKind.i64 x27]) ∧
 Keeps [n1, n2, n20] w21 w23 ∧
 (Calls Proofs.Tryz.prog 41
 #[Value.agg #[Value.int IntKind.i64 x7, Value.int IntKind.i64 x8, Value.int IntKind.i64 x9, Value.int IntKind.i64 x10],
 Value.agg #[Value.int IntKind.i64 x24, Value.int IntKind.i64 x25, Value.int IntKind.i64 x26, Value.int IntKind.i64 x27]]
 w23 fun (e28 : Ending) (w29 : World) =>
 ∃ (x30 : Int),
 ∃ (x31 : Int),
 ∃ (x32 : Int),
 ∃ (x33 : Int),
 ∃ (b34 : Bool),
 e28 =
 Ending.returned
 (Value.tuple
 #[Value.agg #[Value.int IntKind.i64 x30, Value.int IntKind.i64 x31, Value.int IntKind.i64 x32, Value.int IntKind.i64 x33], Value.bool b34]) ∧
 Keeps [n1, n2, n20] w23 w29 ∧
 OpW Proofs.Tryz.prog (valueS (Instr.alloc 94 true (Value.tuple #[]))) w29 fun (v35 : Value) (w36 : World) =>
 ∃ (ad37 : Addr),
 v35 = Value.pointer (some ad37) ∧
 Keeps [n1, n2, n20] w29 w36 ∧
 OpW Proofs.Tryz.prog
 (skipS
 (Instr.storeAt 94 (Value.pointer (some ad37))
 (Value.agg #[Value.int IntKind.i64 x30, Value.int IntKind.i64 x31, Value.int IntKind.i64 x32, Value.int IntKind.i64 x33])))
 w36 fun (v38 : Value) (w39 : World) =>
 Keeps [n1, n2, n20] w36 w39 ∧
 ((!b34) = true → ∀ (w40 : World), Bel w39 w40 → Under [n1, n2, n20] w40 → R (Ending.returned (Value.bool false)) w40) ∧
 ((!b34) = false →
 ∃ (a41 : Option Addr),
 ∃ (n42 : Nat),
 ∃ (n43 : Nat),
 Gives Proofs.Tryz.prog (Instr.sliceAt 94 (Value.pointer (some ad37)) none none none) (Value.slice a41 n42 n43) ∧
 ∀ (w44 : World),
 Bel w39 w44 →
 Under [n1, n2, n20] w44 →
 Calls Proofs.Tryz.prog 43 #[Value.slice a41 n42 n43] w44 fun (e45 : Ending) (w46 : World) =>
 ∃ (x47 : Int),
 e45 = Ending.returned (Value.int IntKind.i64 x47) ∧
 Keeps [n1, n2, n20] w44 w46 ∧
 (decide (x47 > b_1) = true → R (Ending.returned (Value.bool false)) w46) ∧
 (decide (x47 > b_1) = false →
 ∃ (x48 : Int),
 ∃ (x49 : Int),
 ∃ (x50 : Int),
 ∃ (x51 : Int),
 Reads Proofs.Tryz.prog [] (Instr.loadAt 94 (Value.pointer (some ad37))) w46
 (Value.agg
 #[Value.int IntKind.i64 x48, Value.int IntKind.i64 x49, Value.int IntKind.i64 x50,
 Value.int IntKind.i64 x51]) ∧
 ∀ (w52 : World),
 Evo [n2] w46 w52 →
 Under [n1, n2, n20] w52 →
 J3 (IntKind.i64.wrap (x6 + 1), x48, x49, x50, x51, ()) w52 ∧
 J4 (IntKind.i64.wrap (x6 + 1), x48, x49, x50, x51, ()) w52 <
 J4 (x6, x7, x8, x9, x10, ()) w11))) ∧
 OpW Proofs.Tryz.prog (valueS (Instr.alloc 94 true (Value.tuple #[]))) w23 fun (v53 : Value) (w54 : World) =>
 ∃ (ad55 : Addr),
 v53 = Value.pointer (some ad55) ∧
 Keeps [n1, n2, n20] w23 w54 ∧
 Calls Proofs.Tryz.prog 41
 #[Value.agg #[Value.int IntKind.i64 x7, Value.int IntKind.i64 x8, Value.int IntKind.i64 x9, Value.int IntKind.i64 x10],
 Value.agg #[Value.int IntKind.i64 x24, Value.int IntKind.i64 x25, Value.int IntKind.i64 x26, Value.int IntKind.i64 x27]]
 w54 fun (e56 : Ending) (w57 : World) =>
 ∃ (x58 : Int),
 ∃ (x59 : Int),
 ∃ (x60 : Int),
 ∃ (x61 : Int),
 ∃ (b62 : Bool),
 e56 =
 Ending.returned
 (Value.tuple
 #[Value.agg #[Value.int IntKind.i64 x58, Value.int IntKind.i64 x59, Value.int IntKind.i64 x60, Value.int IntKind.i64 x61], Value.bool b62]) ∧
 Keeps [n1, n2, n20] w54 w57 ∧
 OpW Proofs.Tryz.prog
 (skipS
 (Instr.storeAt 94 (Value.pointer (some ad55))
 (Value.agg #[Value.int IntKind.i64 x58, Value.int IntKind.i64 x59, Value.int IntKind.i64 x60, Value.int IntKind.i64 x61])))
 w57 fun (v63 : Value) (w64 : World) =>
 Keeps [n1, n2, n20] w57 w64 ∧
 ((!b62) = true → ∀ (w65 : World), Bel w64 w65 → Under [n1, n2, n20] w65 → R (Ending.returned (Value.bool false)) w65) ∧
 ((!b62) = false →
 ∃ (a66 : Option Addr),
 ∃ (n67 : Nat),
 ∃ (n68 : Nat),
 Gives Proofs.Tryz.prog (Instr.sliceAt 94 (Value.pointer (some ad55)) none none none) (Value.slice a66 n67 n68) ∧
 ∀ (w69 : World),
 Bel w64 w69 →
 Under [n1, n2, n20] w69 →
 Calls Proofs.Tryz.prog 43 #[Value.slice a66 n67 n68] w69 fun (e70 : Ending) (w71 : World) =>
 ∃ (x72 : Int),
 e70 = Ending.returned (Value.int IntKind.i64 x72) ∧
 Keeps [n1, n2, n20] w69 w71 ∧
 (decide (x72 > b_1) = true → R (Ending.returned (Value.bool false)) w71) ∧
 (decide (x72 > b_1) = false →
 ∃ (x73 : Int),
 ∃ (x74 : Int),
 ∃ (x75 : Int),
 ∃ (x76 : Int),
 Reads Proofs.Tryz.prog [] (Instr.loadAt 94 (Value.pointer (some ad55))) w71
 (Value.agg
 #[Value.int IntKind.i64 x73, Value.int IntKind.i64 x74, Value.int IntKind.i64 x75,
 Value.int IntKind.i64 x76]) ∧
 ∀ (w77 : World),
 Evo [n2] w71 w77 →
 Under [n1, n2, n20] w77 →
 J3 (IntKind.i64.wrap (x6 + 1), x73, x74, x75, x76, ()) w77 ∧
 J4 (IntKind.i64.wrap (x6 + 1), x73, x74, x75, x76, ()) w77 <
 J4 (x6, x7, x8, x9, x10, ()) w11))) ∧
 ∀ (w78 : World),
 Evo [n20] w11 w78 →
 Under [n1, n2, n20] w78 →
 OpW Proofs.Tryz.prog (valueS (Instr.alloc 94 true (Value.tuple #[]))) w78 fun (v79 : Value) (w80 : World) =>
 ∃ (ad81 : Addr),
 v79 = Value.pointer (some ad81) ∧
 Keeps [n1, n2, n20] w78 w80 ∧
 Calls Proofs.Tryz.prog 42 #[Value.slice a14 n15 n16] w80 fun (e82 : Ending) (w83 : World) =>
 ∃ (x84 : Int),
 ∃ (x85 : Int),
 ∃ (x86 : Int),
 ∃ (x87 : Int),
 e82 = Ending.returned (Value.agg #[Value.int IntKind.i64 x84, Value.int IntKind.i64 x85, Value.int IntKind.i64 x86, Value.int IntKind.i64 x87]) ∧
 Keeps [n1, n2, n20] w80 w83 ∧
 Calls Proofs.Tryz.prog 41
 #[Value.agg #[Value.int IntKind.i64 x7, Value.int IntKind.i64 x8, Value.int IntKind.i64 x9, Value.int IntKind.i64 x10],
 Value.agg #[Value.int IntKind.i64 x84, Value.int IntKind.i64 x85, Value.int IntKind.i64 x86, Value.int IntKind.i64 x87]]
 w83 fun (e88 : Ending) (w89 : World) =>
 ∃ (x90 : Int),
 ∃ (x91 : Int),
 ∃ (x92 : Int),
 ∃ (x93 : Int),
 ∃ (b94 : Bool),
 e88 =
 Ending.returned
 (Value.tuple
 #[Value.agg #[Value.int IntKind.i64 x90, Value.int IntKind.i64 x91, Value.int IntKind.i64 x92, Value.int IntKind.i64 x93], Value.bool b94]) ∧
 Keeps [n1, n2, n20] w83 w89 ∧
 OpW Proofs.Tryz.prog
 (skipS
 (Instr.storeAt 94 (Value.pointer (some ad81))
 (Value.agg #[Value.int IntKind.i64 x90, Value.int IntKind.i64 x91, Value.int IntKind.i64 x92, Value.int IntKind.i64 x93])))
 w89 fun (v95 : Value) (w96 : World) =>
 Keeps [n1, n2, n20] w89 w96 ∧
 ((!b94) = true → ∀ (w97 : World), Bel w96 w97 → Under [n1, n2, n20] w97 → R (Ending.returned (Value.bool false)) w97) ∧
 ((!b94) = false →
 ∃ (a98 : Option Addr),
 ∃ (n99 : Nat),
 ∃ (n100 : Nat),
 Gives Proofs.Tryz.prog (Instr.sliceAt 94 (Value.pointer (some ad81)) none none none) (Value.slice a98 n99 n100) ∧
 ∀ (w101 : World),
 Bel w96 w101 →
 Under [n1, n2, n20] w101 →
 Calls Proofs.Tryz.prog 43 #[Value.slice a98 n99 n100] w101 fun (e102 : Ending) (w103 : World) =>
 ∃ (x104 : Int),
 e102 = Ending.returned (Value.int IntKind.i64 x104) ∧
 Keeps [n1, n2, n20] w101 w103 ∧
 (decide (x104 > b_1) = true → R (Ending.returned (Value.bool false)) w103) ∧
 (decide (x104 > b_1) = false →
 ∃ (x105 : Int),
 ∃ (x106 : Int),
 ∃ (x107 : Int),
 ∃ (x108 : Int),
 Reads Proofs.Tryz.prog [] (Instr.loadAt 94 (Value.pointer (some ad81))) w103
 (Value.agg
 #[Value.int IntKind.i64 x105, Value.int IntKind.i64 x106, Value.int IntKind.i64 x107,
 Value.int IntKind.i64 x108]) ∧
 ∀ (w109 : World),
 Evo [n2] w103 w109 →
 Under [n1, n2, n20] w109 →
 J3 (IntKind.i64.wrap (x6 + 1), x105, x106, x107, x108, ()) w109 ∧
 J4 (IntKind.i64.wrap (x6 + 1), x105, x106, x107, x108, ()) w109 <
 J4 (x6, x7, x8, x9, x10, ()) w11))) ∧
 (decide (x6 < (↑b_12n : Int)) = false → R (Ending.returned (Value.bool true)) w11)
theorem f12_eq (b_0 : Int) (b_1 : Int) (b_2 : Int) (b_3 : Int) (b_4 : Int) (b_5 : Int) (b_6 : Int) (b_7 : Int) (b_8 : Int) (b_9 : Int) (b_10 : Int) (b_11a : Option Addr) (b_11n : Nat) (b_11c : Nat) (b_12a : Option Addr) (b_12n : Nat) (b_12c : Nat) (b_13a : Option Addr) (b_13n : Nat) (b_13c : Nat) (b_14a : Option Addr) (b_14n : Nat) (b_14c : Nat) (b_15a : Option Addr) (b_15n : Nat) (b_15c : Nat) (w : World) (R : Ending → World → Prop) : (fnF Go.Proofs.Tryz.prog h12 Go.Proofs.Tryz.f12 [Value.agg
 #[Value.int IntKind.i64 b_0, Value.int IntKind.i64 b_1, Value.int IntKind.i64 b_2, Value.int IntKind.i64 b_3, Value.int IntKind.i64 b_4, Value.int IntKind.i64 b_5, Value.int IntKind.i64 b_6, Value.int IntKind.i64 b_7,
 Value.int IntKind.i64 b_8, Value.int IntKind.i64 b_9, Value.int IntKind.i64 b_10, Value.slice b_11a b_11n b_11c, Value.slice b_12a b_12n b_12c, Value.slice b_13a b_13n b_13c, Value.slice b_14a b_14n b_14c,
 Value.slice b_15a b_15n b_15c]] w R).den = f12_vc b_0 b_1 b_2 b_3 b_4 b_5 b_6 b_7 b_8 b_9 b_10 b_11a b_11n b_11c b_12a b_12n b_12c b_13a b_13n b_13c b_14a b_14n b_14c b_15a b_15n b_15c w R := by kernel_rfl
theorem f12_calls (b_0 : Int) (b_1 : Int) (b_2 : Int) (b_3 : Int) (b_4 : Int) (b_5 : Int) (b_6 : Int) (b_7 : Int) (b_8 : Int) (b_9 : Int) (b_10 : Int) (b_11a : Option Addr) (b_11n : Nat) (b_11c : Nat) (b_12a : Option Addr) (b_12n : Nat) (b_12c : Nat) (b_13a : Option Addr) (b_13n : Nat) (b_13c : Nat) (b_14a : Option Addr) (b_14n : Nat) (b_14c : Nat) (b_15a : Option Addr) (b_15n : Nat) (b_15c : Nat) (w : World) (R : Ending → World → Prop) (h : f12_vc b_0 b_1 b_2 b_3 b_4 b_5 b_6 b_7 b_8 b_9 b_10 b_11a b_11n b_11c b_12a b_12n b_12c b_13a b_13n b_13c b_14a b_14n b_14c b_15a b_15n b_15c w R) : Calls Go.Proofs.Tryz.prog 12 (List.toArray [Value.agg
 #[Value.int IntKind.i64 b_0, Value.int IntKind.i64 b_1, Value.int IntKind.i64 b_2, Value.int IntKind.i64 b_3, Value.int IntKind.i64 b_4, Value.int IntKind.i64 b_5, Value.int IntKind.i64 b_6, Value.int IntKind.i64 b_7,
 Value.int IntKind.i64 b_8, Value.int IntKind.i64 b_9, Value.int IntKind.i64 b_10, Value.slice b_11a b_11n b_11c, Value.slice b_12a b_12n b_12c, Value.slice b_13a b_13n b_13c, Value.slice b_14a b_14n b_14c,
 Value.slice b_15a b_15n b_15c]]) w R :=
 fn_sound (H := h12) (fn := Go.Proofs.Tryz.f12) (by kernel_rfl) (by kernel_rfl) (by kernel_rfl) ((f12_eq b_0 b_1 b_2 b_3 b_4 b_5 b_6 b_7 b_8 b_9 b_10 b_11a b_11n b_11c b_12a b_12n b_12c b_13a b_13n b_13c b_14a b_14n b_14c b_15a b_15n b_15c w R).mpr h)


/-! (manciple/book.look).offers -/
def h13 : Hints := ⟨[1, 4, 5], [15, 59], [13, 64, 97, 30, 35, 40, 48, 51, 71, 76, 79, 86], [(5, [0, 1, 2, 3, 4, 5, 6, 7, 8, 9, 10, 11, 12, 13, 14, 15, 16, 17, 18, 19, 20, 21, 22, 23, 24, 25, 26, 27, 28, 29, 30, 31, 32, 33, 34, 35, 36])], [], [(2, ⟨[(12, .int .i64)], []⟩)], [(6, ⟨[(64, .bool)], []⟩)], [], []⟩
def f13_vc (b_0 : Int) (b_1 : Int) (b_2 : Int) (b_3 : Int) (b_4 : Int) (b_5 : Int) (b_6 : Int) (b_7 : Int) (b_8 : Int) (b_9 : Int) (b_10 : Int) (b_11a : Option Addr) (b_11n : Nat) (b_11c : Nat) (b_12a : Option Addr) (b_12n : Nat) (b_12c : Nat) (b_13a : Option Addr) (b_13n : Nat) (b_13c : Nat) (b_14a : Option Addr) (b_14n : Nat) (b_14c : Nat) (b_15a : Option Addr) (b_15n : Nat) (b_15c : Nat) (w : World) (R : Ending → World → Prop) : Prop :=
 ∀ (n1 : Nat),
 w.heap.size ≤ n1 →
 ∃ (J2 : Int × Unit → World → Prop),
 ∃ (J3 : Int × Unit → World → Nat),
 (∀ (w4 : World), Bel w w4 → Under [n1] w4 → J2 (0, ()) w4) ∧
 ∀ (x5 : Int) (w6 : World),
 J2 (x5, ()) w6 →
 (decide (x5 < (↑b_13n : Int)) = true →
 ∃ (ad7 : Addr),
 Gives Proofs.Tryz.prog (Instr.indexAt 27 (Value.slice b_13a b_13n b_13c) (Value.int IntKind.i64 x5)) (Value.pointer (some ad7)) ∧
 ∃ (x8 : Int),
 ∃ (x9 : Int),
 ∃ (x10 : Int),
 ∃ (a11 : Option Addr),
 ∃ (n12 : Nat),
 ∃ (n13 : Nat),
 ∃ (x14 : Int),
 Reads Proofs.Tryz.prog [] (Instr.loadAt 47 (Value.pointer (some ad7))) w6
 (Value.agg #[Value.int IntKind.i64 x8, Value.int IntKind.i64 x9, Value.int IntKind.i64 x10, Value.slice a11 n12 n13, Value.int IntKind.i64 x14]) ∧
 ∀ (n15 : Nat),
 w6.heap.size ≤ n15 →
 ∀ (w16 : World),
 Evo [n15] w6 w16 →
 Under [n1, n15] w16 →
 Calls Proofs.Tryz.prog 44
 #[Value.agg
 #[Value.int IntKind.i64 b_0, Value.int IntKind.i64 b_1, Value.int IntKind.i64 b_2, Value.int IntKind.i64 b_3, Value.int IntKind.i64 b_4, Value.int IntKind.i64 b_5,
 Value.int IntKind.i64 b_6, Value.int IntKind.i64 b_7, Value.int IntKind.i64 b_8, Value.int IntKind.i64 b_9, Value.int IntKind.i64 b_10, Value.slice b_11a b_11n b_11c,
 Value.slice b_12a b_12n b_12c, Value.slice b_13a b_13n b_13c, Value.slice b_14a b_14n b_14c, Value.slice b_15a b_15n b_15c],
 Value.int IntKind.i64 x9, Value.int IntKind.i64 x10, Value.slice a11 n12 n13]
 w16 fun (e17 : Ending) (w18 : World) =>
 ∃ (x19 : Int),
 ∃ (x20 : Int),
 ∃ (x21 : Int),
 ∃ (b22 : Bool),
 ∃ (b23 : Bool),
 ∃ (x24 : Int),
 ∃ (x25 : Int),
 ∃ (b26 : Bool),
 e17 =
 Ending.returned
 (Value.tuple
 #[Value.agg
 #[Value.int IntKind.i64 x19, Value.int IntKind.i64 x20, Value.int IntKind.i64 x21, Value.bool b22, Value.bool b23, Value.int IntKind.i64 x24,
 Value.int IntKind.i64 x25],
 Value.bool b26]) ∧
 Keeps [n1, n15] w16 w18 ∧
 ∀ (n27 : Nat),
 w18.heap.size ≤ n27 →
 ∃ (J28 : Bool × Unit → World → Prop),
 (((!b26) = true → ∀ (w29 : World), Evo [n27] w18 w29 → Under [n1, n15, n27] w29 → J28 (true, ()) w29) ∧
 ((!b26) = false →
 ((!b22) = true → ∀ (w30 : World), Evo [n27] w18 w30 → Under [n1, n15, n27] w30 → J28 (true, ()) w30) ∧
 ((!b22) = false →
 (decide (x8 < 1) = true → ∀ (w31 : World), Evo [n27] w18 w31 → Under [n1, n15, n27] w31 → J28 (true, ()) w31) ∧
 (decide (x8 < 1) = false →
 (decide (x8 > b_10) = true → ∀ (w32 : World), Evo [n27] w18 w32 → Under [n1, n15, n27] w32 → J28 (true, ()) w32) ∧
 (decide (x8 > b_10) = false →
 (decide (x5 > 0) = true →
 ∃ (ad33 : Addr),
 Gives Proofs.Tryz.prog (Instr.indexAt 27 (Value.slice b_13a b_13n b_13c) (Value.int IntKind.i64 (IntKind.i64.wrap (x5 - 1))))
 (Value.pointer (some ad33)) ∧
 ∃ (x34 : Int),
 Reads Proofs.Tryz.prog [n27] (Instr.loadAt 2 (Value.pointer (some ad33))) w18 (Value.int IntKind.i64 x34) ∧
 ∀ (w35 : World), Evo [n27] w18 w35 → Under [n1, n15, n27] w35 → J28 (decide (x8 ≤ x34), ()) w35) ∧
 (decide (x5 > 0) = false → ∀ (w36 : World), Evo [n27] w18 w36 → Under [n1, n15, n27] w36 → J28 (false, ()) w36)))))) ∧
 ∀ (b37 : Bool) (w38 : World),
 J28 (b37, ()) w38 →
 (b37 = true → R (Ending.returned (Value.bool false)) w38) ∧
 (b37 = false →
 ((b_3 == 0) = true →
 ((x14 != 0) = true → R (Ending.returned (Value.bool false)) w38) ∧
 ((x14 != 0) = false →
 (decide (b_3 > 0) = true →
 (decide (x14 ≤ b_9) = true → R (Ending.returned (Value.bool false)) w38) ∧
 (decide (x14 ≤ b_9) = false →
 (decide (x14 > IntKind.i64.wrap (b_9 + b_3)) = true → R (Ending.returned (Value.bool false)) w38) ∧
 (decide (x14 > IntKind.i64.wrap (b_9 + b_3)) = false →
 J2 (IntKind.i64.wrap (x5 + 1), ()) w38 ∧ J3 (IntKind.i64.wrap (x5 + 1), ()) w38 < J3 (x5, ()) w6))) ∧
 (decide (b_3 > 0) = false → J2 (IntKind.i64.wrap (x5 + 1), ()) w38 ∧ J3 (IntKind.i64.wrap (x5 + 1), ()) w38 < J3 (x5, ()) w6))) ∧
 ((b_3 == 0) = false →
 (decide (b_3 > 0) = true →
 (decide (x14 ≤ b_9) = true → R (Ending.returned (Value.bool false)) w38) ∧
 (decide (x14 ≤ b_9) = false →
 (decide (x14 > IntKind.i64.wrap (b_9 + b_3)) = true → R (Ending.returned (Value.bool false)) w38) ∧
 (decide (x14 > IntKind.i64.wrap (b_9 + b_3)) = false →
 J2 (IntKind.i64.wrap (x5 + 1), ()) w38 ∧ J3 (IntKind.i64.wrap (x5 + 1), ()) w38 < J3 (x5, ()) w6))) ∧
 (decide (b_3 > 0) = false → J2 (IntKind.i64.wrap (x5 + 1), ()) w38 ∧ J3 (IntKind.i64.wrap (x5 + 1), ()) w38 < J3 (x5, ()) w6)))) ∧
 (decide (x5 < (↑b_13n : Int)) = false → R (Ending.returned (Value.bool true)) w6)
theorem f13_eq (b_0 : Int) (b_1 : Int) (b_2 : Int) (b_3 : Int) (b_4 : Int) (b_5 : Int) (b_6 : Int) (b_7 : Int) (b_8 : Int) (b_9 : Int) (b_10 : Int) (b_11a : Option Addr) (b_11n : Nat) (b_11c : Nat) (b_12a : Option Addr) (b_12n : Nat) (b_12c : Nat) (b_13a : Option Addr) (b_13n : Nat) (b_13c : Nat) (b_14a : Option Addr) (b_14n : Nat) (b_14c : Nat) (b_15a : Option Addr) (b_15n : Nat) (b_15c : Nat) (w : World) (R : Ending → World → Prop) : (fnF Go.Proofs.Tryz.prog h13 Go.Proofs.Tryz.f13 [Value.agg
 #[Value.int IntKind.i64 b_0, Value.int IntKind.i64 b_1, Value.int IntKind.i64 b_2, Value.int IntKind.i64 b_3, Value.int IntKind.i64 b_4, Value.int IntKind.i64 b_5, Value.int IntKind.i64 b_6, Value.int IntKind.i64 b_7,
 Value.int IntKind.i64 b_8, Value.int IntKind.i64 b_9, Value.int IntKind.i64 b_10, Value.slice b_11a b_11n b_11c, Value.slice b_12a b_12n b_12c, Value.slice b_13a b_13n b_13c, Value.slice b_14a b_14n b_14c,
 Value.slice b_15a b_15n b_15c]] w R).den = f13_vc b_0 b_1 b_2 b_3 b_4 b_5 b_6 b_7 b_8 b_9 b_10 b_11a b_11n b_11c b_12a b_12n b_12c b_13a b_13n b_13c b_14a b_14n b_14c b_15a b_15n b_15c w R := by kernel_rfl
theorem f13_calls (b_0 : Int) (b_1 : Int) (b_2 : Int) (b_3 : Int) (b_4 : Int) (b_5 : Int) (b_6 : Int) (b_7 : Int) (b_8 : Int) (b_9 : Int) (b_10 : Int) (b_11a : Option Addr) (b_11n : Nat) (b_11c : Nat) (b_12a : Option Addr) (b_12n : Nat) (b_12c : Nat) (b_13a : Option Addr) (b_13n : Nat) (b_13c : Nat) (b_14a : Option Addr) (b_14n : Nat) (b_14c : Nat) (b_15a : Option Addr) (b_15n : Nat) (b_15c : Nat) (w : World) (R : Ending → World → Prop) (h : f13_vc b_0 b_1 b_2 b_3 b_4 b_5 b_6 b_7 b_8 b_9 b_10 b_11a b_11n b_11c b_12a b_12n b_12c b_13a b_13n b_13c b_14a b_14n b_14c b_15a b_15n b_15c w R) : Calls Go.Proofs.Tryz.prog 13 (List.toArray [Value.agg
 #[Value.int IntKind.i64 b_0, Value.int IntKind.i64 b_1, Value.int IntKind.i64 b_2, Value.int IntKind.i64 b_3, Value.int IntKind.i64 b_4, Value.int IntKind.i64 b_5, Value.int IntKind.i64 b_6, Value.int IntKind.i64 b_7,
 Value.int IntKind.i64 b_8, Value.int IntKind.i64 b_9, Value.int IntKind.i64 b_10, Value.slice b_11a b_11n b_11c, Value.slice b_12a b_12n b_12c, Value.slice b_13a b_13n b_13c, Value.slice b_14a b_14n b_14c,
 Value.slice b_15a b_15n b_15c]]) w R :=
 fn_sound (H := h13) (fn := Go.Proofs.Tryz.f13) (by kernel_rfl) (by kernel_rfl) (by kernel_rfl) ((f13_eq b_0 b_1 b_2 b_3 b_4 b_5 b_6 b_7 b_8 b_9 b_10 b_11a b_11n b_11c b_12a b_12n b_12c b_13a b_13n b_13c b_14a b_14n b_14c b_15a b_15n b_15c w R).mpr h)


/-! (manciple/book.look).tasks -/
def h14 : Hints := ⟨[1, 4, 5], [14, 43, 54], [12, 34, 63, 29, 37], [(7, [0, 1, 2, 3, 4, 5, 6, 7, 8, 9, 10, 11, 12, 14, 15, 16, 17, 18, 19, 20, 21, 22, 23, 13, 24, 25, 26, 27, 28])], [], [(2, ⟨[(11, .int .i64)], []⟩)], [], [], []⟩
def f14_vc (b_0 : Int) (b_1 : Int) (b_2 : Int) (b_3 : Int) (b_4 : Int) (b_5 : Int) (b_6 : Int) (b_7 : Int) (b_8 : Int) (b_9 : Int) (b_10 : Int) (b_11a : Option Addr) (b_11n : Nat) (b_11c : Nat) (b_12a : Option Addr) (b_12n : Nat) (b_12c : Nat) (b_13a : Option Addr) (b_13n : Nat) (b_13c : Nat) (b_14a : Option Addr) (b_14n : Nat) (b_14c : Nat) (b_15a : Option Addr) (b_15n : Nat) (b_15c : Nat) (w : World) (R : Ending → World → Prop) : Prop :=
 ∀ (n1 : Nat),
 w.heap.size ≤ n1 →
 ∃ (J2 : Int × Unit → World → Prop),
 ∃ (J3 : Int × Unit → World → Nat),
 (∀ (w4 : World), Bel w w4 → Under [n1] w4 → J2 (0, ()) w4) ∧
 ∀ (x5 : Int) (w6 : World),
 J2 (x5, ()) w6 →
 (decide (x5 < (↑b_14n : Int)) = true →
 ∃ (ad7 : Addr),
 Gives Proofs.Tryz.prog (Instr.indexAt 28 (Value.slice b_14a b_14n b_14c) (Value.int IntKind.i64 x5)) (Value.pointer (some ad7)) ∧
 ∃ (x8 : Int),
 ∃ (x9 : Int),
 ∃ (x10 : Int),
 ∃ (a11 : Option Addr),
 ∃ (n12 : Nat),
 ∃ (n13 : Nat),
 Reads Proofs.Tryz.prog [] (Instr.loadAt 49 (Value.pointer (some ad7))) w6 (Value.agg #[Value.int IntKind.i64 x8, Value.int IntKind.i64 x9, Value.int IntKind.i64 x10, Value.slice a11 n12 n13]) ∧
 ∀ (n14 : Nat),
 w6.heap.size ≤ n14 →
 ∀ (w15 : World),
 Evo [n14] w6 w15 →
 Under [n1, n14] w15 →
 Calls Proofs.Tryz.prog 44
 #[Value.agg
 #[Value.int IntKind.i64 b_0, Value.int IntKind.i64 b_1, Value.int IntKind.i64 b_2, Value.int IntKind.i64 b_3, Value.int IntKind.i64 b_4, Value.int IntKind.i64 b_5,
 Value.int IntKind.i64 b_6, Value.int IntKind.i64 b_7, Value.int IntKind.i64 b_8, Value.int IntKind.i64 b_9, Value.int IntKind.i64 b_10, Value.slice b_11a b_11n b_11c,
 Value.slice b_12a b_12n b_12c, Value.slice b_13a b_13n b_13c, Value.slice b_14a b_14n b_14c, Value.slice b_15a b_15n b_15c],
 Value.int IntKind.i64 x8, Value.int IntKind.i64 x10, Value.slice a11 n12 n13]
 w15 fun (e16 : Ending) (w17 : World) =>
 ∃ (x18 : Int),
 ∃ (x19 : Int),
 ∃ (x20 : Int),
 ∃ (b21 : Bool),
 ∃ (b22 : Bool),
 ∃ (x23 : Int),
 ∃ (x24 : Int),
 ∃ (b25 : Bool),
 e16 =
 Ending.returned
 (Value.tuple
 #[Value.agg
 #[Value.int IntKind.i64 x18, Value.int IntKind.i64 x19, Value.int IntKind.i64 x20, Value.bool b21, Value.bool b22, Value.int IntKind.i64 x23,
 Value.int IntKind.i64 x24],
 Value.bool b25]) ∧
 Keeps [n1, n14] w15 w17 ∧
 ∀ (n26 : Nat),
 w17.heap.size ≤ n26 →
 ((!b25) = true → ∀ (w27 : World), Evo [n26] w17 w27 → Under [n1, n14, n26] w27 → R (Ending.returned (Value.bool false)) w27) ∧
 ((!b25) = false →
 ∀ (w28 : World),
 Evo [n26] w17 w28 →
 Under [n1, n14, n26] w28 →
 Calls Proofs.Tryz.prog 39 #[Value.int IntKind.i64 x9] w28 fun (e29 : Ending) (w30 : World) =>
 ∃ (b31 : Bool),
 e29 = Ending.returned (Value.bool b31) ∧
 Keeps [n1, n14, n26] w28 w30 ∧
 ((!b31) = true → R (Ending.returned (Value.bool false)) w30) ∧
 ((!b31) = false →
 (decide (x5 > 0) = true →
 ∃ (ad32 : Addr),
 Gives Proofs.Tryz.prog (Instr.indexAt 28 (Value.slice b_14a b_14n b_14c) (Value.int IntKind.i64 (IntKind.i64.wrap (x5 - 1))))
 (Value.pointer (some ad32)) ∧
 ∃ (x33 : Int),
 Reads Proofs.Tryz.prog [] (Instr.loadAt 2 (Value.pointer (some ad32))) w30 (Value.int IntKind.i64 x33) ∧
 ∃ (ad34 : Addr),
 Gives Proofs.Tryz.prog (Instr.indexAt 28 (Value.slice b_14a b_14n b_14c) (Value.int IntKind.i64 (IntKind.i64.wrap (x5 - 1))))
 (Value.pointer (some ad34)) ∧
 ∃ (x35 : Int),
 Reads Proofs.Tryz.prog [] (Instr.loadAt 2 (Value.pointer (some (Addr.mk ad34.block (ad34.off + 1) none)))) w30
 (Value.int IntKind.i64 x35) ∧
 ∀ (w36 : World),
 Bel w30 w36 →
 Under [n1, n14, n26] w36 →
 Calls Proofs.Tryz.prog 46 #[Value.int IntKind.i64 x33, Value.int IntKind.i64 x8] w36 fun (e37 : Ending) (w38 : World) =>
 ∃ (x39 : Int),
 e37 = Ending.returned (Value.int IntKind.i64 x39) ∧
 Keeps [n1, n14, n26] w36 w38 ∧
 Reads Proofs.Tryz.prog [] (Instr.loadAt 2 (Value.pointer (some (Addr.mk ad34.block (ad34.off + 1) none)))) w38
 (Value.int IntKind.i64 x35) ∧
 Calls Proofs.Tryz.prog 46 #[Value.int IntKind.i64 x35, Value.int IntKind.i64 x9] w38
 fun (e40 : Ending) (w41 : World) =>
 ∃ (x42 : Int),
 e40 = Ending.returned (Value.int IntKind.i64 x42) ∧
 Keeps [n1, n14, n26] w38 w41 ∧
 OpW Proofs.Tryz.prog
 (valueS (Instr.buildSlice 127 2 #[(0, Value.int IntKind.i64 x39), (1, Value.int IntKind.i64 x42)]))
 w41 fun (v43 : Value) (w44 : World) =>
 ∃ (a45 : Option Addr),
 ∃ (n46 : Nat),
 ∃ (n47 : Nat),
 v43 = Value.slice a45 n46 n47 ∧
 Keeps [n1, n14, n26] w41 w44 ∧
 Calls Proofs.Tryz.prog 45 #[Value.slice a45 n46 n47] w44
 fun (e48 : Ending) (w49 : World) =>
 ∃ (x50 : Int),
 e48 = Ending.returned (Value.int IntKind.i64 x50) ∧
 Keeps [n1, n14, n26] w44 w49 ∧
 (decide (x50 ≥ 0) = true → R (Ending.returned (Value.bool false)) w49) ∧
 (decide (x50 ≥ 0) = false →
 J2 (IntKind.i64.wrap (x5 + 1), ()) w49 ∧
 J3 (IntKind.i64.wrap (x5 + 1), ()) w49 < J3 (x5, ()) w6)) ∧
 (decide (x5 > 0) = false →
 ∀ (w51 : World),
 Bel w30 w51 →
 Under [n1, n14, n26] w51 → J2 (IntKind.i64.wrap (x5 + 1), ()) w51 ∧ J3 (IntKind.i64.wrap (x5 + 1), ()) w51 < J3 (x5, ()) w6)))) ∧
 (decide (x5 < (↑b_14n : Int)) = false → R (Ending.returned (Value.bool (decide ((↑b_14n : Int) ≤ b_4)))) w6)
theorem f14_eq (b_0 : Int) (b_1 : Int) (b_2 : Int) (b_3 : Int) (b_4 : Int) (b_5 : Int) (b_6 : Int) (b_7 : Int) (b_8 : Int) (b_9 : Int) (b_10 : Int) (b_11a : Option Addr) (b_11n : Nat) (b_11c : Nat) (b_12a : Option Addr) (b_12n : Nat) (b_12c : Nat) (b_13a : Option Addr) (b_13n : Nat) (b_13c : Nat) (b_14a : Option Addr) (b_14n : Nat) (b_14c : Nat) (b_15a : Option Addr) (b_15n : Nat) (b_15c : Nat) (w : World) (R : Ending → World → Prop) : (fnF Go.Proofs.Tryz.prog h14 Go.Proofs.Tryz.f14 [Value.agg
 #[Value.int IntKind.i64 b_0, Value.int IntKind.i64 b_1, Value.int IntKind.i64 b_2, Value.int IntKind.i64 b_3, Value.int IntKind.i64 b_4, Value.int IntKind.i64 b_5, Value.int IntKind.i64 b_6, Value.int IntKind.i64 b_7,
 Value.int IntKind.i64 b_8, Value.int IntKind.i64 b_9, Value.int IntKind.i64 b_10, Value.slice b_11a b_11n b_11c, Value.slice b_12a b_12n b_12c, Value.slice b_13a b_13n b_13c, Value.slice b_14a b_14n b_14c,
 Value.slice b_15a b_15n b_15c]] w R).den = f14_vc b_0 b_1 b_2 b_3 b_4 b_5 b_6 b_7 b_8 b_9 b_10 b_11a b_11n b_11c b_12a b_12n b_12c b_13a b_13n b_13c b_14a b_14n b_14c b_15a b_15n b_15c w R := by kernel_rfl
theorem f14_calls (b_0 : Int) (b_1 : Int) (b_2 : Int) (b_3 : Int) (b_4 : Int) (b_5 : Int) (b_6 : Int) (b_7 : Int) (b_8 : Int) (b_9 : Int) (b_10 : Int) (b_11a : Option Addr) (b_11n : Nat) (b_11c : Nat) (b_12a : Option Addr) (b_12n : Nat) (b_12c : Nat) (b_13a : Option Addr) (b_13n : Nat) (b_13c : Nat) (b_14a : Option Addr) (b_14n : Nat) (b_14c : Nat) (b_15a : Option Addr) (b_15n : Nat) (b_15c : Nat) (w : World) (R : Ending → World → Prop) (h : f14_vc b_0 b_1 b_2 b_3 b_4 b_5 b_6 b_7 b_8 b_9 b_10 b_11a b_11n b_11c b_12a b_12n b_12c b_13a b_13n b_13c b_14a b_14n b_14c b_15a b_15n b_15c w R) : Calls Go.Proofs.Tryz.prog 14 (List.toArray [Value.agg
 #[Value.int IntKind.i64 b_0, Value.int IntKind.i64 b_1, Value.int IntKind.i64 b_2, Value.int IntKind.i64 b_3, Value.int IntKind.i64 b_4, Value.int IntKind.i64 b_5, Value.int IntKind.i64 b_6, Value.int IntKind.i64 b_7,
 Value.int IntKind.i64 b_8, Value.int IntKind.i64 b_9, Value.int IntKind.i64 b_10, Value.slice b_11a b_11n b_11c, Value.slice b_12a b_12n b_12c, Value.slice b_13a b_13n b_13c, Value.slice b_14a b_14n b_14c,
 Value.slice b_15a b_15n b_15c]]) w R :=
 fn_sound (H := h14) (fn := Go.Proofs.Tryz.f14) (by kernel_rfl) (by kernel_rfl) (by kernel_rfl) ((f14_eq b_0 b_1 b_2 b_3 b_4 b_5 b_6 b_7 b_8 b_9 b_10 b_11a b_11n b_11c b_12a b_12n b_12c b_13a b_13n b_13c b_14a b_14n b_14c b_15a b_15n b_15c w R).mpr h)


/-! (manciple/book.look).filters -/
def h15 : Hints := ⟨[1, 4], [12, 61], [10, 52, 66, 20, 28, 34, 40, 48, 55], [(6, [0, 1, 2, 3, 4, 5, 6, 7, 8, 9, 10, 11, 12, 13])], [], [(2, ⟨[(9, .int .i64)], []⟩)], [], [], []⟩
def f15_vc (b_0 : Int) (b_1 : Int) (b_2 : Int) (b_3 : Int) (b_4 : Int) (b_5 : Int) (b_6 : Int) (b_7 : Int) (b_8 : Int) (b_9 : Int) (b_10 : Int) (b_11a : Option Addr) (b_11n : Nat) (b_11c : Nat) (b_12a : Option Addr) (b_12n : Nat) (b_12c : Nat) (b_13a : Option Addr) (b_13n : Nat) (b_13c : Nat) (b_14a : Option Addr) (b_14n : Nat) (b_14c : Nat) (b_15a : Option Addr) (b_15n : Nat) (b_15c : Nat) (w : World) (R : Ending → World → Prop) : Prop :=
 ∀ (n1 : Nat),
 w.heap.size ≤ n1 →
 ∃ (J2 : Int × Unit → World → Prop),
 ∃ (J3 : Int × Unit → World → Nat),
 (∀ (w4 : World), Bel w w4 → Under [n1] w4 → J2 (0, ()) w4) ∧
 ∀ (x5 : Int) (w6 : World),
 J2 (x5, ()) w6 →
 (decide (x5 < (↑b_15n : Int)) = true →
 ∃ (ad7 : Addr),
 Gives Proofs.Tryz.prog (Instr.indexAt 29 (Value.slice b_15a b_15n b_15c) (Value.int IntKind.i64 x5)) (Value.pointer (some ad7)) ∧
 ∃ (x8 : Int),
 ∃ (x9 : Int),
 ∃ (x10 : Int),
 ∃ (a11 : Option Addr),
 ∃ (n12 : Nat),
 ∃ (n13 : Nat),
 Reads Proofs.Tryz.prog [] (Instr.loadAt 51 (Value.pointer (some ad7))) w6 (Value.agg #[Value.int IntKind.i64 x8, Value.int IntKind.i64 x9, Value.int IntKind.i64 x10, Value.slice a11 n12 n13]) ∧
 ∀ (n14 : Nat),
 w6.heap.size ≤ n14 →
 ∀ (w15 : World),
 Evo [n14] w6 w15 →
 Under [n1, n14] w15 →
 Calls Proofs.Tryz.prog 47
 #[Value.agg
 #[Value.int IntKind.i64 b_0, Value.int IntKind.i64 b_1, Value.int IntKind.i64 b_2, Value.int IntKind.i64 b_3, Value.int IntKind.i64 b_4, Value.int IntKind.i64 b_5,
 Value.int IntKind.i64 b_6, Value.int IntKind.i64 b_7, Value.int IntKind.i64 b_8, Value.int IntKind.i64 b_9, Value.int IntKind.i64 b_10, Value.slice b_11a b_11n b_11c,
 Value.slice b_12a b_12n b_12c, Value.slice b_13a b_13n b_13c, Value.slice b_14a b_14n b_14c, Value.slice b_15a b_15n b_15c],
 Value.int IntKind.i64 x8]
 w15 fun (e16 : Ending) (w17 : World) =>
 ∃ (x18 : Int),
 e16 = Ending.returned (Value.int IntKind.i64 x18) ∧
 Keeps [n1, n14] w15 w17 ∧
 (decide (x18 < 0) = true → R (Ending.returned (Value.bool false)) w17) ∧
 (decide (x18 < 0) = false →
 Calls Proofs.Tryz.prog 48
 #[Value.agg
 #[Value.int IntKind.i64 b_0, Value.int IntKind.i64 b_1, Value.int IntKind.i64 b_2, Value.int IntKind.i64 b_3, Value.int IntKind.i64 b_4, Value.int IntKind.i64 b_5,
 Value.int IntKind.i64 b_6, Value.int IntKind.i64 b_7, Value.int IntKind.i64 b_8, Value.int IntKind.i64 b_9, Value.int IntKind.i64 b_10, Value.slice b_11a b_11n b_11c,
 Value.slice b_12a b_12n b_12c, Value.slice b_13a b_13n b_13c, Value.slice b_14a b_14n b_14c, Value.slice b_15a b_15n b_15c],
 Value.int IntKind.i64 x9]
 w17 fun (e19 : Ending) (w20 : World) =>
 ∃ (x21 : Int),
 e19 = Ending.returned (Value.int IntKind.i64 x21) ∧
 Keeps [n1, n14] w17 w20 ∧
 (decide (x21 < 0) = true → R (Ending.returned (Value.bool false)) w20) ∧
 (decide (x21 < 0) = false →
 (((↑n12 : Int) == 0) = true → R (Ending.returned (Value.bool false)) w20) ∧
 (((↑n12 : Int) == 0) = false →
 Calls Proofs.Tryz.prog 40 #[Value.slice a11 n12 n13] w20 fun (e22 : Ending) (w23 : World) =>
 ∃ (b24 : Bool),
 e22 = Ending.returned (Value.bool b24) ∧
 Keeps [n1, n14] w20 w23 ∧
 ((!b24) = true → R (Ending.returned (Value.bool false)) w23) ∧
 ((!b24) = false →
 (decide (x10 ≤ b_9) = true → R (Ending.returned (Value.bool false)) w23) ∧
 (decide (x10 ≤ b_9) = false →
 (decide (x10 > 18014398509481984) = true → R (Ending.returned (Value.bool false)) w23) ∧
 (decide (x10 > 18014398509481984) = false →
 (decide (x5 > 0) = true →
 ∃ (ad25 : Addr),
 Gives Proofs.Tryz.prog (Instr.indexAt 29 (Value.slice b_15a b_15n b_15c) (Value.int IntKind.i64 (IntKind.i64.wrap (x5 - 1))))
 (Value.pointer (some ad25)) ∧
 ∃ (x26 : Int),
 ∃ (x27 : Int),
 ∃ (x28 : Int),
 ∃ (a29 : Option Addr),
 ∃ (n30 : Nat),
 ∃ (n31 : Nat),
 Reads Proofs.Tryz.prog [] (Instr.loadAt 51 (Value.pointer (some ad25))) w23
 (Value.agg #[Value.int IntKind.i64 x26, Value.int IntKind.i64 x27, Value.int IntKind.i64 x28, Value.slice a29 n30 n31]) ∧
 ∀ (w32 : World),
 Bel w23 w32 →
 Under [n1, n14] w32 →
 Calls Proofs.Tryz.prog 32
 #[Value.agg
 #[Value.int IntKind.i64 x26, Value.int IntKind.i64 x27, Value.int IntKind.i64 x28, Value.slice a29 n30 n31],
 Value.agg
 #[Value.int IntKind.i64 x8, Value.int IntKind.i64 x9, Value.int IntKind.i64 x10, Value.slice a11 n12 n13]]
 w32 fun (e33 : Ending) (w34 : World) =>
 ∃ (x35 : Int),
 e33 = Ending.returned (Value.int IntKind.i64 x35) ∧
 Keeps [n1, n14] w32 w34 ∧
 (decide (x35 ≥ 0) = true → R (Ending.returned (Value.bool false)) w34) ∧
 (decide (x35 ≥ 0) = false →
 J2 (IntKind.i64.wrap (x5 + 1), ()) w34 ∧ J3 (IntKind.i64.wrap (x5 + 1), ()) w34 < J3 (x5, ()) w6)) ∧
 (decide (x5 > 0) = false →
 ∀ (w36 : World),
 Bel w23 w36 →
 Under [n1, n14] w36 → J2 (IntKind.i64.wrap (x5 + 1), ()) w36 ∧ J3 (IntKind.i64.wrap (x5 + 1), ()) w36 < J3 (x5, ()) w6)))))))) ∧
 (decide (x5 < (↑b_15n : Int)) = false → R (Ending.returned (Value.bool (decide ((↑b_15n : Int) ≤ b_4)))) w6)
theorem f15_eq (b_0 : Int) (b_1 : Int) (b_2 : Int) (b_3 : Int) (b_4 : Int) (b_5 : Int) (b_6 : Int) (b_7 : Int) (b_8 : Int) (b_9 : Int) (b_10 : Int) (b_11a : Option Addr) (b_11n : Nat) (b_11c : Nat) (b_12a : Option Addr) (b_12n : Nat) (b_12c : Nat) (b_13a : Option Addr) (b_13n : Nat) (b_13c : Nat) (b_14a : Option Addr) (b_14n : Nat) (b_14c : Nat) (b_15a : Option Addr) (b_15n : Nat) (b_15c : Nat) (w : World) (R : Ending → World → Prop) : (fnF Go.Proofs.Tryz.prog h15 Go.Proofs.Tryz.f15 [Value.agg
 #[Value.int IntKind.i64 b_0, Value.int IntKind.i64 b_1, Value.int IntKind.i64 b_2, Value.int IntKind.i64 b_3, Value.int IntKind.i64 b_4, Value.int IntKind.i64 b_5, Value.int IntKind.i64 b_6, Value.int IntKind.i64 b_7,
 Value.int IntKind.i64 b_8, Value.int IntKind.i64 b_9, Value.int IntKind.i64 b_10, Value.slice b_11a b_11n b_11c, Value.slice b_12a b_12n b_12c, Value.slice b_13a b_13n b_13c, Value.slice b_14a b_14n b_14c,
 Value.slice b_15a b_15n b_15c]] w R).den = f15_vc b_0 b_1 b_2 b_3 b_4 b_5 b_6 b_7 b_8 b_9 b_10 b_11a b_11n b_11c b_12a b_12n b_12c b_13a b_13n b_13c b_14a b_14n b_14c b_15a b_15n b_15c w R := by kernel_rfl
theorem f15_calls (b_0 : Int) (b_1 : Int) (b_2 : Int) (b_3 : Int) (b_4 : Int) (b_5 : Int) (b_6 : Int) (b_7 : Int) (b_8 : Int) (b_9 : Int) (b_10 : Int) (b_11a : Option Addr) (b_11n : Nat) (b_11c : Nat) (b_12a : Option Addr) (b_12n : Nat) (b_12c : Nat) (b_13a : Option Addr) (b_13n : Nat) (b_13c : Nat) (b_14a : Option Addr) (b_14n : Nat) (b_14c : Nat) (b_15a : Option Addr) (b_15n : Nat) (b_15c : Nat) (w : World) (R : Ending → World → Prop) (h : f15_vc b_0 b_1 b_2 b_3 b_4 b_5 b_6 b_7 b_8 b_9 b_10 b_11a b_11n b_11c b_12a b_12n b_12c b_13a b_13n b_13c b_14a b_14n b_14c b_15a b_15n b_15c w R) : Calls Go.Proofs.Tryz.prog 15 (List.toArray [Value.agg
 #[Value.int IntKind.i64 b_0, Value.int IntKind.i64 b_1, Value.int IntKind.i64 b_2, Value.int IntKind.i64 b_3, Value.int IntKind.i64 b_4, Value.int IntKind.i64 b_5, Value.int IntKind.i64 b_6, Value.int IntKind.i64 b_7,
 Value.int IntKind.i64 b_8, Value.int IntKind.i64 b_9, Value.int IntKind.i64 b_10, Value.slice b_11a b_11n b_11c, Value.slice b_12a b_12n b_12c, Value.slice b_13a b_13n b_13c, Value.slice b_14a b_14n b_14c,
 Value.slice b_15a b_15n b_15c]]) w R :=
 fn_sound (H := h15) (fn := Go.Proofs.Tryz.f15) (by kernel_rfl) (by kernel_rfl) (by kernel_rfl) ((f15_eq b_0 b_1 b_2 b_3 b_4 b_5 b_6 b_7 b_8 b_9 b_10 b_11a b_11n b_11c b_12a b_12n b_12c b_13a b_13n b_13c b_14a b_14n b_14c b_15a b_15n b_15c w R).mpr h)


/-! (manciple/book.look).ledger -/
def h16 : Hints := ⟨[1, 7, 9, 11], [20, 27, 35, 42, 50, 57], [19, 34, 49, 60], [], [], [(5, ⟨[(18, .int .i64)], []⟩), (10, ⟨[(33, .int .i64)], []⟩), (15, ⟨[(48, .int .i64)], []⟩)], [], [], []⟩
def f16_vc (b_0 : Int) (b_1 : Int) (b_2 : Int) (b_3 : Int) (b_4 : Int) (b_5 : Int) (b_6 : Int) (b_7 : Int) (b_8 : Int) (b_9 : Int) (b_10 : Int) (b_11a : Option Addr) (b_11n : Nat) (b_11c : Nat) (b_12a : Option Addr) (b_12n : Nat) (b_12c : Nat) (b_13a : Option Addr) (b_13n : Nat) (b_13c : Nat) (b_14a : Option Addr) (b_14n : Nat) (b_14c : Nat) (b_15a : Option Addr) (b_15n : Nat) (b_15c : Nat) (w : World) (R : Ending → World → Prop) : Prop :=
 ∀ (n1 : Nat),
 w.heap.size ≤ n1 →
 ∀ (w2 : World),
 Bel w w2 →
 Under [n1] w2 →
 OpW Proofs.Tryz.prog (valueS (Instr.makeMap 105 none)) w2 fun (v3 : Value) (w4 : World) =>
 ∃ (r5 : Option Nat),
 v3 = Value.map r5 ∧
 Keeps [n1] w2 w4 ∧
 OpW Proofs.Tryz.prog (valueS (Instr.alloc 105 true (Value.tuple #[]))) w4 fun (v6 : Value) (w7 : World) =>
 ∃ (ad8 : Addr),
 v6 = Value.pointer (some ad8) ∧
 Keeps [n1] w4 w7 ∧
 OpW Proofs.Tryz.prog (skipS (Instr.storeAt 105 (Value.pointer (some ad8)) (Value.map r5))) w7 fun (v9 : Value) (w10 : World) =>
 Keeps [n1] w7 w10 ∧
 OpW Proofs.Tryz.prog (valueS (Instr.alloc 4 true (Value.tuple #[]))) w10 fun (v11 : Value) (w12 : World) =>
 ∃ (ad13 : Addr),
 v11 = Value.pointer (some ad13) ∧
 Keeps [n1] w10 w12 ∧
 OpW Proofs.Tryz.prog (skipS (Instr.storeAt 4 (Value.pointer (some ad13)) (Value.bool true))) w12 fun (v14 : Value) (w15 : World) =>
 Keeps [n1] w12 w15 ∧
 ∃ (J16 : Int × Unit → World → Prop),
 ∃ (J17 : Int × Unit → World → Nat),
 J16 (0, ()) w15 ∧
 ∀ (x18 : Int) (w19 : World),
 J16 (x18, ()) w19 →
 (decide (x18 < (↑b_12n : Int)) = true →
 ∃ (ad20 : Addr),
 Gives Proofs.Tryz.prog (Instr.indexAt 26 (Value.slice b_12a b_12n b_12c) (Value.int IntKind.i64 x18)) (Value.pointer (some ad20)) ∧
 ∃ (x21 : Int),
 ∃ (a22 : Option Addr),
 ∃ (n23 : Nat),
 ∃ (n24 : Nat),
 ∃ (a25 : Option Addr),
 ∃ (n26 : Nat),
 ∃ (n27 : Nat),
 Reads Proofs.Tryz.prog [] (Instr.loadAt 45 (Value.pointer (some ad20))) w19
 (Value.agg #[Value.int IntKind.i64 x21, Value.slice a22 n23 n24, Value.slice a25 n26 n27]) ∧
 ∀ (n28 : Nat),
 w19.heap.size ≤ n28 →
 ∀ (w29 : World),
 Evo [n28] w19 w29 →
 Under [n1, n28] w29 →
 OpW Proofs.Tryz.prog
 (invokeS (Value.func (Fn.func 49) #[] #[Value.pointer (some ad8), Value.pointer (some ad13)]) #[Value.int IntKind.i64 x21, Value.slice a25 n26 n27]) w29
 fun (v30 : Value) (w31 : World) =>
 v30 = Value.tuple #[] ∧
 Keeps [n1, n28] w29 w31 ∧ J16 (IntKind.i64.wrap (x18 + 1), ()) w31 ∧ J17 (IntKind.i64.wrap (x18 + 1), ()) w31 < J17 (x18, ()) w19) ∧
 (decide (x18 < (↑b_12n : Int)) = false →
 ∃ (J32 : Int × Unit → World → Prop),
 ∃ (J33 : Int × Unit → World → Nat),
 J32 (0, ()) w19 ∧
 ∀ (x34 : Int) (w35 : World),
 J32 (x34, ()) w35 →
 (decide (x34 < (↑b_13n : Int)) = true →
 ∃ (ad36 : Addr),
 Gives Proofs.Tryz.prog (Instr.indexAt 27 (Value.slice b_13a b_13n b_13c) (Value.int IntKind.i64 x34)) (Value.pointer (some ad36)) ∧
 ∃ (x37 : Int),
 ∃ (x38 : Int),
 ∃ (x39 : Int),
 ∃ (a40 : Option Addr),
 ∃ (n41 : Nat),
 ∃ (n42 : Nat),
 ∃ (x43 : Int),
 Reads Proofs.Tryz.prog [] (Instr.loadAt 47 (Value.pointer (some ad36))) w35
 (Value.agg #[Value.int IntKind.i64 x37, Value.int IntKind.i64 x38, Value.int IntKind.i64 x39, Value.slice a40 n41 n42, Value.int IntKind.i64 x43]) ∧
 ∀ (n44 : Nat),
 w35.heap.size ≤ n44 →
 ∀ (w45 : World),
 Evo [n44] w35 w45 →
 Under [n1, n44] w45 →
 OpW Proofs.Tryz.prog
 (invokeS (Value.func (Fn.func 49) #[] #[Value.pointer (some ad8), Value.pointer (some ad13)])
 #[Value.int IntKind.i64 x39, Value.slice a40 n41 n42])
 w45 fun (v46 : Value) (w47 : World) =>
 v46 = Value.tuple #[] ∧
 Keeps [n1, n44] w45 w47 ∧ J32 (IntKind.i64.wrap (x34 + 1), ()) w47 ∧ J33 (IntKind.i64.wrap (x34 + 1), ()) w47 < J33 (x34, ()) w35) ∧
 (decide (x34 < (↑b_13n : Int)) = false →
 ∃ (J48 : Int × Unit → World → Prop),
 ∃ (J49 : Int × Unit → World → Nat),
 J48 (0, ()) w35 ∧
 ∀ (x50 : Int) (w51 : World),
 J48 (x50, ()) w51 →
 (decide (x50 < (↑b_14n : Int)) = true →
 ∃ (ad52 : Addr),
 Gives Proofs.Tryz.prog (Instr.indexAt 28 (Value.slice b_14a b_14n b_14c) (Value.int IntKind.i64 x50)) (Value.pointer (some ad52)) ∧
 ∃ (x53 : Int),
 ∃ (x54 : Int),
 ∃ (x55 : Int),
 ∃ (a56 : Option Addr),
 ∃ (n57 : Nat),
 ∃ (n58 : Nat),
 Reads Proofs.Tryz.prog [] (Instr.loadAt 49 (Value.pointer (some ad52))) w51
 (Value.agg #[Value.int IntKind.i64 x53, Value.int IntKind.i64 x54, Value.int IntKind.i64 x55, Value.slice a56 n57 n58]) ∧
 ∀ (n59 : Nat),
 w51.heap.size ≤ n59 →
 ∀ (w60 : World),
 Evo [n59] w51 w60 →
 Under [n1, n59] w60 →
 OpW Proofs.Tryz.prog
 (invokeS (Value.func (Fn.func 49) #[] #[Value.pointer (some ad8), Value.pointer (some ad13)])
 #[Value.int IntKind.i64 x55, Value.slice a56 n57 n58])
 w60 fun (v61 : Value) (w62 : World) =>
 v61 = Value.tuple #[] ∧
 Keeps [n1, n59] w60 w62 ∧
 J48 (IntKind.i64.wrap (x50 + 1), ()) w62 ∧ J49 (IntKind.i64.wrap (x50 + 1), ()) w62 < J49 (x50, ()) w51) ∧
 (decide (x50 < (↑b_14n : Int)) = false →
 ∃ (b63 : Bool),
 Reads Proofs.Tryz.prog [] (Instr.loadAt 4 (Value.pointer (some ad13))) w51 (Value.bool b63) ∧
 (b63 = true →
 Calls Proofs.Tryz.prog 51 #[Value.slice b_12a b_12n b_12c, Value.func (Fn.func 52) #[] #[Value.pointer (some ad8)]] w51
 fun (e64 : Ending) (w65 : World) =>
 ∃ (b66 : Bool), e64 = Ending.returned (Value.bool b66) ∧ Keeps [n1] w51 w65 ∧ R (Ending.returned (Value.bool !b66)) w65) ∧
 (b63 = false → R (Ending.returned (Value.bool false)) w51))))
theorem f16_eq (b_0 : Int) (b_1 : Int) (b_2 : Int) (b_3 : Int) (b_4 : Int) (b_5 : Int) (b_6 : Int) (b_7 : Int) (b_8 : Int) (b_9 : Int) (b_10 : Int) (b_11a : Option Addr) (b_11n : Nat) (b_11c : Nat) (b_12a : Option Addr) (b_12n : Nat) (b_12c : Nat) (b_13a : Option Addr) (b_13n : Nat) (b_13c : Nat) (b_14a : Option Addr) (b_14n : Nat) (b_14c : Nat) (b_15a : Option Addr) (b_15n : Nat) (b_15c : Nat) (w : World) (R : Ending → World → Prop) : (fnF Go.Proofs.Tryz.prog h16 Go.Proofs.Tryz.f16 [Value.agg
 #[Value.int IntKind.i64 b_0, Value.int IntKind.i64 b_1, Value.int IntKind.i64 b_2, Value.int IntKind.i64 b_3, Value.int IntKind.i64 b_4, Value.int IntKind.i64 b_5, Value.int IntKind.i64 b_6, Value.int IntKind.i64 b_7,
 Value.int IntKind.i64 b_8, Value.int IntKind.i64 b_9, Value.int IntKind.i64 b_10, Value.slice b_11a b_11n b_11c, Value.slice b_12a b_12n b_12c, Value.slice b_13a b_13n b_13c, Value.slice b_14a b_14n b_14c,
 Value.slice b_15a b_15n b_15c]] w R).den = f16_vc b_0 b_1 b_2 b_3 b_4 b_5 b_6 b_7 b_8 b_9 b_10 b_11a b_11n b_11c b_12a b_12n b_12c b_13a b_13n b_13c b_14a b_14n b_14c b_15a b_15n b_15c w R := by kernel_rfl
theorem f16_calls (b_0 : Int) (b_1 : Int) (b_2 : Int) (b_3 : Int) (b_4 : Int) (b_5 : Int) (b_6 : Int) (b_7 : Int) (b_8 : Int) (b_9 : Int) (b_10 : Int) (b_11a : Option Addr) (b_11n : Nat) (b_11c : Nat) (b_12a : Option Addr) (b_12n : Nat) (b_12c : Nat) (b_13a : Option Addr) (b_13n : Nat) (b_13c : Nat) (b_14a : Option Addr) (b_14n : Nat) (b_14c : Nat) (b_15a : Option Addr) (b_15n : Nat) (b_15c : Nat) (w : World) (R : Ending → World → Prop) (h : f16_vc b_0 b_1 b_2 b_3 b_4 b_5 b_6 b_7 b_8 b_9 b_10 b_11a b_11n b_11c b_12a b_12n b_12c b_13a b_13n b_13c b_14a b_14n b_14c b_15a b_15n b_15c w R) : Calls Go.Proofs.Tryz.prog 16 (List.toArray [Value.agg
 #[Value.int IntKind.i64 b_0, Value.int IntKind.i64 b_1, Value.int IntKind.i64 b_2, Value.int IntKind.i64 b_3, Value.int IntKind.i64 b_4, Value.int IntKind.i64 b_5, Value.int IntKind.i64 b_6, Value.int IntKind.i64 b_7,
 Value.int IntKind.i64 b_8, Value.int IntKind.i64 b_9, Value.int IntKind.i64 b_10, Value.slice b_11a b_11n b_11c, Value.slice b_12a b_12n b_12c, Value.slice b_13a b_13n b_13c, Value.slice b_14a b_14n b_14c,
 Value.slice b_15a b_15n b_15c]]) w R :=
 fn_sound (H := h16) (fn := Go.Proofs.Tryz.f16) (by kernel_rfl) (by kernel_rfl) (by kernel_rfl) ((f16_eq b_0 b_1 b_2 b_3 b_4 b_5 b_6 b_7 b_8 b_9 b_10 b_11a b_11n b_11c b_12a b_12n b_12c b_13a b_13n b_13c b_14a b_14n b_14c b_15a b_15n b_15c w R).mpr h)


/-! manciple/book.ahead -/
def h32 : Hints := ⟨[2, 3], [], [], [(1, [0, 1, 2, 3, 5, 6, 7, 8, 10, 11, 12, 13, 15, 16, 17, 18, 4, 9, 14, 19, 20, 21, 22])], [], [], [], [], []⟩
def f32_vc (x_0 : Int) (x_1 : Int) (x_2 : Int) (x_3a : Option Addr) (x_3n : Nat) (x_3c : Nat) (y_0 : Int) (y_1 : Int) (y_2 : Int) (y_3a : Option Addr) (y_3n : Nat) (y_3c : Nat) (w : World) (R : Ending → World → Prop) : Prop :=
 ∀ (n1 : Nat),
 w.heap.size ≤ n1 →
 ∀ (n2 : Nat),
 w.heap.size ≤ n2 →
 ∀ (w3 : World),
 Bel w w3 →
 Under [n1, n2] w3 →
 Calls Proofs.Tryz.prog 46 #[Value.int IntKind.i64 x_0, Value.int IntKind.i64 y_0] w3 fun (e4 : Ending) (w5 : World) =>
 ∃ (x6 : Int),
 e4 = Ending.returned (Value.int IntKind.i64 x6) ∧
 Keeps [n1, n2] w3 w5 ∧
 Calls Proofs.Tryz.prog 46 #[Value.int IntKind.i64 x_1, Value.int IntKind.i64 y_1] w5 fun (e7 : Ending) (w8 : World) =>
 ∃ (x9 : Int),
 e7 = Ending.returned (Value.int IntKind.i64 x9) ∧
 Keeps [n1, n2] w5 w8 ∧
 Calls Proofs.Tryz.prog 46 #[Value.int IntKind.i64 x_2, Value.int IntKind.i64 y_2] w8 fun (e10 : Ending) (w11 : World) =>
 ∃ (x12 : Int),
 e10 = Ending.returned (Value.int IntKind.i64 x12) ∧
 Keeps [n1, n2] w8 w11 ∧
 Calls Proofs.Tryz.prog 62 #[Value.slice x_3a x_3n x_3c, Value.slice y_3a y_3n y_3c] w11 fun (e13 : Ending) (w14 : World) =>
 ∃ (x15 : Int),
 e13 = Ending.returned (Value.int IntKind.i64 x15) ∧
 Keeps [n1, n2] w11 w14 ∧
 OpW Proofs.Tryz.prog (valueS (Instr.buildSlice 127 4 #[(0, Value.int IntKind.i64 x6), (1, Value.int IntKind.i64 x9), (2, Value.int IntKind.i64 x12), (3, Value.int IntKind.i64 x15)])) w14
 fun (v16 : Value) (w17 : World) =>
 ∃ (a18 : Option Addr),
 ∃ (n19 : Nat),
 ∃ (n20 : Nat),
 v16 = Value.slice a18 n19 n20 ∧
 Keeps [n1, n2] w14 w17 ∧
 Calls Proofs.Tryz.prog 45 #[Value.slice a18 n19 n20] w17 fun (e21 : Ending) (w22 : World) =>
 ∃ (x23 : Int), e21 = Ending.returned (Value.int IntKind.i64 x23) ∧ Keeps [n1, n2] w17 w22 ∧ R (Ending.returned (Value.int IntKind.i64 x23)) w22
theorem f32_eq (x_0 : Int) (x_1 : Int) (x_2 : Int) (x_3a : Option Addr) (x_3n : Nat) (x_3c : Nat) (y_0 : Int) (y_1 : Int) (y_2 : Int) (y_3a : Option Addr) (y_3n : Nat) (y_3c : Nat) (w : World) (R : Ending → World → Prop) : (fnF Go.Proofs.Tryz.prog h32 Go.Proofs.Tryz.f32 [Value.agg #[Value.int IntKind.i64 x_0, Value.int IntKind.i64 x_1, Value.int IntKind.i64 x_2, Value.slice x_3a x_3n x_3c],
 Value.agg #[Value.int IntKind.i64 y_0, Value.int IntKind.i64 y_1, Value.int IntKind.i64 y_2, Value.slice y_3a y_3n y_3c]] w R).den = f32_vc x_0 x_1 x_2 x_3a x_3n x_3c y_0 y_1 y_2 y_3a y_3n y_3c w R := by kernel_rfl
theorem f32_calls (x_0 : Int) (x_1 : Int) (x_2 : Int) (x_3a : Option Addr) (x_3n : Nat) (x_3c : Nat) (y_0 : Int) (y_1 : Int) (y_2 : Int) (y_3a : Option Addr) (y_3n : Nat) (y_3c : Nat) (w : World) (R : Ending → World → Prop) (h : f32_vc x_0 x_1 x_2 x_3a x_3n x_3c y_0 y_1 y_2 y_3a y_3n y_3c w R) : Calls Go.Proofs.Tryz.prog 32 (List.toArray [Value.agg #[Value.int IntKind.i64 x_0, Value.int IntKind.i64 x_1, Value.int IntKind.i64 x_2, Value.slice x_3a x_3n x_3c],
 Value.agg #[Value.int IntKind.i64 y_0, Value.int IntKind.i64 y_1, Value.int IntKind.i64 y_2, Value.slice y_3a y_3n y_3c]]) w R :=
 fn_sound (H := h32) (fn := Go.Proofs.Tryz.f32) (by kernel_rfl) (by kernel_rfl) (by kernel_rfl) ((f32_eq x_0 x_1 x_2 x_3a x_3n x_3c y_0 y_1 y_2 y_3a y_3n y_3c w R).mpr h)


/-! manciple/conf.Check -/
def h38 : Hints := ⟨[1], [9], [8, 12, 41, 18, 24, 30, 36], [], [], [(2, ⟨[(7, .int .i64)], []⟩)], [], [], []⟩
def f38_vc (c_0 : Int) (c_1 : Int) (c_2 : Int) (c_3 : Int) (c_4 : Int) (c_5 : Int) (c_6 : Int) (c_7 : Int) (c_8 : Int) (w : World) (R : Ending → World → Prop) : Prop :=
 ∀ (n1 : Nat),
 w.heap.size ≤ n1 →
 ∃ (J2 : Int × Unit → World → Prop),
 ∃ (J3 : Int × Unit → World → Nat),
 (∀ (w4 : World), Bel w w4 → Under [n1] w4 → J2 (0, ()) w4) ∧
 ∀ (x5 : Int) (w6 : World),
 J2 (x5, ()) w6 →
 (decide (x5 < 4) = true →
 ∃ (x7 : Int),
 Gives Proofs.Tryz.prog (Instr.index 22 (Value.agg #[Value.int IntKind.i64 c_5, Value.int IntKind.i64 c_6, Value.int IntKind.i64 c_7, Value.int IntKind.i64 c_8]) (Value.int IntKind.i64 x5)) (Value.int IntKind.i64 x7) ∧
 Calls Proofs.Tryz.prog 63 #[Value.int IntKind.i64 x7, Value.int IntKind.i64 0, Value.int IntKind.i64 9007199254740992] w6 fun (e8 : Ending) (w9 : World) =>
 ∃ (b10 : Bool),
 e8 = Ending.returned (Value.bool b10) ∧
 Keeps [n1] w6 w9 ∧ ((!b10) = true → R (Ending.returned (Value.int IntKind.i64 41)) w9) ∧ ((!b10) = false → J2 (IntKind.i64.wrap (x5 + 1), ()) w9 ∧ J3 (IntKind.i64.wrap (x5 + 1), ()) w9 < J3 (x5, ()) w6)) ∧
 (decide (x5 < 4) = false →
 Calls Proofs.Tryz.prog 63 #[Value.int IntKind.i64 c_0, Value.int IntKind.i64 0, Value.int IntKind.i64 9007199254740992] w6 fun (e11 : Ending) (w12 : World) =>
 ∃ (b13 : Bool),
 e11 = Ending.returned (Value.bool b13) ∧
 Keeps [n1] w6 w12 ∧
 ((!b13) = true → R (Ending.returned (Value.int IntKind.i64 41)) w12) ∧
 ((!b13) = false →
 Calls Proofs.Tryz.prog 63 #[Value.int IntKind.i64 c_1, Value.int IntKind.i64 1, Value.int IntKind.i64 9007199254740992] w12 fun (e14 : Ending) (w15 : World) =>
 ∃ (b16 : Bool),
 e14 = Ending.returned (Value.bool b16) ∧
 Keeps [n1] w12 w15 ∧
 ((!b16) = true → R (Ending.returned (Value.int IntKind.i64 41)) w15) ∧
 ((!b16) = false →
 Calls Proofs.Tryz.prog 63 #[Value.int IntKind.i64 c_2, Value.int IntKind.i64 0, Value.int IntKind.i64 9007199254740992] w15 fun (e17 : Ending) (w18 : World) =>
 ∃ (b19 : Bool),
 e17 = Ending.returned (Value.bool b19) ∧
 Keeps [n1] w15 w18 ∧
 ((!b19) = true → R (Ending.returned (Value.int IntKind.i64 41)) w18) ∧
 ((!b19) = false →
 Calls Proofs.Tryz.prog 63 #[Value.int IntKind.i64 c_3, Value.int IntKind.i64 0, Value.int IntKind.i64 9007199254740992] w18 fun (e20 : Ending) (w21 : World) =>
 ∃ (b22 : Bool),
 e20 = Ending.returned (Value.bool b22) ∧
 Keeps [n1] w18 w21 ∧
 ((!b22) = true → R (Ending.returned (Value.int IntKind.i64 41)) w21) ∧
 ((!b22) = false →
 Calls Proofs.Tryz.prog 63 #[Value.int IntKind.i64 c_4, Value.int IntKind.i64 1, Value.int IntKind.i64 4096] w21 fun (e23 : Ending) (w24 : World) =>
 ∃ (b25 : Bool),
 e23 = Ending.returned (Value.bool b25) ∧
 Keeps [n1] w21 w24 ∧ ((!b25) = true → R (Ending.returned (Value.int IntKind.i64 41)) w24) ∧ ((!b25) = false → R (Ending.returned (Value.int IntKind.i64 0)) w24))))))
theorem f38_eq (c_0 : Int) (c_1 : Int) (c_2 : Int) (c_3 : Int) (c_4 : Int) (c_5 : Int) (c_6 : Int) (c_7 : Int) (c_8 : Int) (w : World) (R : Ending → World → Prop) : (fnF Go.Proofs.Tryz.prog h38 Go.Proofs.Tryz.f38 [Value.agg
 #[Value.int IntKind.i64 c_0, Value.int IntKind.i64 c_1, Value.int IntKind.i64 c_2, Value.int IntKind.i64 c_3, Value.int IntKind.i64 c_4, Value.int IntKind.i64 c_5, Value.int IntKind.i64 c_6, Value.int IntKind.i64 c_7,
 Value.int IntKind.i64 c_8]] w R).den = f38_vc c_0 c_1 c_2 c_3 c_4 c_5 c_6 c_7 c_8 w R := by kernel_rfl
theorem f38_calls (c_0 : Int) (c_1 : Int) (c_2 : Int) (c_3 : Int) (c_4 : Int) (c_5 : Int) (c_6 : Int) (c_7 : Int) (c_8 : Int) (w : World) (R : Ending → World → Prop) (h : f38_vc c_0 c_1 c_2 c_3 c_4 c_5 c_6 c_7 c_8 w R) : Calls Go.Proofs.Tryz.prog 38 (List.toArray [Value.agg
 #[Value.int IntKind.i64 c_0, Value.int IntKind.i64 c_1, Value.int IntKind.i64 c_2, Value.int IntKind.i64 c_3, Value.int IntKind.i64 c_4, Value.int IntKind.i64 c_5, Value.int IntKind.i64 c_6, Value.int IntKind.i64 c_7,
 Value.int IntKind.i64 c_8]]) w R :=
 fn_sound (H := h38) (fn := Go.Proofs.Tryz.f38) (by kernel_rfl) (by kernel_rfl) (by kernel_rfl) ((f38_eq c_0 c_1 c_2 c_3 c_4 c_5 c_6 c_7 c_8 w R).mpr h)


/-! manciple/book.number -/
def h39 : Hints := ⟨[], [], [5], [], [], [], [], [], []⟩
def f39_vc (n : Int) (w : World) (R : Ending → World → Prop) : Prop :=
 (decide (n ≥ 1) = true → R (Ending.returned (Value.bool (decide (n ≤ 9007199254740992)))) w) ∧ (decide (n ≥ 1) = false → R (Ending.returned (Value.bool false)) w)
theorem f39_eq (n : Int) (w : World) (R : Ending → World → Prop) : (fnF Go.Proofs.Tryz.prog h39 Go.Proofs.Tryz.f39 [Value.int IntKind.i64 n] w R).den = f39_vc n w R := by kernel_rfl
theorem f39_calls (n : Int) (w : World) (R : Ending → World → Prop) (h : f39_vc n w R) : Calls Go.Proofs.Tryz.prog 39 (List.toArray [Value.int IntKind.i64 n]) w R :=
 fn_sound (H := h39) (fn := Go.Proofs.Tryz.f39) (by kernel_rfl) (by kernel_rfl) (by kernel_rfl) ((f39_eq n w R).mpr h)


/-! (manciple/book.look).held -/
def h44 : Hints := ⟨[4, 8, 11], [40], [34, 18, 25, 30], [(5, [0, 1, 2, 3, 7, 8, 4, 5, 6, 9, 10, 11])], [], [], [], [], []⟩
def f44_vc (b_0 : Int) (b_1 : Int) (b_2 : Int) (b_3 : Int) (b_4 : Int) (b_5 : Int) (b_6 : Int) (b_7 : Int) (b_8 : Int) (b_9 : Int) (b_10 : Int) (b_11a : Option Addr) (b_11n : Nat) (b_11c : Nat) (b_12a : Option Addr) (b_12n : Nat) (b_12c : Nat) (b_13a : Option Addr) (b_13n : Nat) (b_13c : Nat) (b_14a : Option Addr) (b_14n : Nat) (b_14c : Nat) (b_15a : Option Addr) (b_15n : Nat) (b_15c : Nat) (frame : Int) (agent : Int) (va : Option Addr) (vn : Nat) (vc : Nat) (w : World) (R : Ending → World → Prop) : Prop :=
 ∀ (n1 : Nat),
 w.heap.size ≤ n1 →
 ∀ (n2 : Nat),
 w.heap.size ≤ n2 →
 ∀ (w3 : World),
 Bel w w3 →
 Under [n1, n2] w3 →
 Calls Proofs.Tryz.prog 47
 #[Value.agg
 #[Value.int IntKind.i64 b_0, Value.int IntKind.i64 b_1, Value.int IntKind.i64 b_2, Value.int IntKind.i64 b_3, Value.int IntKind.i64 b_4, Value.int IntKind.i64 b_5, Value.int IntKind.i64 b_6, Value.int IntKind.i64 b_7,
 Value.int IntKind.i64 b_8, Value.int IntKind.i64 b_9, Value.int IntKind.i64 b_10, Value.slice b_11a b_11n b_11c, Value.slice b_12a b_12n b_12c, Value.slice b_13a b_13n b_13c, Value.slice b_14a b_14n b_14c,
 Value.slice b_15a b_15n b_15c],
 Value.int IntKind.i64 frame]
 w3 fun (e4 : Ending) (w5 : World) =>
 ∃ (x6 : Int),
 e4 = Ending.returned (Value.int IntKind.i64 x6) ∧
 Keeps [n1, n2] w3 w5 ∧
 (decide (x6 < 0) = true →
 ∀ (w7 : World),
 Evo [n2] w5 w7 →
 Under [n1, n2] w7 →
 R
 (Ending.returned
 (Value.tuple
 #[Value.agg #[Value.int IntKind.i64 0, Value.int IntKind.i64 0, Value.int IntKind.i64 0, Value.bool false, Value.bool false, Value.int IntKind.i64 0, Value.int IntKind.i64 0], Value.bool false]))
 w7) ∧
 (decide (x6 < 0) = false →
 Calls Proofs.Tryz.prog 48
 #[Value.agg
 #[Value.int IntKind.i64 b_0, Value.int IntKind.i64 b_1, Value.int IntKind.i64 b_2, Value.int IntKind.i64 b_3, Value.int IntKind.i64 b_4, Value.int IntKind.i64 b_5, Value.int IntKind.i64 b_6,
 Value.int IntKind.i64 b_7, Value.int IntKind.i64 b_8, Value.int IntKind.i64 b_9, Value.int IntKind.i64 b_10, Value.slice b_11a b_11n b_11c, Value.slice b_12a b_12n b_12c, Value.slice b_13a b_13n b_13c,
 Value.slice b_14a b_14n b_14c, Value.slice b_15a b_15n b_15c],
 Value.int IntKind.i64 agent]
 w5 fun (e8 : Ending) (w9 : World) =>
 ∃ (x10 : Int),
 e8 = Ending.returned (Value.int IntKind.i64 x10) ∧
 Keeps [n1, n2] w5 w9 ∧
 (decide (x10 < 0) = true →
 ∀ (w11 : World),
 Evo [n2] w9 w11 →
 Under [n1, n2] w11 →
 R
 (Ending.returned
 (Value.tuple
 #[Value.agg #[Value.int IntKind.i64 0, Value.int IntKind.i64 0, Value.int IntKind.i64 0, Value.bool false, Value.bool false, Value.int IntKind.i64 0, Value.int IntKind.i64 0],
 Value.bool false]))
 w11) ∧
 (decide (x10 < 0) = false →
 (((↑vn : Int) == 0) = true →
 ∀ (w12 : World),
 Evo [n2] w9 w12 →
 Under [n1, n2] w12 →
 R
 (Ending.returned
 (Value.tuple
 #[Value.agg #[Value.int IntKind.i64 0, Value.int IntKind.i64 0, Value.int IntKind.i64 0, Value.bool false, Value.bool false, Value.int IntKind.i64 0, Value.int IntKind.i64 0],
 Value.bool false]))
 w12) ∧
 (((↑vn : Int) == 0) = false →
 Calls Proofs.Tryz.prog 40 #[Value.slice va vn vc] w9 fun (e13 : Ending) (w14 : World) =>
 ∃ (b15 : Bool),
 e13 = Ending.returned (Value.bool b15) ∧
 Keeps [n1, n2] w9 w14 ∧
 ((!b15) = true →
 ∀ (w16 : World),
 Evo [n2] w14 w16 →
 Under [n1, n2] w16 →
 R
 (Ending.returned
 (Value.tuple
 #[Value.agg
 #[Value.int IntKind.i64 0, Value.int IntKind.i64 0, Value.int IntKind.i64 0, Value.bool false, Value.bool false, Value.int IntKind.i64 0, Value.int IntKind.i64 0],
 Value.bool false]))
 w16) ∧
 ((!b15) = false →
 ∃ (ad17 : Addr),
 Gives Proofs.Tryz.prog (Instr.indexAt 25 (Value.slice b_11a b_11n b_11c) (Value.int IntKind.i64 x6)) (Value.pointer (some ad17)) ∧
 ∃ (x18 : Int),
 ∃ (x19 : Int),
 ∃ (x20 : Int),
 ∃ (b21 : Bool),
 ∃ (b22 : Bool),
 ∃ (x23 : Int),
 ∃ (x24 : Int),
 Reads Proofs.Tryz.prog [] (Instr.loadAt 37 (Value.pointer (some ad17))) w14
 (Value.agg
 #[Value.int IntKind.i64 x18, Value.int IntKind.i64 x19, Value.int IntKind.i64 x20, Value.bool b21, Value.bool b22, Value.int IntKind.i64 x23,
 Value.int IntKind.i64 x24]) ∧
 ∀ (n25 : Nat),
 w14.heap.size ≤ n25 →
 ∀ (w26 : World),
 Evo [n25] w14 w26 →
 Under [n1, n2, n25] w26 →
 OpW Proofs.Tryz.prog (valueS (Instr.buildSlice 127 2 #[(0, Value.int IntKind.i64 0), (1, Value.int IntKind.i64 x19)])) w26
 fun (v27 : Value) (w28 : World) =>
 ∃ (a29 : Option Addr),
 ∃ (n30 : Nat),
 ∃ (n31 : Nat),
 v27 = Value.slice a29 n30 n31 ∧
 Keeps [n1, n2, n25] w26 w28 ∧
 Calls Proofs.Tryz.prog 69 #[Value.slice va vn vc, Value.slice a29 n30 n31] w28 fun (e32 : Ending) (w33 : World) =>
 ∃ (a34 : Option Addr),
 ∃ (n35 : Nat),
 ∃ (n36 : Nat),
 e32 = Ending.returned (Value.slice a34 n35 n36) ∧
 Keeps [n1, n2, n25] w28 w33 ∧
 ∀ (w37 : World),
 Evo [n2] w33 w37 →
 Under [n1, n2, n25] w37 →
 R
 (Ending.returned
 (Value.tuple
 #[Value.agg
 #[Value.int IntKind.i64 x18, Value.int IntKind.i64 x19, Value.int IntKind.i64 x20, Value.bool b21, Value.bool b22,
 Value.int IntKind.i64 x23, Value.int IntKind.i64 x24],
 Value.bool ((↑n35 : Int) == (↑vn : Int))]))
 w37))))
theorem f44_eq (b_0 : Int) (b_1 : Int) (b_2 : Int) (b_3 : Int) (b_4 : Int) (b_5 : Int) (b_6 : Int) (b_7 : Int) (b_8 : Int) (b_9 : Int) (b_10 : Int) (b_11a : Option Addr) (b_11n : Nat) (b_11c : Nat) (b_12a : Option Addr) (b_12n : Nat) (b_12c : Nat) (b_13a : Option Addr) (b_13n : Nat) (b_13c : Nat) (b_14a : Option Addr) (b_14n : Nat) (b_14c : Nat) (b_15a : Option Addr) (b_15n : Nat) (b_15c : Nat) (frame : Int) (agent : Int) (va : Option Addr) (vn : Nat) (vc : Nat) (w : World) (R : Ending → World → Prop) : (fnF Go.Proofs.Tryz.prog h44 Go.Proofs.Tryz.f44 [Value.agg
 #[Value.int IntKind.i64 b_0, Value.int IntKind.i64 b_1, Value.int IntKind.i64 b_2, Value.int IntKind.i64 b_3, Value.int IntKind.i64 b_4, Value.int IntKind.i64 b_5, Value.int IntKind.i64 b_6, Value.int IntKind.i64 b_7,
 Value.int IntKind.i64 b_8, Value.int IntKind.i64 b_9, Value.int IntKind.i64 b_10, Value.slice b_11a b_11n b_11c, Value.slice b_12a b_12n b_12c, Value.slice b_13a b_13n b_13c, Value.slice b_14a b_14n b_14c,
 Value.slice b_15a b_15n b_15c],
 Value.int IntKind.i64 frame, Value.int IntKind.i64 agent, Value.slice va vn vc] w R).den = f44_vc b_0 b_1 b_2 b_3 b_4 b_5 b_6 b_7 b_8 b_9 b_10 b_11a b_11n b_11c b_12a b_12n b_12c b_13a b_13n b_13c b_14a b_14n b_14c b_15a b_15n b_15c frame agent va vn vc w R := by kernel_rfl
theorem f44_calls (b_0 : Int) (b_1 : Int) (b_2 : Int) (b_3 : Int) (b_4 : Int) (b_5 : Int) (b_6 : Int) (b_7 : Int) (b_8 : Int) (b_9 : Int) (b_10 : Int) (b_11a : Option Addr) (b_11n : Nat) (b_11c : Nat) (b_12a : Option Addr) (b_12n : Nat) (b_12c : Nat) (b_13a : Option Addr) (b_13n : Nat) (b_13c : Nat) (b_14a : Option Addr) (b_14n : Nat) (b_14c : Nat) (b_15a : Option Addr) (b_15n : Nat) (b_15c : Nat) (frame : Int) (agent : Int) (va : Option Addr) (vn : Nat) (vc : Nat) (w : World) (R : Ending → World → Prop) (h : f44_vc b_0 b_1 b_2 b_3 b_4 b_5 b_6 b_7 b_8 b_9 b_10 b_11a b_11n b_11c b_12a b_12n b_12c b_13a b_13n b_13c b_14a b_14n b_14c b_15a b_15n b_15c frame agent va vn vc w R) : Calls Go.Proofs.Tryz.prog 44 (List.toArray [Value.agg
 #[Value.int IntKind.i64 b_0, Value.int IntKind.i64 b_1, Value.int IntKind.i64 b_2, Value.int IntKind.i64 b_3, Value.int IntKind.i64 b_4, Value.int IntKind.i64 b_5, Value.int IntKind.i64 b_6, Value.int IntKind.i64 b_7,
 Value.int IntKind.i64 b_8, Value.int IntKind.i64 b_9, Value.int IntKind.i64 b_10, Value.slice b_11a b_11n b_11c, Value.slice b_12a b_12n b_12c, Value.slice b_13a b_13n b_13c, Value.slice b_14a b_14n b_14c,
 Value.slice b_15a b_15n b_15c],
 Value.int IntKind.i64 frame, Value.int IntKind.i64 agent, Value.slice va vn vc]) w R :=
 fn_sound (H := h44) (fn := Go.Proofs.Tryz.f44) (by kernel_rfl) (by kernel_rfl) (by kernel_rfl) ((f44_eq b_0 b_1 b_2 b_3 b_4 b_5 b_6 b_7 b_8 b_9 b_10 b_11a b_11n b_11c b_12a b_12n b_12c b_13a b_13n b_13c b_14a b_14n b_14c b_15a b_15n b_15c frame agent va vn vc w R).mpr h)


/-! manciple/book.Frame -/
def h47 : Hints := ⟨[2], [], [], [], [], [], [], [], []⟩
def f47_vc (b_0 : Int) (b_1 : Int) (b_2 : Int) (b_3 : Int) (b_4 : Int) (b_5 : Int) (b_6 : Int) (b_7 : Int) (b_8 : Int) (b_9 : Int) (b_10 : Int) (b_11a : Option Addr) (b_11n : Nat) (b_11c : Nat) (b_12a : Option Addr) (b_12n : Nat) (b_12c : Nat) (b_13a : Option Addr) (b_13n : Nat) (b_13c : Nat) (b_14a : Option Addr) (b_14n : Nat) (b_14c : Nat) (b_15a : Option Addr) (b_15n : Nat) (b_15c : Nat) (id : Int) (w : World) (R : Ending → World → Prop) : Prop :=
 ∀ (n1 : Nat),
 w.heap.size ≤ n1 →
 ∀ (w2 : World),
 Bel w w2 →
 Under [n1] w2 →
 OpW Proofs.Tryz.prog (valueS (Instr.box 2 (Value.int IntKind.i64 id))) w2 fun (v3 : Value) (w4 : World) =>
 ∃ (ad5 : Addr),
 v3 = Value.pointer (some ad5) ∧
 Keeps [n1] w2 w4 ∧
 Calls Proofs.Tryz.prog 71 #[Value.slice b_11a b_11n b_11c, Value.func (Fn.func 72) #[] #[Value.pointer (some ad5)]] w4 fun (e6 : Ending) (w7 : World) =>
 ∃ (x8 : Int), e6 = Ending.returned (Value.int IntKind.i64 x8) ∧ Keeps [n1] w4 w7 ∧ R (Ending.returned (Value.int IntKind.i64 x8)) w7
theorem f47_eq (b_0 : Int) (b_1 : Int) (b_2 : Int) (b_3 : Int) (b_4 : Int) (b_5 : Int) (b_6 : Int) (b_7 : Int) (b_8 : Int) (b_9 : Int) (b_10 : Int) (b_11a : Option Addr) (b_11n : Nat) (b_11c : Nat) (b_12a : Option Addr) (b_12n : Nat) (b_12c : Nat) (b_13a : Option Addr) (b_13n : Nat) (b_13c : Nat) (b_14a : Option Addr) (b_14n : Nat) (b_14c : Nat) (b_15a : Option Addr) (b_15n : Nat) (b_15c : Nat) (id : Int) (w : World) (R : Ending → World → Prop) : (fnF Go.Proofs.Tryz.prog h47 Go.Proofs.Tryz.f47 [Value.agg
 #[Value.int IntKind.i64 b_0, Value.int IntKind.i64 b_1, Value.int IntKind.i64 b_2, Value.int IntKind.i64 b_3, Value.int IntKind.i64 b_4, Value.int IntKind.i64 b_5, Value.int IntKind.i64 b_6, Value.int IntKind.i64 b_7,
 Value.int IntKind.i64 b_8, Value.int IntKind.i64 b_9, Value.int IntKind.i64 b_10, Value.slice b_11a b_11n b_11c, Value.slice b_12a b_12n b_12c, Value.slice b_13a b_13n b_13c, Value.slice b_14a b_14n b_14c,
 Value.slice b_15a b_15n b_15c],
 Value.int IntKind.i64 id] w R).den = f47_vc b_0 b_1 b_2 b_3 b_4 b_5 b_6 b_7 b_8 b_9 b_10 b_11a b_11n b_11c b_12a b_12n b_12c b_13a b_13n b_13c b_14a b_14n b_14c b_15a b_15n b_15c id w R := by kernel_rfl
theorem f47_calls (b_0 : Int) (b_1 : Int) (b_2 : Int) (b_3 : Int) (b_4 : Int) (b_5 : Int) (b_6 : Int) (b_7 : Int) (b_8 : Int) (b_9 : Int) (b_10 : Int) (b_11a : Option Addr) (b_11n : Nat) (b_11c : Nat) (b_12a : Option Addr) (b_12n : Nat) (b_12c : Nat) (b_13a : Option Addr) (b_13n : Nat) (b_13c : Nat) (b_14a : Option Addr) (b_14n : Nat) (b_14c : Nat) (b_15a : Option Addr) (b_15n : Nat) (b_15c : Nat) (id : Int) (w : World) (R : Ending → World → Prop) (h : f47_vc b_0 b_1 b_2 b_3 b_4 b_5 b_6 b_7 b_8 b_9 b_10 b_11a b_11n b_11c b_12a b_12n b_12c b_13a b_13n b_13c b_14a b_14n b_14c b_15a b_15n b_15c id w R) : Calls Go.Proofs.Tryz.prog 47 (List.toArray [Value.agg
 #[Value.int IntKind.i64 b_0, Value.int IntKind.i64 b_1, Value.int IntKind.i64 b_2, Value.int IntKind.i64 b_3, Value.int IntKind.i64 b_4, Value.int IntKind.i64 b_5, Value.int IntKind.i64 b_6, Value.int IntKind.i64 b_7,
 Value.int IntKind.i64 b_8, Value.int IntKind.i64 b_9, Value.int IntKind.i64 b_10, Value.slice b_11a b_11n b_11c, Value.slice b_12a b_12n b_12c, Value.slice b_13a b_13n b_13c, Value.slice b_14a b_14n b_14c,
 Value.slice b_15a b_15n b_15c],
 Value.int IntKind.i64 id]) w R :=
 fn_sound (H := h47) (fn := Go.Proofs.Tryz.f47) (by kernel_rfl) (by kernel_rfl) (by kernel_rfl) ((f47_eq b_0 b_1 b_2 b_3 b_4 b_5 b_6 b_7 b_8 b_9 b_10 b_11a b_11n b_11c b_12a b_12n b_12c b_13a b_13n b_13c b_14a b_14n b_14c b_15a b_15n b_15c id w R).mpr h)


/-! manciple/book.Agent -/
def h48 : Hints := ⟨[2], [], [], [], [], [], [], [], []⟩
def f48_vc (b_0 : Int) (b_1 : Int) (b_2 : Int) (b_3 : Int) (b_4 : Int) (b_5 : Int) (b_6 : Int) (b_7 : Int) (b_8 : Int) (b_9 : Int) (b_10 : Int) (b_11a : Option Addr) (b_11n : Nat) (b_11c : Nat) (b_12a : Option Addr) (b_12n : Nat) (b_12c : Nat) (b_13a : Option Addr) (b_13n : Nat) (b_13c : Nat) (b_14a : Option Addr) (b_14n : Nat) (b_14c : Nat) (b_15a : Option Addr) (b_15n : Nat) (b_15c : Nat) (id : Int) (w : World) (R : Ending → World → Prop) : Prop :=
 ∀ (n1 : Nat),
 w.heap.size ≤ n1 →
 ∀ (w2 : World),
 Bel w w2 →
 Under [n1] w2 →
 OpW Proofs.Tryz.prog (valueS (Instr.box 2 (Value.int IntKind.i64 id))) w2 fun (v3 : Value) (w4 : World) =>
 ∃ (ad5 : Addr),
 v3 = Value.pointer (some ad5) ∧
 Keeps [n1] w2 w4 ∧
 Calls Proofs.Tryz.prog 73 #[Value.slice b_12a b_12n b_12c, Value.func (Fn.func 74) #[] #[Value.pointer (some ad5)]] w4 fun (e6 : Ending) (w7 : World) =>
 ∃ (x8 : Int), e6 = Ending.returned (Value.int IntKind.i64 x8) ∧ Keeps [n1] w4 w7 ∧ R (Ending.returned (Value.int IntKind.i64 x8)) w7
theorem f48_eq (b_0 : Int) (b_1 : Int) (b_2 : Int) (b_3 : Int) (b_4 : Int) (b_5 : Int) (b_6 : Int) (b_7 : Int) (b_8 : Int) (b_9 : Int) (b_10 : Int) (b_11a : Option Addr) (b_11n : Nat) (b_11c : Nat) (b_12a : Option Addr) (b_12n : Nat) (b_12c : Nat) (b_13a : Option Addr) (b_13n : Nat) (b_13c : Nat) (b_14a : Option Addr) (b_14n : Nat) (b_14c : Nat) (b_15a : Option Addr) (b_15n : Nat) (b_15c : Nat) (id : Int) (w : World) (R : Ending → World → Prop) : (fnF Go.Proofs.Tryz.prog h48 Go.Proofs.Tryz.f48 [Value.agg
 #[Value.int IntKind.i64 b_0, Value.int IntKind.i64 b_1, Value.int IntKind.i64 b_2, Value.int IntKind.i64 b_3, Value.int IntKind.i64 b_4, Value.int IntKind.i64 b_5, Value.int IntKind.i64 b_6, Value.int IntKind.i64 b_7,
 Value.int IntKind.i64 b_8, Value.int IntKind.i64 b_9, Value.int IntKind.i64 b_10, Value.slice b_11a b_11n b_11c, Value.slice b_12a b_12n b_12c, Value.slice b_13a b_13n b_13c, Value.slice b_14a b_14n b_14c,
 Value.slice b_15a b_15n b_15c],
 Value.int IntKind.i64 id] w R).den = f48_vc b_0 b_1 b_2 b_3 b_4 b_5 b_6 b_7 b_8 b_9 b_10 b_11a b_11n b_11c b_12a b_12n b_12c b_13a b_13n b_13c b_14a b_14n b_14c b_15a b_15n b_15c id w R := by kernel_rfl
theorem f48_calls (b_0 : Int) (b_1 : Int) (b_2 : Int) (b_3 : Int) (b_4 : Int) (b_5 : Int) (b_6 : Int) (b_7 : Int) (b_8 : Int) (b_9 : Int) (b_10 : Int) (b_11a : Option Addr) (b_11n : Nat) (b_11c : Nat) (b_12a : Option Addr) (b_12n : Nat) (b_12c : Nat) (b_13a : Option Addr) (b_13n : Nat) (b_13c : Nat) (b_14a : Option Addr) (b_14n : Nat) (b_14c : Nat) (b_15a : Option Addr) (b_15n : Nat) (b_15c : Nat) (id : Int) (w : World) (R : Ending → World → Prop) (h : f48_vc b_0 b_1 b_2 b_3 b_4 b_5 b_6 b_7 b_8 b_9 b_10 b_11a b_11n b_11c b_12a b_12n b_12c b_13a b_13n b_13c b_14a b_14n b_14c b_15a b_15n b_15c id w R) : Calls Go.Proofs.Tryz.prog 48 (List.toArray [Value.agg
 #[Value.int IntKind.i64 b_0, Value.int IntKind.i64 b_1, Value.int IntKind.i64 b_2, Value.int IntKind.i64 b_3, Value.int IntKind.i64 b_4, Value.int IntKind.i64 b_5, Value.int IntKind.i64 b_6, Value.int IntKind.i64 b_7,
 Value.int IntKind.i64 b_8, Value.int IntKind.i64 b_9, Value.int IntKind.i64 b_10, Value.slice b_11a b_11n b_11c, Value.slice b_12a b_12n b_12c, Value.slice b_13a b_13n b_13c, Value.slice b_14a b_14n b_14c,
 Value.slice b_15a b_15n b_15c],
 Value.int IntKind.i64 id]) w R :=
 fn_sound (H := h48) (fn := Go.Proofs.Tryz.f48) (by kernel_rfl) (by kernel_rfl) (by kernel_rfl) ((f48_eq b_0 b_1 b_2 b_3 b_4 b_5 b_6 b_7 b_8 b_9 b_10 b_11a b_11n b_11c b_12a b_12n b_12c b_13a b_13n b_13c b_14a b_14n b_14c b_15a b_15n b_15c id w R).mpr h)


/-! (manciple/book.look).ledger$1 -/
def h49 : Hints := ⟨[], [], [20], [], [], [], [], [], []⟩
def f49_vc (agent : Int) (va : Option Addr) (vn : Nat) (vc : Nat) (cap0 : Value) (cap1 : Value) (w : World) (R : Ending → World → Prop) : Prop :=
 ∃ (r1 : Option Nat),
 Reads Proofs.Tryz.prog [] (Instr.loadAt 105 cap0) w (Value.map r1) ∧
 ∃ (a2 : Option Addr),
 ∃ (n3 : Nat),
 ∃ (n4 : Nat),
 Reads Proofs.Tryz.prog [] (Instr.lookup 105 (Value.map r1) (Value.int IntKind.i64 agent) false) w (Value.slice a2 n3 n4) ∧
 Calls Proofs.Tryz.prog 50 #[Value.slice a2 n3 n4, Value.slice va vn vc] w fun (e5 : Ending) (w6 : World) =>
 ∃ (a7 : Option Addr),
 ∃ (n8 : Nat),
 ∃ (n9 : Nat),
 ∃ (b10 : Bool),
 e5 = Ending.returned (Value.tuple #[Value.slice a7 n8 n9, Value.bool b10]) ∧
 ∃ (r11 : Option Nat),
 Reads Proofs.Tryz.prog [] (Instr.loadAt 105 cap0) w6 (Value.map r11) ∧
 ∃ (b12 : Bool),
 Reads Proofs.Tryz.prog [] (Instr.loadAt 4 cap1) w6 (Value.bool b12) ∧
 (b12 = true →
 OpW Proofs.Tryz.prog (skipS (Instr.mapUpdate 105 (Value.map r11) (Value.int IntKind.i64 agent) (Value.slice a7 n8 n9))) w6 fun (v13 : Value) (w14 : World) =>
 OpW Proofs.Tryz.prog (skipS (Instr.storeAt 4 cap1 (Value.bool b10))) w14 fun (v15 : Value) (w16 : World) => R (Ending.returned (Value.tuple #[])) w16) ∧
 (b12 = false →
 OpW Proofs.Tryz.prog (skipS (Instr.mapUpdate 105 (Value.map r11) (Value.int IntKind.i64 agent) (Value.slice a7 n8 n9))) w6 fun (v17 : Value) (w18 : World) =>
 OpW Proofs.Tryz.prog (skipS (Instr.storeAt 4 cap1 (Value.bool false))) w18 fun (v19 : Value) (w20 : World) => R (Ending.returned (Value.tuple #[])) w20)
theorem f49_eq (agent : Int) (va : Option Addr) (vn : Nat) (vc : Nat) (cap0 : Value) (cap1 : Value) (w : World) (R : Ending → World → Prop) : (fnF Go.Proofs.Tryz.prog h49 Go.Proofs.Tryz.f49 [Value.int IntKind.i64 agent, Value.slice va vn vc, cap0, cap1] w R).den = f49_vc agent va vn vc cap0 cap1 w R := by kernel_rfl
theorem f49_calls (agent : Int) (va : Option Addr) (vn : Nat) (vc : Nat) (cap0 : Value) (cap1 : Value) (w : World) (R : Ending → World → Prop) (h : f49_vc agent va vn vc cap0 cap1 w R) : Calls Go.Proofs.Tryz.prog 49 (List.toArray [Value.int IntKind.i64 agent, Value.slice va vn vc, cap0, cap1]) w R :=
 fn_sound (H := h49) (fn := Go.Proofs.Tryz.f49) (by kernel_rfl) (by kernel_rfl) (by kernel_rfl) ((f49_eq agent va vn vc cap0 cap1 w R).mpr h)


/-! slices.ContainsFunc[[]manciple/api.Agent,manciple/api.Agent] -/
def h51 : Hints := ⟨[], [], [], [], [], [], [], [], []⟩
def f51_vc (sa : Option Addr) (sn : Nat) (sc : Nat) (f : Value) (w : World) (R : Ending → World → Prop) : Prop :=
 Calls Proofs.Tryz.prog 73 #[Value.slice sa sn sc, f] w fun (e1 : Ending) (w2 : World) => ∃ (x3 : Int), e1 = Ending.returned (Value.int IntKind.i64 x3) ∧ R (Ending.returned (Value.bool (decide (x3 ≥ 0)))) w2
theorem f51_eq (sa : Option Addr) (sn : Nat) (sc : Nat) (f : Value) (w : World) (R : Ending → World → Prop) : (fnF Go.Proofs.Tryz.prog h51 Go.Proofs.Tryz.f51 [Value.slice sa sn sc, f] w R).den = f51_vc sa sn sc f w R := by kernel_rfl
theorem f51_calls (sa : Option Addr) (sn : Nat) (sc : Nat) (f : Value) (w : World) (R : Ending → World → Prop) (h : f51_vc sa sn sc f w R) : Calls Go.Proofs.Tryz.prog 51 (List.toArray [Value.slice sa sn sc, f]) w R :=
 fn_sound (H := h51) (fn := Go.Proofs.Tryz.f51) (by kernel_rfl) (by kernel_rfl) (by kernel_rfl) ((f51_eq sa sn sc f w R).mpr h)


/-! (manciple/book.look).ledger$2 -/
def h52 : Hints := ⟨[2], [], [], [], [], [], [], [], []⟩
def f52_vc (a_0 : Int) (a_1a : Option Addr) (a_1n : Nat) (a_1c : Nat) (a_2a : Option Addr) (a_2n : Nat) (a_2c : Nat) (cap0 : Value) (w : World) (R : Ending → World → Prop) : Prop :=
 ∀ (n1 : Nat),
 w.heap.size ≤ n1 →
 ∃ (r2 : Option Nat),
 Reads Proofs.Tryz.prog [] (Instr.loadAt 105 cap0) w (Value.map r2) ∧
 ∃ (a3 : Option Addr),
 ∃ (n4 : Nat),
 ∃ (n5 : Nat),
 Reads Proofs.Tryz.prog [] (Instr.lookup 105 (Value.map r2) (Value.int IntKind.i64 a_0) false) w (Value.slice a3 n4 n5) ∧
 ∀ (w6 : World),
 Bel w w6 →
 Under [n1] w6 →
 Calls Proofs.Tryz.prog 28 #[Value.slice a3 n4 n5, Value.slice a_1a a_1n a_1c] w6 fun (e7 : Ending) (w8 : World) =>
 ∃ (b9 : Bool), e7 = Ending.returned (Value.bool b9) ∧ Keeps [n1] w6 w8 ∧ R (Ending.returned (Value.bool !b9)) w8
theorem f52_eq (a_0 : Int) (a_1a : Option Addr) (a_1n : Nat) (a_1c : Nat) (a_2a : Option Addr) (a_2n : Nat) (a_2c : Nat) (cap0 : Value) (w : World) (R : Ending → World → Prop) : (fnF Go.Proofs.Tryz.prog h52 Go.Proofs.Tryz.f52 [Value.agg #[Value.int IntKind.i64 a_0, Value.slice a_1a a_1n a_1c, Value.slice a_2a a_2n a_2c], cap0] w R).den = f52_vc a_0 a_1a a_1n a_1c a_2a a_2n a_2c cap0 w R := by kernel_rfl
theorem f52_calls (a_0 : Int) (a_1a : Option Addr) (a_1n : Nat) (a_1c : Nat) (a_2a : Option Addr) (a_2n : Nat) (a_2c : Nat) (cap0 : Value) (w : World) (R : Ending → World → Prop) (h : f52_vc a_0 a_1a a_1n a_1c a_2a a_2n a_2c cap0 w R) : Calls Go.Proofs.Tryz.prog 52 (List.toArray [Value.agg #[Value.int IntKind.i64 a_0, Value.slice a_1a a_1n a_1c, Value.slice a_2a a_2n a_2c], cap0]) w R :=
 fn_sound (H := h52) (fn := Go.Proofs.Tryz.f52) (by kernel_rfl) (by kernel_rfl) (by kernel_rfl) ((f52_eq a_0 a_1a a_1n a_1c a_2a a_2n a_2c cap0 w R).mpr h)

end Vcqz

/- Calls of functions' values. -/
namespace Go.Vc
open Go Go.RowKit
section
variable {P : Program} {w W : World} {M : Nat → Prop} {gs : List Nat} {fv : Value}

/-- A call of a function's value that returns a value, and changes nothing. -/
def RetI (P : Program) (fv : Value) (args : Array Value) (W : World) (v : Value) : Prop := ∀ K : Value → World → Prop, (∀ w', Bel W w' → K v w') → OpW P (invokeS fv args) W K
theorem opw_invoke {f : FuncId} {first cap args : Array Value} {K : Value → World → Prop} (he : pureRun P (invokeS (.func (.func f) first cap) args) = some (.enter f ((first ++ args) ++ cap))) (h : Calls P f ((first ++ args) ++ cap) W fun e w' => ∃ v, e = .returned v ∧ K v w') : OpW P (invokeS (.func (.func f) first cap) args) W K := by
  unfold OpW
  rw [pureRun_run he W]
  exact h
theorem RetI.of {f : FuncId} {first cap args : Array Value} {v : Value} (he : pureRun P (invokeS (.func (.func f) first cap) args) = some (.enter f ((first ++ args) ++ cap))) (h : Ret P f ((first ++ args) ++ cap) W v) : RetI P (.func (.func f) first cap) args W v := fun _ hK => opw_invoke he (h _ fun w' hb => ⟨v, rfl, hK w' hb⟩)
theorem at_inv {args : Array Value} {v : Value} {K : Value → World → Prop} (hA : AtF w M gs W) (hc : RetI P fv args W v) (hK : ∀ w', AtF w M gs w' → Keeps gs W w' → Bel W w' → K v w') : OpW P (invokeS fv args) W K := hc K fun w' hb => hK w' (hA.call hb) (hA.keeps hb) hb
end
end Go.Vc

/- book.Frame, book.Agent. -/
set_option maxRecDepth 20000
set_option maxHeartbeats 1000000
namespace Go.Vc.ZW
open Go Go.Vc Go.Vc.V Go.RowKit Go.Proofs Vcqz

variable {w W W' : World} {M : Nat → Prop} {gs : List Nat}

theorem c72 {p : Nat} (f : FrT) (id : Int) (hp : W.heap[p]? = some (.cells #[.int .i64 id] 2 (0, 0))) : Ret Tryz.prog 72 #[.agg (frE f).toArray, .pointer (some ⟨p, 0, none⟩)] W (.bool (f.1 == id)) := by
  intro R h
  refine f72_calls f.1 f.2.1 f.2.2.1 f.2.2.2.1 f.2.2.2.2.1 f.2.2.2.2.2.1 f.2.2.2.2.2.2 _ W R ?_
  unfold f72_vc
  intro n1 _
  exact ⟨_, rd_f0 (r := []) (ty := 2) hp (by kernel_rfl) (by simp), fun w3 hb _ => h _ hb⟩
theorem c71 {l : List FrT} {a : Option Addr} {n c : Nat} {fv : Value} (id : Int) (W : World) (hs : SlE W 7 frE l a n c) (hf : ∀ W' f, Bel W W' → RetI Tryz.prog fv #[.agg (frE f).toArray] W' (.bool (f.1 == id))) : Ret Tryz.prog 71 #[.slice a n c, fv] W (.int .i64 (ixOf (·.1) id l 0)) := by
  intro R h
  refine f71_calls a n c fv W R ?_
  unfold f71_vc
  have hn := hs.len_le
  refine ⟨fun v W' => At W [] W' ∧ ∃ i : Nat, v.1 = i ∧ i ≤ l.length ∧ ixOf (·.1) id (l.drop i) i = ixOf (·.1) id l 0, fun v _ => (n - v.1).toNat, ⟨At.refl W, 0, rfl, Nat.zero_le _, rfl⟩, ?_⟩
  rintro x3 w4 ⟨hA, i, hi, hil, hx⟩
  simp only at hi
  subst hi
  refine brD (fun hlt => ?_) (fun hge => leaf h hA ?_)
  · obtain ⟨f, hfi⟩ : ∃ x, l[i]? = some x := ⟨_, List.getElem?_eq_getElem (by omega)⟩
    obtain ⟨ad, g1, el, _⟩ := elt_at (P := Tryz.prog) (k := .i64) (t := 25) (hs.call hA.below) hfi (e := 37) (by kernel_rfl) (by kernel_rfl)
    rw [ixOf_step hfi] at hx
    refine ⟨ad, g1, _, _, _, _, _, _, _, el.agg 7 (by kernel_rfl) (by kernel_rfl) (by simp) (by simp), ?_⟩
    refine at_inv hA (hf w4 f hA.below) fun w14 hA _ _ => ⟨_, rfl, brB (fun he => leaf h hA ?_) (fun hne => ?_)⟩
    · rw [if_pos (by simpa using he)] at hx
      rw [hx]
    · rw [if_neg (by simpa using hne)] at hx
      rw [succ_i i (by omega)]
      exact ⟨⟨hA, i + 1, rfl, by omega, hx⟩, by simp only; omega⟩
  · rw [show i = l.length by omega, List.drop_length, ixOf] at hx
    rw [← hx]
theorem c47 {b : BkA} {d : BkD} (id : Int) (w : World) (hb : Bk w b d) : Ret Tryz.prog 47 #[b.v, .int .i64 id] w (.int .i64 (ixOf (·.1) id d.frs 0)) := by
  intro R h
  refine f47_calls _ _ _ _ _ _ _ _ _ _ _ _ _ _ _ _ _ _ _ _ _ _ _ _ _ _ id w R ?_
  unfold f47_vc
  intro n1 hn1 w2 hb2 hun2
  have hA : At w [n1] w2 := ⟨((At.refl w).call hb2).chg, hun2⟩
  refine opw_boxS hA fun p w4 hp hA hk hb4 hpb => ⟨_, rfl, hk, ?_⟩
  refine at_callb hA (c71 id w4 (hb.call hA.below).fr fun W' f hb' => RetI.of (by kernel_rfl) (c72 f id ?_)) fun w7 hA hk _ => ⟨_, rfl, hk, leaf h hA rfl⟩
  rw [hb'.block (Array.getElem?_eq_some_iff.1 hpb).1, hpb]
  rfl
theorem c74 {p : Nat} {a1 a2 : Option Addr} {n1 cc1 n2 cc2 : Nat} (x id : Int) (hp : W.heap[p]? = some (.cells #[.int .i64 id] 2 (0, 0))) : Ret Tryz.prog 74 #[.agg #[.int .i64 x, .slice a1 n1 cc1, .slice a2 n2 cc2], .pointer (some ⟨p, 0, none⟩)] W (.bool (x == id)) := by
  intro R h
  refine f74_calls x a1 n1 cc1 a2 n2 cc2 _ W R ?_
  unfold f74_vc
  intro n1 _
  exact ⟨_, rd_f0 (r := []) (ty := 2) hp (by kernel_rfl) (by simp), fun w3 hb _ => h _ hb⟩
theorem c73 {l : List AgT} {a : Option Addr} {n c : Nat} {fv : Value} (id : Int) (W : World) (hs : ∀ {W'}, Bel W W' → SlR W' 3 (agR W') l a n c) (hf : ∀ W' x a1 n1 cc1 a2 n2 cc2, Bel W W' → RetI Tryz.prog fv #[.agg #[.int .i64 x, .slice a1 n1 cc1, .slice a2 n2 cc2]] W' (.bool (x == id))) : Ret Tryz.prog 73 #[.slice a n c, fv] W (.int .i64 (ixOf (·.1) id l 0)) := by
  intro R h
  refine f73_calls a n c fv W R ?_
  unfold f73_vc
  have hn := (hs (At.refl W).below).len_le
  refine ⟨fun v W' => At W [] W' ∧ ∃ i : Nat, v.1 = i ∧ i ≤ l.length ∧ ixOf (·.1) id (l.drop i) i = ixOf (·.1) id l 0, fun v _ => (n - v.1).toNat, ⟨At.refl W, 0, rfl, Nat.zero_le _, rfl⟩, ?_⟩
  rintro x3 w4 ⟨hA, i, hi, hil, hx⟩
  simp only at hi
  subst hi
  refine brD (fun hlt => ?_) (fun hge => leaf h hA ?_)
  · obtain ⟨f, hfi⟩ : ∃ x, l[i]? = some x := ⟨_, List.getElem?_eq_getElem (by omega)⟩
    obtain ⟨ad, cs, g1, el, _, _, _, _, _, _, rfl, _, _⟩ := rel_at (t := 26) (hs hA.below) hfi (e := 45) (by kernel_rfl) (by kernel_rfl)
    rw [ixOf_step hfi] at hx
    refine ⟨ad, g1, _, _, _, _, _, _, _, el.agg 3 (by kernel_rfl) (by kernel_rfl) (by simp) (by simp), ?_⟩
    refine at_inv hA (hf w4 f.1 _ _ _ _ _ _ hA.below) fun w14 hA _ _ => ⟨_, rfl, brB (fun he => leaf h hA ?_) (fun hne => ?_)⟩
    · rw [if_pos (by simpa using he)] at hx
      rw [hx]
    · rw [if_neg (by simpa using hne)] at hx
      rw [succ_i i (by omega)]
      exact ⟨⟨hA, i + 1, rfl, by omega, hx⟩, by simp only; omega⟩
  · rw [show i = l.length by omega, List.drop_length, ixOf] at hx
    rw [← hx]
theorem c48 {b : BkA} {d : BkD} (id : Int) (w : World) (hb : Bk w b d) : Ret Tryz.prog 48 #[b.v, .int .i64 id] w (.int .i64 (ixOf (·.1) id d.ags 0)) := by
  intro R h
  refine f48_calls _ _ _ _ _ _ _ _ _ _ _ _ _ _ _ _ _ _ _ _ _ _ _ _ _ _ id w R ?_
  unfold f48_vc
  intro n1 hn1 w2 hb2 hun2
  have hA : At w [n1] w2 := ⟨((At.refl w).call hb2).chg, hun2⟩
  refine opw_boxS hA fun p w4 hp hA hk hb4 hpb => ⟨_, rfl, hk, ?_⟩
  refine at_callb hA (c73 id w4 (fun hbb => ((hb.call hA.below).call hbb).ag) fun W' x a1 n1 cc1 a2 n2 cc2 hb' => RetI.of (by kernel_rfl) (c74 x id ?_)) fun w7 hA hk _ => ⟨_, rfl, hk, leaf h hA rfl⟩
  rw [hb'.block (Array.getElem?_eq_some_iff.1 hpb).1, hpb]
  rfl
end Go.Vc.ZW

/- Own text of this claim: ZvX2. -/
set_option maxRecDepth 20000
namespace Go.Vc.ZW
open Go Go.Vc Go.Vc.V Go.RowKit Go.Proofs Vcqz Vcqz

def sg (a b : Int) : Int := if a < b then -1 else if a > b then 1 else 0
theorem c70 (x : Int) (w : World) : Ret Tryz.prog 70 #[.int .i64 x] w (.bool false) := by
  intro R h
  refine f70_calls _ w R ?_
  unfold f70_vc
  first
    | exact leaf h (At.refl w) (by simp)
    | simpa using leaf h (At.refl w) rfl
theorem c46 (a b : Int) (w : World) : Ret Tryz.prog 46 #[.int .i64 a, .int .i64 b] w (.int .i64 (sg a b)) := by
  intro R h
  refine f46_calls _ _ w R ?_
  unfold f46_vc
  unfold sg at h
  refine at_callb (At.refl w) (c70 a w) fun w2 hA _ _ => ⟨_, rfl, at_callb hA (c70 b w2) fun w5 hA _ _ => ⟨_, rfl, brB (fun e => by cases e) (fun _ => brB (fun e => by cases e) (fun _ => ?_))⟩⟩
  refine brD (fun h1 => ?_) (fun h1 => brD (fun h2 => ?_) (fun h2 => ?_))
  · rw [if_pos h1] at h; exact leaf h hA rfl
  · rw [if_neg h1, if_pos h2] at h; exact leaf h hA rfl
  · rw [if_neg h1, if_neg h2] at h; exact leaf h hA rfl
def orL : List Int → Int
  | [] => 0
  | x :: t => if x ≠ 0 then x else orL t
theorem orL_drop : ∀ (l : List Int) (k : Nat), (∀ q, q < k → ∀ y, l[q]? = some y → y = 0) → orL l = orL (l.drop k)
  | l, 0, _ => by simp
  | [], k + 1, _ => by simp
  | x :: t, k + 1, h => by
    have hx : x = 0 := h 0 (by omega) x rfl
    rw [List.drop_succ_cons, ← orL_drop t k fun q hq y hy => h (q + 1) (by omega) y (by simpa using hy), orL, if_neg (by simp [hx])]
theorem c45 {l : List Int} {a : Option Addr} {n c : Nat} (w : World) (hs : SlE w 1 (fun x => [Value.int .i64 x]) l a n c) (hl : l.length < 1099511627776) : Ret Tryz.prog 45 #[.slice a n c] w (.int .i64 (orL l)) := by
  intro R h
  refine f45_calls _ _ _ w R ?_
  unfold f45_vc
  have hA := At.refl w
  have hn := hs.len_le.1
  refine ⟨fun v w4 => ∃ k : Nat, v.1 = k ∧ At w [] w4 ∧ (∀ q, q < k → ∀ y, l[q]? = some y → y = 0), fun v _ => (n - v.1).toNat, ⟨0, rfl, hA, fun q hq => by omega⟩, ?_⟩
  rintro x3 w4 ⟨k, hk, hA, hmin⟩
  simp only at hk
  subst hk
  have hd := orL_drop l k hmin
  refine brD (fun hlt => ?_) (fun hge => leaf h hA ?_)
  · obtain ⟨x, hx⟩ : ∃ x, l[k]? = some x := ⟨_, List.getElem?_eq_getElem (by omega)⟩
    obtain ⟨hkl, hxe⟩ := List.getElem?_eq_some_iff.1 hx
    have hdr : l.drop k = x :: l.drop (k + 1) := by rw [← hxe]; exact List.drop_eq_getElem_cons hkl
    obtain ⟨ad, g1, el, _⟩ := elt_at (P := Tryz.prog) (k := .i64) (t := 127) (hs.call hA.below) hx (e := 3) (by kernel_rfl) (by kernel_rfl)
    refine ⟨ad, g1, _, el.one (by kernel_rfl) (by simp), brN (fun hne => leaf h hA ?_) (fun he => ?_)⟩
    · rw [hd, hdr, orL, if_pos hne]
    · have e1 : IntKind.i64.wrap ((k : Int) + 1) = ((k + 1 : Nat) : Int) := by rw [wrap_i64 (by omega) (by omega)]; rfl
      rw [e1]
      refine ⟨⟨k + 1, rfl, hA, fun q hq y hy => ?_⟩, by simp only; omega⟩
      by_cases hqk : q = k
      · subst hqk
        rw [hx] at hy
        cases hy
        exact he
      · exact hmin q (by omega) y hy
  · rw [hd, List.drop_eq_nil_of_le (by omega)]; rfl
end Go.Vc.ZW

/- Slices of slices: what Instr.sliceAt gives. -/
namespace Go.Vc
open Go Go.RowKit
section
variable {P : Program}
theorem gives_slice_lh {t e : TypeId} {n len cap l h : Nat} {a : Option Addr} {k k2 : IntKind} (ht : P.underlying t = some (.slice e)) (hs : pureRun P (sizeOf e) = some n) (h1 : l ≤ h) (h2 : h ≤ cap) :
    Gives P (Instr.sliceAt t (.slice a len cap) (some (.int k (l : Int))) (some (.int k2 (h : Int))) none) (.slice (if cap = l then a else a.map (·.add (l * n))) (h - l) (cap - l)) := by
  intro W
  have he : P.elem t = e := by simp [Program.elem, ht]
  have ht' : P.underlying t = some (.slice (P.elem t)) := by rw [he]; exact ht
  have hh := run_slice_lh (P := P) W t a len cap ht' k k2 (l : Int) (h : Int) (by omega) (by omega) (by omega)
  rw [run_sliceAt_slice (P := P) W t _ _ _ _ ht', hh, he, pureRun_run hs W]
  simp only [Result.andThen, sliced, Int.toNat_natCast]
theorem gives_slice_h {t e : TypeId} {n len cap h : Nat} {a : Option Addr} {k2 : IntKind} (ht : P.underlying t = some (.slice e)) (hs : pureRun P (sizeOf e) = some n) (h2 : h ≤ cap) :
    Gives P (Instr.sliceAt t (.slice a len cap) none (some (.int k2 (h : Int))) none) (.slice (if cap = 0 then a else a.map (·.add (0 * n))) h cap) := by
  intro W
  have he : P.elem t = e := by simp [Program.elem, ht]
  have ht' : P.underlying t = some (.slice (P.elem t)) := by rw [he]; exact ht
  have hh := run_slice_h (P := P) W t a len cap ht' k2 (h : Int) (by omega) (by omega)
  rw [run_sliceAt_slice (P := P) W t _ _ _ _ ht', hh, he, pureRun_run hs W]
  simp only [Result.andThen, sliced, Int.toNat_natCast, Nat.sub_zero]
theorem gives_slice_l {t e : TypeId} {n len cap l : Nat} {a : Option Addr} {k : IntKind} (ht : P.underlying t = some (.slice e)) (hs : pureRun P (sizeOf e) = some n) (h1 : l ≤ len) :
    Gives P (Instr.sliceAt t (.slice a len cap) (some (.int k (l : Int))) none none) (.slice (if cap = l then a else a.map (·.add (l * n))) (len - l) (cap - l)) := by
  intro W
  have he : P.elem t = e := by simp [Program.elem, ht]
  have ht' : P.underlying t = some (.slice (P.elem t)) := by rw [he]; exact ht
  have hh := run_slice_l (P := P) W t a len cap ht' k (l : Int) (by omega) (by omega)
  rw [run_sliceAt_slice (P := P) W t _ _ _ _ ht', hh, he, pureRun_run hs W]
  simp only [Result.andThen, sliced, Int.toNat_natCast]
end
end Go.Vc

/- Filters: how two stand, in the code. -/
set_option maxRecDepth 20000
set_option maxHeartbeats 1000000
namespace Go.Vc.ZW
open Go Go.Vc Go.Vc.V Go.RowKit Go.Proofs Vcqz Vcqz

variable {w W W' W2 : World} {M N : Nat → Prop} {gs ds : List Nat}

theorem sg_cases (a b : Int) : (a < b ∧ sg a b = -1) ∨ (b < a ∧ sg a b = 1) ∨ (a = b ∧ sg a b = 0) := by
  unfold sg
  split
  · exact .inl ⟨by assumption, rfl⟩
  · split
    · exact .inr (.inl ⟨by omega, rfl⟩)
    · exact .inr (.inr ⟨by omega, rfl⟩)
/-- How two rows of numbers stand. -/
def cmpL : List Int → List Int → Int
  | [], [] => 0
  | [], _ :: _ => -1
  | _ :: _, [] => 1
  | x :: a, y :: b => if sg x y ≠ 0 then sg x y else cmpL a b
theorem cmpL_neg : ∀ a b : List Int, cmpL b a = - cmpL a b
  | [], [] => rfl
  | [], _ :: _ => rfl
  | _ :: _, [] => rfl
  | x :: a, y :: b => by
    unfold cmpL
    rw [cmpL_neg a b]
    rcases sg_cases x y with ⟨h, e⟩ | ⟨h, e⟩ | ⟨h, e⟩
    · have : sg y x = 1 := by rcases sg_cases y x with ⟨_, e⟩ | ⟨_, e⟩ | ⟨_, e⟩ <;> omega
      rw [e, this]; simp
    · have : sg y x = -1 := by rcases sg_cases y x with ⟨_, e⟩ | ⟨_, e⟩ | ⟨_, e⟩ <;> omega
      rw [e, this]; simp
    · have : sg y x = 0 := by rcases sg_cases y x with ⟨_, e⟩ | ⟨_, e⟩ | ⟨_, e⟩ <;> omega
      rw [e, this]; simp
theorem cmpL_self : ∀ a : List Int, cmpL a a = 0
  | [] => rfl
  | x :: a => by
    unfold cmpL
    have : sg x x = 0 := by rcases sg_cases x x with ⟨h, _⟩ | ⟨h, _⟩ | ⟨_, e⟩ <;> omega
    rw [this, if_neg (by simp)]
    exact cmpL_self a
theorem cmpL_eq : ∀ {a b : List Int}, cmpL a b = 0 → a = b
  | [], [], _ => rfl
  | [], _ :: _, h => by simp [cmpL] at h
  | _ :: _, [], h => by simp [cmpL] at h
  | x :: a, y :: b, h => by
    unfold cmpL at h
    rcases sg_cases x y with ⟨_, e⟩ | ⟨_, e⟩ | ⟨e1, e⟩
    · rw [e] at h; simp at h
    · rw [e] at h; simp at h
    · rw [e] at h
      simp at h
      rw [e1, cmpL_eq h]
theorem cmpL_lt_trans : ∀ {a b c : List Int}, cmpL a b < 0 → cmpL b c < 0 → cmpL a c < 0
  | [], [], _, h, _ => by simp [cmpL] at h
  | [], _ :: _, [], _, k => by simp [cmpL] at k
  | [], _ :: _, _ :: _, _, _ => by simp [cmpL]
  | _ :: _, [], _, h, _ => by simp [cmpL] at h
  | _ :: _, _ :: _, [], _, k => by simp [cmpL] at k
  | x :: a, y :: b, z :: c, h, k => by
    unfold cmpL at h k ⊢
    rcases sg_cases x y with ⟨h1, e⟩ | ⟨h1, e⟩ | ⟨h1, e⟩ <;> rcases sg_cases y z with ⟨k1, f⟩ | ⟨k1, f⟩ | ⟨k1, f⟩ <;> rcases sg_cases x z with ⟨m1, g⟩ | ⟨m1, g⟩ | ⟨m1, g⟩ <;> rw [e] at h <;> rw [f] at k <;> rw [g] <;> simp at h k ⊢ <;> first | omega | exact cmpL_lt_trans h k
theorem cmpL_tri (a b : List Int) : cmpL a b < 0 ∨ a = b ∨ cmpL b a < 0 := by
  have h1 := cmpL_neg a b
  by_cases h0 : cmpL a b = 0
  · exact .inr (.inl (cmpL_eq h0))
  · omega
/-! ### Vectors as rows of numbers -/
def flatV : List PartT → List Int
  | [] => []
  | p :: l => p.1 :: p.2.1 :: p.2.2 :: flatV l
theorem flatV_inj : ∀ {a b : List PartT}, flatV a = flatV b → a = b
  | [], [], _ => rfl
  | [], _ :: _, h => by simp [flatV] at h
  | _ :: _, [], h => by simp [flatV] at h
  | (p1, p2, p3) :: a, (q1, q2, q3) :: b, h => by
    simp only [flatV, List.cons.injEq] at h
    obtain ⟨h1, h2, h3, h4⟩ := h
    rw [h1, h2, h3, flatV_inj h4]
def cmp3 (x y : PartT) : Int := orL [sg x.1 y.1, sg x.2.1 y.2.1, sg x.2.2 y.2.2]
theorem cmpV_cons (x y : PartT) (a b : List PartT) : cmpL (flatV (x :: a)) (flatV (y :: b)) = if cmp3 x y ≠ 0 then cmp3 x y else cmpL (flatV a) (flatV b) := by
  have e1 : ∀ (z : PartT) (l : List PartT), flatV (z :: l) = z.1 :: z.2.1 :: z.2.2 :: flatV l := fun _ _ => rfl
  rw [e1, e1]
  unfold cmp3
  generalize flatV a = u
  generalize flatV b = v
  simp only [cmpL, orL]
  by_cases h1 : sg x.1 y.1 = 0
  · by_cases h2 : sg x.2.1 y.2.1 = 0
    · by_cases h3 : sg x.2.2 y.2.2 = 0
      · simp [h1, h2, h3]
      · simp [h1, h2, h3]
    · simp [h1, h2]
  · simp [h1]
/-! ### Filters -/
def keyF (x : TkT) : List Int := x.1 :: x.2.1 :: x.2.2.1 :: flatV x.2.2.2
theorem keyF_inj {x y : TkT} (h : keyF x = keyF y) : x = y := by
  obtain ⟨a, b, c, v⟩ := x
  obtain ⟨a', b', c', v'⟩ := y
  simp only [keyF, List.cons.injEq] at h
  obtain ⟨h1, h2, h3, h4⟩ := h
  rw [h1, h2, h3, flatV_inj h4]
def aF (x y : TkT) : Int := cmpL (keyF x) (keyF y)
theorem aF_or (x y : TkT) : aF x y = orL [sg x.1 y.1, sg x.2.1 y.2.1, sg x.2.2.1 y.2.2.1, cmpL (flatV x.2.2.2) (flatV y.2.2.2)] := by
  unfold aF keyF
  simp only [cmpL, orL]
  by_cases h1 : sg x.1 y.1 = 0
  · by_cases h2 : sg x.2.1 y.2.1 = 0
    · by_cases h3 : sg x.2.2.1 y.2.2.1 = 0
      · by_cases h4 : cmpL (flatV x.2.2.2) (flatV y.2.2.2) = 0
        · simp [h1, h2, h3, h4]
        · simp [h1, h2, h3, h4]
      · simp [h1, h2, h3]
    · simp [h1, h2]
  · simp [h1]
theorem aF_neg (x y : TkT) : aF y x = - aF x y := cmpL_neg _ _
theorem aF_eq {x y : TkT} (h : aF x y = 0) : x = y := keyF_inj (cmpL_eq h)
theorem aF_self (x : TkT) : aF x x = 0 := cmpL_self _
theorem aF_trans {x y z : TkT} (h : aF x y < 0) (k : aF y z < 0) : aF x z < 0 := cmpL_lt_trans h k
theorem aF_ntrans {x y z : TkT} (h : ¬ aF x y < 0) (k : ¬ aF y z < 0) : ¬ aF x z < 0 := by
  intro hh
  have h1 := aF_neg x y
  have k1 := aF_neg y z
  by_cases h0 : aF x y = 0
  · rw [aF_eq h0] at hh; exact k hh
  · by_cases k0 : aF y z = 0
    · rw [← aF_eq k0] at hh; exact h hh
    · have := aF_trans (x := z) (y := y) (z := x) (by omega) (by omega)
      have := aF_neg x z
      omega

theorem c96 (x : Int) (w : World) : Ret Tryz.prog 96 #[.int .i64 x] w (.bool false) := by
  intro R h
  refine f96_calls _ w R ?_
  unfold f96_vc
  first
    | exact leaf h (At.refl w) (by simp)
    | simpa using leaf h (At.refl w) rfl
theorem c85 (a b : Int) (w : World) : Ret Tryz.prog 85 #[.int .i64 a, .int .i64 b] w (.int .i64 (sg a b)) := by
  intro R h
  refine f85_calls _ _ w R ?_
  unfold f85_vc
  unfold sg at h
  refine at_callb (At.refl w) (c96 a w) fun w2 hA _ _ => ⟨_, rfl, at_callb hA (c96 b w2) fun w5 hA _ _ => ⟨_, rfl, brB (fun e => by cases e) (fun _ => brB (fun e => by cases e) (fun _ => ?_))⟩⟩
  refine brD (fun h1 => ?_) (fun h1 => brD (fun h2 => ?_) (fun h2 => ?_))
  · rw [if_pos h1] at h; exact leaf h hA rfl
  · rw [if_neg h1, if_pos h2] at h; exact leaf h hA rfl
  · rw [if_neg h1, if_neg h2] at h; exact leaf h hA rfl
abbrev ptV (p : PartT) : Value := .agg #[.int .i64 p.1, .int .i64 p.2.1, .int .i64 p.2.2]
theorem c84 (x y : PartT) (w : World) : Ret Tryz.prog 84 #[ptV x, ptV y] w (.int .i64 (cmp3 x y)) := by
  intro R h
  refine f84_calls _ _ _ _ _ _ w R ?_
  unfold f84_vc
  intro n1 hn1 n2 hn2 w3 hb3 hu3
  have hA : At w [n1, n2] w3 := ⟨((At.refl w).call hb3).chg, hu3⟩
  refine at_callb hA (c85 _ _ w3) fun w5 hA hk _ => ⟨_, rfl, hk, ?_⟩
  refine at_callb hA (c85 _ _ w5) fun w8 hA hk _ => ⟨_, rfl, hk, ?_⟩
  refine at_callb hA (c46 _ _ w8) fun w11 hA hk _ => ⟨_, rfl, hk, ?_⟩
  refine opw_litL (e' := 3) (f := fun x => [Value.int .i64 x]) (size := 1) (l := [sg x.1 y.1, sg x.2.1 y.2.1, sg x.2.2 y.2.2]) hA rfl (fun _ _ => rfl) (by decide) (by kernel_rfl) fun g w14 _ hA hk _ ho => ⟨_, _, _, rfl, hk, ?_⟩
  exact at_callb hA (c45 w14 (ho.sl fun _ _ => rfl) (by simp)) fun w19 hA hk _ => ⟨_, rfl, hk, leaf h hA rfl⟩
theorem c83 {l1 l2 : List PartT} {a1 a2 : Option Addr} {n1 cc1 n2 cc2 : Nat} (w : World) (h1 : SlE w 3 partE l1 a1 n1 cc1) (h2 : SlE w 3 partE l2 a2 n2 cc2) : Ret Tryz.prog 83 #[.slice a1 n1 cc1, .slice a2 n2 cc2, .func (.func 84) #[] #[]] w (.int .i64 (cmpL (flatV l1) (flatV l2))) := by
  intro R h
  refine f83_calls _ _ _ _ _ _ _ w R ?_
  unfold f83_vc
  have e1 := h1.len_le
  have e2 := h2.len_le
  refine ⟨fun v W' => At w [] W' ∧ ∃ k : Nat, v.1 = k ∧ k ≤ l1.length ∧ k ≤ l2.length ∧ cmpL (flatV (l1.drop k)) (flatV (l2.drop k)) = cmpL (flatV l1) (flatV l2), fun v _ => (n1 - v.1).toNat, ⟨At.refl w, 0, rfl, Nat.zero_le _, Nat.zero_le _, by simp⟩, ?_⟩
  rintro x3 w4 ⟨hA, k, hk, hk1, hk2, hc⟩
  simp only at hk
  subst hk
  refine brD (fun hlt => ?_) (fun hge => brD (fun hlt => leaf h hA ?_) (fun hge2 => leaf h hA ?_))
  · obtain ⟨x, hx⟩ : ∃ x, l1[k]? = some x := ⟨_, List.getElem?_eq_getElem (by omega)⟩
    have d1 := drop_cons hx
    obtain ⟨ad, g1, el, _⟩ := elt_at (P := Tryz.prog) (k := .i64) (t := 43) (h1.call hA.below) hx (e := 53) (by kernel_rfl) (by kernel_rfl)
    refine ⟨ad, g1, _, _, _, el.agg 3 (by kernel_rfl) (by kernel_rfl) (by simp) (by simp), fun n9 hn9 => brD (fun hge w10 hev hu => ?_) (fun hlt2 => ?_)⟩
    · have : k = l2.length := by omega
      rw [d1, this, List.drop_length] at hc
      refine leaf h (hA.evo (gs' := []) (by have := hA.size; simp; omega) hev (fun _ h => by cases h)) ?_
      rw [← hc]
      simp [flatV, cmpL]
    · obtain ⟨y, hy⟩ : ∃ y, l2[k]? = some y := ⟨_, List.getElem?_eq_getElem (by omega)⟩
      have d2 := drop_cons hy
      have hs := hA.size
      obtain ⟨ad2, g2, el2, _⟩ := elt_at (P := Tryz.prog) (k := .i64) (t := 43) (h2.call hA.below) hy (e := 53) (by kernel_rfl) (by kernel_rfl)
      have far : ∀ d ∈ [n9], d ≠ ad2.block := el2.far (by simpa using hn9)
      refine ⟨ad2, g2, _, _, _, el2.agg 3 (by kernel_rfl) (by kernel_rfl) (by simp) far, fun n15 hn15 w16 hev hu => ?_⟩
      have hA := hA.evo (gs' := [n9, n15]) (by simp; omega) hev hu
      rw [d1, d2, cmpV_cons] at hc
      refine at_inv hA (RetI.of (by kernel_rfl) (c84 x y w16)) fun w18 hA hk hb => ⟨_, rfl, hk, brN (fun hne => leaf h hA ?_) (fun he => ?_)⟩
      · rw [← hc, if_pos hne]
      · rw [if_neg (by simp [he])] at hc
        rw [succ_i k (by omega)]
        exact ⟨⟨hA.sub (by simp), k + 1, rfl, by omega, by omega, hc⟩, by simp only; omega⟩
  · have : k = l1.length := by omega
    obtain ⟨y, hy⟩ : ∃ y, l2[k]? = some y := ⟨_, List.getElem?_eq_getElem (by omega)⟩
    rw [this, List.drop_length, ← this, drop_cons hy] at hc
    rw [← hc]
    simp [flatV, cmpL]
  · rw [show k = l1.length by omega, List.drop_length, show l1.length = l2.length by omega, List.drop_length] at hc
    rw [← hc]
    simp [flatV, cmpL]
theorem c62 {l1 l2 : List PartT} {a1 a2 : Option Addr} {n1 cc1 n2 cc2 : Nat} (w : World) (h1 : SlE w 3 partE l1 a1 n1 cc1) (h2 : SlE w 3 partE l2 a2 n2 cc2) : Ret Tryz.prog 62 #[.slice a1 n1 cc1, .slice a2 n2 cc2] w (.int .i64 (cmpL (flatV l1) (flatV l2))) := by
  intro R h
  refine f62_calls _ _ _ _ _ _ w R ?_
  unfold f62_vc
  exact at_callb (At.refl w) (c83 w h1 h2) fun w2 hA _ _ => ⟨_, rfl, leaf h hA rfl⟩
theorem c32 (x y : TkT) {a1 a2 : Option Addr} {n1 cc1 n2 cc2 : Nat} (w : World) (h1 : SlE w 3 partE x.2.2.2 a1 n1 cc1) (h2 : SlE w 3 partE y.2.2.2 a2 n2 cc2) : Ret Tryz.prog 32 #[.agg #[.int .i64 x.1, .int .i64 x.2.1, .int .i64 x.2.2.1, .slice a1 n1 cc1], .agg #[.int .i64 y.1, .int .i64 y.2.1, .int .i64 y.2.2.1, .slice a2 n2 cc2]] w (.int .i64 (aF x y)) := by
  intro R h
  refine f32_calls _ _ _ _ _ _ _ _ _ _ _ _ w R ?_
  unfold f32_vc
  rw [aF_or] at h
  intro n1 hn1 n2 hn2 w3 hb3 hu3
  have hA : At w [n1, n2] w3 := ⟨((At.refl w).call hb3).chg, hu3⟩
  refine at_callb hA (c46 _ _ w3) fun w5 hA hk _ => ⟨_, rfl, hk, ?_⟩
  refine at_callb hA (c46 _ _ w5) fun w8 hA hk _ => ⟨_, rfl, hk, ?_⟩
  refine at_callb hA (c46 _ _ w8) fun w11 hA hk _ => ⟨_, rfl, hk, ?_⟩
  refine at_callb hA (c62 w11 (h1.call hA.below) (h2.call hA.below)) fun w14 hA hk _ => ⟨_, rfl, hk, ?_⟩
  refine opw_litL (e' := 3) (f := fun x => [Value.int .i64 x]) (size := 1) (l := [sg x.1 y.1, sg x.2.1 y.2.1, sg x.2.2.1 y.2.2.1, cmpL (flatV x.2.2.2) (flatV y.2.2.2)]) hA rfl (fun _ _ => rfl) (by decide) (by kernel_rfl) fun g w17 _ hA hk _ ho => ⟨_, _, _, rfl, hk, ?_⟩
  exact at_callb hA (c45 w17 (ho.sl fun _ _ => rfl) (by simp)) fun w22 hA hk _ => ⟨_, rfl, hk, leaf h hA rfl⟩
end Go.Vc.ZW

/- Own text of this claim: ZvX4. -/
set_option maxRecDepth 20000
namespace Go.Vc.ZW
open Go Go.Vc Go.Vc.V Go.RowKit Go.Proofs Vcqz Vcqz

theorem c50 {l1 l2 : List PartT} {aa ba : Option Addr} {an ac bn bc : Nat} (w : World) (h1 : SlE w 3 partE l1 aa an ac) (h2 : SlE w 3 partE l2 ba bn bc) (hl1 : l1.length ≤ 1000000) (hl2 : l2.length ≤ 1000000) :
    RetLB Tryz.prog 50 #[.slice aa an ac, .slice ba bn bc] w 53 3 partE (if vecB l1 = true ∧ vecB l2 = true then vout (vadd l1 l2) else []) (decide (vecB l1 = true ∧ vecB l2 = true) && (vadd l1 l2).isSome) := by
  intro R h
  refine f50_calls aa an ac ba bn bc w R ?_
  unfold f50_vc
  have hA := At.refl w
  refine at_call hA (c40 _ h1) (fun _ hA hk => ?_)
  first | refine ⟨_, rfl, ?_⟩ | refine ⟨_, _, rfl, ?_⟩ | refine ⟨_, _, _, rfl, ?_⟩ | refine ⟨_, _, _, _, rfl, ?_⟩ | refine ⟨_, _, _, _, _, rfl, ?_⟩ | refine ⟨_, _, _, _, _, _, rfl, ?_⟩ | refine ⟨_, _, _, _, _, _, _, rfl, ?_⟩ | refine ⟨_, _, _, _, _, _, _, _, rfl, ?_⟩
  refine brNB (fun hn => leaflb h hA OwnL.nil (by rw [if_neg (by rw [hn]; simp)]) (by rw [hn]; rfl)) (fun hv1 => ?_)
  refine at_call hA (c40 _ (h2.call hA.below)) (fun _ hA hk => ?_)
  first | refine ⟨_, rfl, ?_⟩ | refine ⟨_, _, rfl, ?_⟩ | refine ⟨_, _, _, rfl, ?_⟩ | refine ⟨_, _, _, _, rfl, ?_⟩ | refine ⟨_, _, _, _, _, rfl, ?_⟩ | refine ⟨_, _, _, _, _, _, rfl, ?_⟩ | refine ⟨_, _, _, _, _, _, _, rfl, ?_⟩ | refine ⟨_, _, _, _, _, _, _, _, rfl, ?_⟩
  refine brNB (fun hn => leaflb h hA OwnL.nil (by rw [if_neg (by rw [hn]; simp)]) (by rw [hn]; simp)) (fun hv2 => ?_)
  rw [if_pos ⟨hv1, hv2⟩, decide_eq_true ⟨hv1, hv2⟩, Bool.true_and] at h
  refine ⟨fun s W => At w [] W ∧ ∃ (a b out : List PartT), SlE w 3 partE a s.1.1 s.1.2.1 s.1.2.2 ∧ SlE w 3 partE b s.2.1.1 s.2.1.2.1 s.2.1.2.2 ∧ OwnL w [] W 53 3 partE (.slice s.2.2.1.1 s.2.2.1.2.1 s.2.2.1.2.2) out ∧ out.length + a.length + b.length ≤ l1.length + l2.length ∧ (∀ p ∈ a, partR p) ∧ (∀ p ∈ b, partR p) ∧ (vadd a b).map (out ++ ·) = vadd l1 l2, fun s _ => s.1.2.1 + s.2.1.2.1,
    ⟨hA, l1, l2, [], h1, h2, OwnL.nil, by simp, (vecB_iff.1 hv1).1, (vecB_iff.1 hv2).1, by simp⟩, ?_⟩
  rintro a9 n10 n11 a12 n13 n14 a15 n16 n17 W ⟨hA, a, b, out, ha, hb, ho, hlen, hpa, hpb, hg⟩
  simp only at ha hb ho
  have hna := ha.1
  have hnb := hb.1
  have hno := ho.len
  subst hna hnb hno
  -- places and values
  have rdh : ∀ {W : World} {gs : List Nat} {p : PartT} {r l : List PartT} {aa : Option Addr} {an ac : Nat}, At w gs W → l = p :: r → SlE w 3 partE l aa an ac → ∃ ad, Gives Tryz.prog (Instr.indexAt 43 (.slice aa an ac) (.int .i64 0)) (.pointer (some ad)) ∧ (Reads Tryz.prog [] (Instr.loadAt 53 (.pointer (some ad))) W (partV p)) ∧ Elt W ad (partE p) := by
    intro W gs p r l aa an ac hA hl hs
    subst hl
    obtain ⟨ad, g, e, _⟩ := elt_at (P := Tryz.prog) (t := 43) (e := 53) (k := .i64) (i := 0) (hs.call hA.below) rfl (by kernel_rfl) (by kernel_rfl)
    exact ⟨ad, g, Elt.agg 3 e (by kernel_rfl) (by kernel_rfl) (by simp) no_ds, e⟩
  have rest : ∀ {p : PartT} {r l : List PartT} {aa : Option Addr} {ac : Nat}, l = p :: r → SlE w 3 partE l aa l.length ac → ∃ a', Gives Tryz.prog (Instr.sliceAt 43 (.slice aa l.length ac) (some (.int .i64 1)) none none) (.slice a' (l.length - 1) (ac - 1)) ∧ SlE w 3 partE r a' (l.length - 1) (ac - 1) := by
    intro p r l aa ac hl hs
    obtain ⟨a', g, k⟩ := gives_from (P := Tryz.prog) (t := 43) (e := 53) (k := .i64) (i := 1) hs (by rw [hl]; simp) (by kernel_rfl) (by kernel_rfl)
    have := k w hs
    rw [hl, List.drop_one, List.tail_cons] at this
    rw [hl] at g ⊢
    exact ⟨a', g, this⟩
  have hlp : ∀ x : PartT, (partE x).length = 3 := fun x => rfl
  have oc : ∀ x : PartT, ∀ u ∈ partE x, u.oneCell' = true := fun x u hu => by
    simp at hu
    rcases hu with rfl | rfl | rfl <;> rfl
  -- one of the two, or both, are there
  refine ⟨fun _ W' => W' = W ∧ ¬ (a = [] ∧ b = []), brD (fun hp => ⟨rfl, fun hh => by rw [hh.1] at hp; simp at hp⟩) (fun hp => brD (fun hq => ⟨rfl, fun hh => by rw [hh.2] at hq; simp at hq⟩) (fun hq => ?_)), ?_⟩
  · have e1 : a = [] := List.eq_nil_of_length_eq_zero (by omega)
    have e2 : b = [] := List.eq_nil_of_length_eq_zero (by omega)
    subst e1 e2
    rw [vadd_nil] at hg
    simp at hg
    exact leaflb h hA ho (by rw [← hg]; rfl) (by rw [← hg]; rfl)
  rintro _ ⟨rfl, hne⟩
  -- is the first of a the next?
  refine ⟨fun s W' => At w [] W' ∧ OwnL w [] W' 53 3 partE (.slice a15 out.length n17) out ∧ (s.1 = true ↔ ∃ p r, a = p :: r ∧ (b = [] ∨ ∃ q t, b = q :: t ∧ slt p q)), ?_, ?_⟩
  · refine ⟨fun he => go_below0_too hA fun _ hA hb => ⟨hA, ho.call hb, ⟨fun _ => ?_, fun _ => rfl⟩⟩, fun he => brD (fun hp => ?_) (fun hp => go_below0_too hA fun _ hA hb => ⟨hA, ho.call hb, ⟨fun h => (by cases h), fun ⟨p, r, h, _⟩ => ?_⟩⟩)⟩
    · have e2 : b = [] := List.eq_nil_of_length_eq_zero (by simpa using he)
      cases a with
      | nil => exact absurd ⟨rfl, e2⟩ hne
      | cons p r => exact ⟨p, r, rfl, .inl e2⟩
    · obtain ⟨p, r, rfl⟩ : ∃ p r, a = p :: r := by
        cases a with
        | nil => simp at hp
        | cons p r => exact ⟨p, r, rfl⟩
      obtain ⟨q, t, rfl⟩ : ∃ p r, b = p :: r := by
        cases b with
        | nil => simp at he
        | cons p r => exact ⟨p, r, rfl⟩
      obtain ⟨ad, g1, r1, _⟩ := rdh hA rfl ha
      obtain ⟨ad2, g2, r2, e2⟩ := rdh hA rfl hb
      refine ⟨_, g1, _, _, _, r1, _, g2, _, _, _, r2, go_below0_too hA fun w31 hA hb31 => ?_⟩
      refine at_callb hA (c65 _ _ _ _) (fun w33 hA hk hb33 => ⟨_, _, rfl, fun W hW => r2 W (Below_tr hb31 (Below_tr hb33 hW)), ?_⟩)
      refine at_callb hA (c65 _ _ _ _) (fun w37 hA hk hb37 => ⟨_, _, rfl, ?_⟩)
      refine at_callb hA (c67 _ _ _ _ _) (fun w41 hA hk hb41 => ⟨_, rfl, hA, (((ho.call hb31).call hb33).call hb37).call hb41, ?_⟩)
      simp only [decide_eq_true_eq, slotC_lt]
      exact ⟨fun h => ⟨p, r, rfl, .inr ⟨q, t, rfl, h⟩⟩, fun ⟨p', r', h1, h2⟩ => by
        cases h1
        rcases h2 with h2 | ⟨q', t', h2, h3⟩
        · cases h2
        · cases h2; exact h3⟩
    · rw [h] at hp
      simp at hp
  rintro b44 W2 ⟨hA2, ho2, hfa⟩
  simp only at hfa
  have hlen1 : l1.length + l2.length ≤ 2000000 := by omega
  have push : ∀ {W : World} {gs : List Nat} (x : PartT), At w gs W → OwnL w gs W 53 3 partE (.slice a15 out.length n17) out → ∀ {K : Option Addr → Nat → Nat → World → Prop}, (a ≠ [] ∨ b ≠ []) →
      (∀ a' c' w2, At w gs w2 → OwnL w gs w2 53 3 partE (.slice a' (out ++ [x]).length c') (out ++ [x]) → W.grownBy w2 (Value.slice a15 out.length n17).ownBlock → ((Value.slice a' (out ++ [x]).length c').ownBlock = (Value.slice a15 out.length n17).ownBlock ∨ ∀ k, (Value.slice a' (out ++ [x]).length c').ownBlock = some k → W.heap.size ≤ k) → K a' (out ++ [x]).length c' w2) →
      OpW Tryz.prog (valueS (Instr.buildSlice 43 1 #[(0, partV x)])) W fun v w1 => ∃ a1 n1 cc1, v = .slice a1 n1 cc1 ∧ OpW Tryz.prog (builtin .append #[43, 43] 43 #[false, false] #[.slice a15 out.length n17, .slice a1 n1 cc1]) w1 fun v w2 => ∃ a2 n2 cc2, v = .slice a2 n2 cc2 ∧ K a2 n2 cc2 w2 := by
    intro W gs x hA ho K hab h
    refine opw_push0 (e' := 53) (bytes := 24) hA ho x (by kernel_rfl) (by kernel_rfl) rfl (fun y _ => rfl) (oc x) ?_ (by decide) h
    have : 0 < a.length + b.length := by
      rcases hab with h | h
      · have := List.length_pos_iff.2 h; omega
      · have := List.length_pos_iff.2 h; omega
    omega
  refine brB (fun hb44 => ?_) (fun hb44 => ?_)
  · obtain ⟨p, r, rfl, hq⟩ := hfa.1 hb44
    obtain ⟨ad, g1, r1, _⟩ := rdh hA2 rfl ha
    obtain ⟨a', g2, s2⟩ := rest rfl ha
    refine ⟨_, g1, _, _, _, r1, _, _, _, g2, go_below0_too hA2 fun w53 hA hb53 => ?_⟩
    refine push p hA (ho2.call hb53) (.inl (by simp)) fun a2 cc2 w60 hA ho _ _ => ⟨⟨hA, r, b, out ++ [p], s2, hb, ho, by simp at hlen ⊢; omega, fun x hx => hpa x (List.mem_cons_of_mem _ hx), hpb, ?_⟩, by simp only [List.length_cons]; omega⟩
    rw [← hg]
    rcases hq with rfl | ⟨q, t, rfl, hlt⟩
    · rw [vadd_nil', vadd_nil']
      simp
    · rw [vadd_lt hlt, map_append]
  have hna : ∀ p r, a = p :: r → ∃ q t, b = q :: t ∧ ¬ slt p q := by
    intro p r hap
    cases hbq : b with
    | nil => exact absurd (hfa.2 ⟨p, r, hap, .inl hbq⟩) (by rw [hb44]; decide)
    | cons q t => exact ⟨q, t, rfl, fun hlt => absurd (hfa.2 ⟨p, r, hap, .inr ⟨q, t, hbq, hlt⟩⟩) (by rw [hb44]; decide)⟩
  refine ⟨fun s W' => At w [] W' ∧ OwnL w [] W' 53 3 partE (.slice a15 out.length n17) out ∧ (s.1 = true ↔ ∃ q t, b = q :: t ∧ (a = [] ∨ ∃ p r, a = p :: r ∧ slt q p)), ?_, ?_⟩
  · refine ⟨fun he => go_below0_too hA2 fun _ hA hb => ⟨hA, ho2.call hb, ⟨fun _ => ?_, fun _ => rfl⟩⟩, fun he => ?_⟩
    · have e1 : a = [] := List.eq_nil_of_length_eq_zero (by simpa using he)
      cases b with
      | nil => exact absurd ⟨e1, rfl⟩ hne
      | cons q t => exact ⟨q, t, rfl, .inl e1⟩
    · obtain ⟨p, r, rfl⟩ : ∃ p r, a = p :: r := by
        cases a with
        | nil => simp at he
        | cons p r => exact ⟨p, r, rfl⟩
      obtain ⟨q, t, rfl, hnl⟩ := hna p r rfl
      obtain ⟨ad, g1, r1, _⟩ := rdh hA2 rfl ha
      obtain ⟨ad2, g2, r2, e2⟩ := rdh hA2 rfl hb
      refine ⟨_, g1, _, _, _, r1, _, g2, _, _, _, r2, go_below0_too hA2 fun w31 hA hb31 => ?_⟩
      refine at_callb hA (c65 _ _ _ _) (fun w33 hA hk hb33 => ⟨_, _, rfl, fun W hW => r2 W (Below_tr hb31 (Below_tr hb33 hW)), ?_⟩)
      refine at_callb hA (c65 _ _ _ _) (fun w37 hA hk hb37 => ⟨_, _, rfl, ?_⟩)
      refine at_callb hA (c67 _ _ _ _ _) (fun w41 hA hk hb41 => ⟨_, rfl, hA, (((ho2.call hb31).call hb33).call hb37).call hb41, ?_⟩)
      simp only [decide_eq_true_eq, slotC_gt]
      exact ⟨fun h => ⟨q, t, rfl, .inr ⟨p, r, rfl, h⟩⟩, fun ⟨q', t', h1, h2⟩ => by
        cases h1
        rcases h2 with h2 | ⟨p', r', h2, h3⟩
        · cases h2
        · cases h2; exact h3⟩
  rintro b86 W3 ⟨hA3, ho3, hfb⟩
  simp only at hfb
  refine brB (fun hb86 => ?_) (fun hb86 => ?_)
  · obtain ⟨q, t, rfl, hq⟩ := hfb.1 hb86
    obtain ⟨ad, g1, r1, _⟩ := rdh hA3 rfl hb
    obtain ⟨a', g2, s2⟩ := rest rfl hb
    refine ⟨_, g1, _, _, _, r1, _, _, _, g2, go_below0_too hA3 fun w53 hA hb53 => ?_⟩
    refine push q hA (ho3.call hb53) (.inr (by simp)) fun a2 cc2 w60 hA ho _ _ => ⟨⟨hA, a, t, out ++ [q], ha, s2, ho, by simp at hlen ⊢; omega, hpa, fun x hx => hpb x (List.mem_cons_of_mem _ hx), ?_⟩, by simp only [List.length_cons]; omega⟩
    rw [← hg]
    rcases hq with rfl | ⟨p, r, rfl, hlt⟩
    · rw [vadd_nil, vadd_nil]
      simp
    · obtain ⟨q', t', h1, h2⟩ := hna p r rfl
      cases h1
      rw [vadd_gt h2 hlt, map_append]
  obtain ⟨p, r, rfl⟩ : ∃ p r, a = p :: r := by
    cases a with
    | nil =>
      cases b with
      | nil => exact absurd ⟨rfl, rfl⟩ hne
      | cons q t => exact absurd (hfb.2 ⟨q, t, rfl, .inl rfl⟩) (by rw [hb86]; decide)
    | cons p r => exact ⟨p, r, rfl⟩
  obtain ⟨q, t, rfl, hn1⟩ := hna p r rfl
  have hn2 : ¬ slt q p := fun hlt => absurd (hfb.2 ⟨q, t, rfl, .inr ⟨p, r, rfl, hlt⟩⟩) (by rw [hb86]; decide)
  rw [vadd_eq hn1 hn2] at hg
  have bp := (hpa p (List.mem_cons_self ..)).2
  have bq := (hpb q (List.mem_cons_self ..)).2
  obtain ⟨ad, g1, r1, _⟩ := rdh hA3 rfl ha
  obtain ⟨ad2, g2, r2, e2⟩ := rdh hA3 rfl hb
  refine ⟨_, g1, _, _, _, r1, fun n110 hn110 => ⟨_, g2, _, (e2.sub (o := 2) (by decide)).one (by kernel_rfl) (e2.far (by intro d hd; simp at hd; omega)), ?_⟩⟩
  have hsz := hA3.size
  refine go_evo_too hA3 (by intro d hd; simp at hd; omega) fun w113 hA hev => ?_
  have ho113 := (ho3.more (gs' := [n110]) (by intro g h1 h2; simp at h1; omega)).evo (by intro d hd h2; simp at hd h2; omega) hev
  refine at_callb hA (c75 p.2.2 q.2.2 9007199254740992 (by unfold I64; omega) (by unfold I64; omega) (by unfold I64; omega) _) (fun w115 hA hk hb115 => ?_)
  rw [qsum2 (by omega) (by omega)]
  by_cases hfit : p.2.2 + q.2.2 ≤ 9007199254740992
  · rw [if_pos hfit] at hg ⊢
    refine ⟨_, _, rfl, hk, ⟨fun hf => by simp at hf, fun _ => ?_⟩⟩
    obtain ⟨a', g3, s3⟩ := rest rfl ha
    obtain ⟨b', g4, s4⟩ := rest rfl hb
    refine ⟨_, _, _, g3, _, _, _, g4, ?_⟩
    have hsz := hA.size
    refine go_evo_too hA (by intro d hd; simp at hd; omega) fun w124 hA hev => ?_
    have ho124 := (ho113.call hb115).evo (by intro d hd h2; simp at hd h2; omega) hev
    refine opw_push (e' := 53) (bytes := 24) hA ho124 (p.1, p.2.1, p.2.2 + q.2.2) (by kernel_rfl) (by kernel_rfl) rfl (fun y _ => rfl) (oc _) (by simp at hlen; omega) (by decide) fun a2 cc2 w131 hA ho _ _ => ⟨⟨hA.off, r, t, out ++ [(p.1, p.2.1, p.2.2 + q.2.2)], s3, s4, ho.more (by intro g h1 h2; simp at h1), by simp at hlen ⊢; omega, fun x hx => hpa x (List.mem_cons_of_mem _ hx), fun x hx => hpb x (List.mem_cons_of_mem _ hx), ?_⟩, by simp only [List.length_cons]; omega⟩
    rw [← hg, map_append]
  · rw [if_neg hfit] at hg ⊢
    refine ⟨_, _, rfl, hk, ⟨fun _ => ?_, fun hf => by simp at hf⟩⟩
    have : vadd l1 l2 = none := by rw [← hg]; rfl
    exact leaflb h hA OwnL.nil (by rw [this]; rfl) (by rw [this]; rfl)
theorem cAddE {l1 l2 : List PartT} {aa ba : Option Addr} {an ac bn bc : Nat} (w : World) (h1 : SlE w 3 partE l1 aa an ac) (h2 : SlE w 3 partE l2 ba bn bc) :
    RetLB Tryz.prog 50 #[.slice aa an ac, .slice ba bn bc] w 53 3 partE (if vecB l1 = true ∧ vecB l2 = true then vout (vadd l1 l2) else []) (decide (vecB l1 = true ∧ vecB l2 = true) && (vadd l1 l2).isSome) := by
  by_cases hv : vecB l1 = true ∧ vecB l2 = true
  · exact c50 w h1 h2 (by have := vec_len' hv.1; omega) (by have := vec_len' hv.2; omega)
  · intro R h
    refine f50_calls aa an ac ba bn bc w R ?_
    unfold f50_vc
    have hA := At.refl w
    refine at_call hA (c40 _ h1) fun _ hA hk => ⟨_, rfl, ?_⟩
    refine brNB (fun hn => leaflb h hA OwnL.nil (by rw [if_neg (by rw [hn]; simp)]) (by rw [hn]; rfl)) (fun hv1 => ?_)
    refine at_call hA (c40 _ (h2.call hA.below)) fun _ hA hk => ⟨_, rfl, ?_⟩
    exact brNB (fun hn => leaflb h hA OwnL.nil (by rw [if_neg (by rw [hn]; simp)]) (by rw [hn]; simp)) (fun hv2 => absurd ⟨hv1, hv2⟩ hv)
end Go.Vc.ZW

/- Own text of this claim: ZvX5. -/
set_option maxRecDepth 20000
namespace Go.Vc.ZW
open Go Go.Vc Go.Vc.V Go.RowKit Go.Proofs Vcqz Vcqz

def sumA (a0 a1 a2 a3 b0 b1 b2 b3 : Int) : Value := if sumR a0 a1 a2 a3 ∧ sumR b0 b1 b2 b3 ∧ sumR (a0 + b0) (a1 + b1) (a2 + b2) (a3 + b3) then pairA (a0 + b0) (a1 + b1) (a2 + b2) (a3 + b3) true else pairA 0 0 0 0 false

theorem c41 (a0 a1 a2 a3 b0 b1 b2 b3 : Int) (w : World) : Ret Tryz.prog 41 #[arrV a0 a1 a2 a3, arrV b0 b1 b2 b3] w (sumA a0 a1 a2 a3 b0 b1 b2 b3) := by
  intro R h
  refine f41_calls a0 a1 a2 a3 b0 b1 b2 b3 w R ?_
  unfold f41_vc
  have hA := At.refl w
  refine go_n hA fun n1 h_n1 => ?_
  refine go_n hA fun n2 h_n2 => ?_
  refine go_n hA fun n3 h_n3 => ?_
  refine go_below hA fun _ hA => ?_
  refine at_call hA (c68 _ _ _ _ _) (fun _ hA hk => ⟨_, rfl, hk, ?_⟩)
  refine brND (fun hr => go_evo hA (by intro d hd; simp at hd; omega) fun _ hA => leaf h hA (by rw [sumA, if_neg (fun hh => hr hh.1)])) (fun ha => ?_)
  refine at_call hA (c68 _ _ _ _ _) (fun _ hA hk => ⟨_, rfl, hk, ?_⟩)
  refine brND (fun hr => go_evo hA (by intro d hd; simp at hd; omega) fun _ hA => leaf h hA (by rw [sumA, if_neg (fun hh => hr hh.2.1)])) (fun hb => ?_)
  have ha' := ha
  have hb' := hb
  unfold sumR at ha' hb'
  rw [wrap_i64 (x := a0 + b0) (by omega) (by omega), wrap_i64 (x := a1 + b1) (by omega) (by omega), wrap_i64 (x := a2 + b2) (by omega) (by omega), wrap_i64 (x := a3 + b3) (by omega) (by omega)]
  refine go_evo hA (by intro d hd; simp at hd; omega) fun _ hA => ?_
  refine at_call hA (c68 _ _ _ _ _) (fun _ hA hk => ⟨_, rfl, hk, ?_⟩)
  exact brND (fun hr => go_evo hA (by intro d hd; simp at hd; omega) fun _ hA => leaf h hA (by rw [sumA, if_neg (fun hh => hr hh.2.2)])) (fun hc => go_evo hA (by intro d hd; simp at hd; omega) fun _ hA => leaf h hA (by rw [sumA, if_pos ⟨ha, hb, hc⟩]))


theorem gives_slice_arr0 {t e : TypeId} {n m : Nat} {ad : Addr} (ht : Tryz.prog.underlying t = some (.array m e)) (hs : pureRun Tryz.prog (sizeOf e) = some n) : Gives Tryz.prog (Instr.sliceAt t (.pointer (some ad)) none none none) (.slice (some ad) m m) := by
  intro W
  have he : Tryz.prog.elem t = e := by simp [Program.elem, ht]
  have hl : Tryz.prog.arrayLen t = m := by simp [Program.arrayLen, ht]
  have hh := run_sliceAt_array_all (P := Tryz.prog) W t ad (by rw [he, hl]; exact ht)
  rw [hh, he, pureRun_run hs W, hl]
  have h0 : ad.add 0 = ad := by unfold Addr.add; simp
  simp only [Result.andThen, slicedAt, Nat.sub_zero, Nat.zero_mul, h0, ite_self]
abbrev intE (x : Int) : List Value := [.int .i64 x]
def maxG (a : Int) (l : List Int) : Int := l.foldl (fun a x => if x > a then x else a) a
theorem c43 {x0 : Int} {l : List Int} {a : Option Addr} {n c : Nat} (w : World) (hs : SlE w 1 intE (x0 :: l) a n c) : Ret Tryz.prog 43 #[.slice a n c] w (.int .i64 (maxG x0 l)) := by
  intro R hR
  refine f43_calls a n c w R ?_
  unfold f43_vc
  have hn := hs.len_le
  have e1 : n = l.length + 1 := hs.1
  refine brD (fun h => by omega) (fun _ => ?_)
  obtain ⟨ad, g1, el, _⟩ := elt_at (P := Tryz.prog) (k := .i64) (t := 99) hs (i := 0) (x := x0) rfl (e := 2) (by kernel_rfl) (by kernel_rfl)
  refine ⟨ad, g1, _, el.one (by kernel_rfl) (by simp), fun v W' => At w [] W' ∧ ∃ i : Nat, v.2.1 = ((i + 1 : Nat) : Int) ∧ i ≤ l.length ∧ v.1 = maxG x0 (l.take i), fun v _ => (n - v.2.1).toNat, ⟨At.refl w, 0, rfl, Nat.zero_le _, rfl⟩, ?_⟩
  rintro x16 x17 w18 ⟨hA, i, hi, hil, hx⟩
  simp only at hi hx
  subst hi
  refine brD (fun hlt => ?_) (fun hge => ?_)
  · obtain ⟨y, hy⟩ : ∃ y, l[i]? = some y := ⟨_, List.getElem?_eq_getElem (by omega)⟩
    obtain ⟨ad, g1, el, _⟩ := elt_at (P := Tryz.prog) (k := .i64) (t := 99) (hs.call hA.below) (i := i + 1) (x := y) (by simpa using hy) (e := 2) (by kernel_rfl) (by kernel_rfl)
    rw [succ_i (i + 1) (by omega)]
    refine ⟨ad, g1, _, el.one (by kernel_rfl) (by simp), ⟨hA, i + 1, rfl, by omega, ?_⟩, by simp only; omega⟩
    simp only
    unfold maxG at *
    rw [List.take_add_one, hy, List.foldl_append, ← hx]
    rfl
  · have : i = l.length := by omega
    rw [hx, this, List.take_length]
    exact leaf hR hA rfl
end Go.Vc.ZW

