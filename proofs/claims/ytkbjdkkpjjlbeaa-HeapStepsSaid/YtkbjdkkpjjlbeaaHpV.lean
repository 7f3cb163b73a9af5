/- Own text of this claim: HpV. -/
import Derived.Test.YtkbjdkkpjjlbeaaHpU
set_option maxRecDepth 20000
namespace Go.Vc.H
open Go Go.Vc Go.RowKit Go.Proofs Vcc

variable {w W W' : World} {M : Nat → Prop} {gs : List Nat} {g c r : Nat} {a : Option Addr} {l pl s : List It} {st : Int}

/-! ### A nil heap, and a plain one -/
theorem n32 (w : World) : Ret Try.prog 32 #[.pointer none] w (.bool false) := by
  intro R h
  refine f32_calls _ w R ?_
  unfold f32_vc
  exact ⟨false, (fun W => rfl), brB (fun e => by cases e) (fun _ => leaf h (At.refl w) rfl)⟩
theorem n18 (w : World) : Ret Try.prog 18 #[.pointer none] w (.tuple #[.int .i64 0, .int .i64 0, .bool false]) := by
  intro R h
  refine f18_calls _ w R ?_
  unfold f18_vc
  exact at_callb (At.refl w) (n32 w) fun w2 hA _ hb => ⟨_, rfl, brB (fun _ => leaf h hA rfl) (fun e => by cases e)⟩
theorem n11 (w : World) : Ret Try.prog 11 #[.pointer none] w (.tuple #[.int .i64 0, .int .i64 0, .bool false]) := by
  intro R h
  refine f11_calls _ w R ?_
  unfold f11_vc
  exact at_callb (At.refl w) (n18 w) fun w2 hA _ hb => ⟨_, _, _, rfl, brB (fun e => by cases e) (fun _ => leaf h hA rfl)⟩
theorem n10 (k t : Int) (w : World) : Ret Try.prog 10 #[.pointer none, .int .i64 k, .int .i64 t] w (.bool false) := by
  intro R h
  refine f10_calls _ _ _ w R ?_
  unfold f10_vc
  exact at_callb (At.refl w) (n32 w) fun w2 hA _ hb => ⟨_, rfl, brB (fun _ => leaf h hA rfl) (fun e => by cases e)⟩
theorem n15 (now : Int) (w : World) : Ret Try.prog 15 #[.pointer none, .int .i64 now] w (.slice none 0 0) := by
  intro R h
  refine f15_calls _ _ w R ?_
  unfold f15_vc
  refine at_callb (At.refl w) (n18 w) fun w2 hA _ hb => ⟨_, _, _, rfl, ?_⟩
  refine ⟨fun v W => v.1 = (none, 0, 0) ∧ v.2.2.2.1 = false ∧ At w [] W, fun _ _ => 0, ⟨rfl, rfl, hA⟩, ?_⟩
  rintro a8 n9 n10 x11 x12 b13 w14 ⟨h1, h2, hA⟩
  simp only at h1 h2
  cases h1
  subst h2
  exact brB (fun e => by cases e) (fun _ => leaf h hA rfl)

/-- A plain heap. -/
def Pl (W : World) (g : Nat) : Prop := W.heap[g]? = some (.cells (#[.slice none 0 0, .map none, .int .i64 0]) 39 (0, 0))
theorem Pl.call (h : Pl W g) (hb : Bel W W') : Pl W' g := by
  have := (Array.getElem?_eq_some_iff.1 h).1
  rw [Pl, hb.block this]
  exact h
theorem p32 (H : Pl W g) : Ret Try.prog 32 #[hpV g] W (.bool false) := by
  intro R h
  refine f32_calls _ W R ?_
  unfold f32_vc
  exact ⟨true, (fun W => rfl), brB (fun _ => ⟨_, rfl, none, rd_f 0 (cs := [.slice none 0 0, .map none, .int .i64 0]) H rfl (by kernel_rfl) (by simp), false, (fun W => rfl), leaf h (At.refl W) rfl⟩) (fun e => by cases e)⟩
theorem p10 (k t : Int) (H : Pl W g) : Ret Try.prog 10 #[hpV g, .int .i64 k, .int .i64 t] W (.bool false) := by
  intro R h
  refine f10_calls _ _ _ W R ?_
  unfold f10_vc
  exact at_callb (At.refl W) (p32 H) fun w2 hA _ hb => ⟨_, rfl, brB (fun _ => leaf h hA rfl) (fun e => by cases e)⟩
theorem p13 (H : Pl W g) : Ret Try.prog 13 #[hpV g] W (.int .i64 0) := by
  intro R h
  refine f13_calls _ W R ?_
  unfold f13_vc
  exact at_callb (At.refl W) (p32 H) fun w2 hA _ hb => ⟨_, rfl, brB (fun _ => leaf h hA rfl) (fun e => by cases e)⟩

theorem opw_plain {K : Value → World → Prop} (hA : AtF w M gs W) (h : ∀ g w', AtF w M gs w' → Bel W w' → Pl w' g → K (hpV g) w') : OpW Try.prog (valueS (Instr.alloc 39 true (.tuple #[]))) W K := by
  have hz : pureRun Try.prog (zeroValue 39) = some (.agg #[.slice none 0 0, .map none, .int .i64 0]) := by kernel_rfl
  unfold OpW
  rw [run_valueS (run_alloc hz)]
  exact h _ _ (hA.call (below_alloc _)) (below_alloc _) (heap_alloc_new W _)

theorem at_due {K : Ending → World → Prop} (now : Int) (hA : At w [] W) (h : HpS w W g s st) (hs : s.length ≤ 900) (hst : 0 ≤ st ∧ st < 1152921504606846976)
    (hK : ∀ a n c s' st' W', At w [] W' → HpS w W' g s' st' → s'.length + n ≤ s.length → st ≤ st' → st' ≤ st + ((n * (2 * lev (s.length - 1)) : Nat) : Int) → K (.returned (.slice a n c)) W') : Calls Try.prog 15 #[hpV g, .int .i64 now] W K := by
  obtain ⟨a, c, r, l, pl, H, hH, hP, hr⟩ := h.ex
  have hl := hr.len hP
  have hc15 : RetF Try.prog 15 #[hpV g, .int .i64 now] W (fpH g a r) (fun v W' => ∃ l' pl' st', (∃ d : List It, OwnF W (fpH g a r) [] W' 2 1 inE v (d.map (·.1)) ∧ DueP now l st d l' pl' st') ∧ HpPost W g a r W' l' pl' st') := fun R k => c15 now ⟨hH, hP, by omega, hst.1, by omega⟩ (by omega) hst.2 H.entry R fun v W' hc ⟨d, ho, l', pl', st', hd, hp⟩ => k v W' hc ⟨l', pl', st', ⟨d, ho, hd⟩, hp⟩
  refine at_hpQ hA H hc15 fun v a6 c6 l6 pl6 st6 w53 hA hk6 hch ⟨d, ho, hd⟩ H6 => ?_
  obtain ⟨a54, c54, rfl, _⟩ := ho.slice (fun _ _ => rfl)
  have hr' := (hr.due hd).1
  have h1 := hd.st1
  have h2 := hd.len
  have hl' := hr'.len hd.pl
  rw [← hl] at h1
  rw [List.length_map]
  exact hK _ _ _ _ _ _ hA ⟨_, _, _, _, _, H6, hd.heap, hd.pl, hr'⟩ (by omega) hd.st0 (by rw [Int.natCast_mul]; exact h1)

theorem dg_mono : ∀ (b a : Nat), a ≤ b → dg a ≤ dg b := by
  intro b
  induction b using Nat.strongRecOn with
  | _ b ih =>
    intro a h
    rcases Nat.eq_zero_or_pos a with h0 | hp
    · subst h0; rw [dg_zero]; exact Nat.zero_le _
    · rw [dg_pos hp, dg_pos (by omega : 0 < b)]
      exact Nat.succ_le_succ (ih _ (by omega) _ (by omega))
theorem lev_dg' {n m : Nat} (h : n ≤ m) : lev (n - 1) ≤ dg (m + 1) := Nat.le_trans (lev_dg (n - 1)) (dg_mono _ _ (by omega))

theorem law4 {acts : List Ac} {a : Option Addr} {n c : Nat} (w : World) (hs : SlE w 3 acE acts a n c) : Ret Try.prog 4 #[.slice a n c] w (.bool true) := by
  intro R h
  refine f4_calls _ _ _ w R ?_
  unfold f4_vc
  have hn := hs.len_le.1
  refine brD (fun _ => leaf h (At.refl w) rfl) (fun hle => ?_)
  have rd : ∀ {W : World} {k : Nat} {x : Ac}, At w [] W → acts[k]? = some x → ∃ ad, Gives Try.prog (Instr.indexAt 30 (.slice a n c) (.int .i64 (k : Int))) (.pointer (some ad)) ∧ Elt W ad (acE x) := fun hA hx => by
    obtain ⟨ad, g1, el, _⟩ := elt_at (P := Try.prog) (k := .i64) (t := 30) (hs.call hA.below) hx (e := 33) (by kernel_rfl) (by kernel_rfl)
    exact ⟨ad, g1, el⟩
  refine at_new (At.refl w) fun g W hA _ H => ⟨_, rfl, ?_⟩
  refine ⟨fun v W => ∃ calls most k : Nat, v.1 = calls ∧ v.2.1 = most ∧ v.2.2.1 = k ∧ k ≤ n ∧ At w [] W ∧ ∃ s st, HpS w W g s st ∧ s.length ≤ most ∧ most ≤ k ∧ calls ≤ 300 * k ∧ 0 ≤ st ∧ st ≤ ((2 * dg (most + 1) * calls : Nat) : Int), fun v _ => (n - v.2.2.1).toNat, ⟨0, 0, 0, rfl, rfl, rfl, by omega, hA, [], 0, H, by simp, by omega, by omega, by omega, by simp⟩, ?_⟩
  rintro x6 x7 x8 w9 ⟨calls, most, k, h1, h2, h3, hkn, hA, s, st, H, hsm, hmk, hck, h0, hst⟩
  simp only at h1 h2 h3
  subst h1 h2 h3
  have hdg := dg_le (most + 1)
  have hmul : 2 * dg (most + 1) * calls ≤ 602 * 90000 := Nat.mul_le_mul (by omega) (by omega)
  refine brD (fun hlt => ?_) (fun hge => ?_)
  · obtain ⟨x, hx⟩ : ∃ x, acts[k]? = some x := ⟨_, List.getElem?_eq_getElem (by omega)⟩
    refine at_long hA H fun W hA _ H => ⟨_, rfl, ?_⟩
    refine ⟨fun v W => ∃ calls' : Nat, v.1 = calls' ∧ At w [] W ∧ ∃ s' st', HpS w W g s' st' ∧ s'.length ≤ s.length + 1 ∧ calls' ≤ calls + 300 ∧ 0 ≤ st' ∧ ∀ m, most ≤ m → s'.length ≤ m → st' ≤ ((2 * dg (m + 1) * calls' : Nat) : Int), ⟨?_, ?_⟩⟩
    · have step : ∀ {m nn : Nat} {st' : Int} {L : Nat}, most ≤ m → L ≤ dg (m + 1) → st' ≤ st + ((nn * (2 * L) : Nat) : Int) → st' ≤ ((2 * dg (m + 1) * (calls + nn) : Nat) : Int) := fun {m nn st' L} hm hL hst' => by
        have e1 : 2 * dg (most + 1) * calls ≤ 2 * dg (m + 1) * calls := Nat.mul_le_mul_right _ (Nat.mul_le_mul_left _ (dg_mono _ _ (by omega)))
        have e2 : nn * (2 * L) ≤ 2 * dg (m + 1) * nn := by
          rw [Nat.mul_comm]
          exact Nat.mul_le_mul_right _ (Nat.mul_le_mul_left _ hL)
        rw [Nat.mul_add]
        omega
      have one : ∀ {m : Nat} {st' : Int} {L : Nat}, most ≤ m → L ≤ dg (m + 1) → st' ≤ st + 2 * (L : Int) → st' ≤ ((2 * dg (m + 1) * (calls + 1) : Nat) : Int) := fun {m st' L} hm hL hst' => step (nn := 1) hm hL (by omega)
      obtain ⟨ad, g1, el⟩ := rd hA hx
      refine ⟨ad, g1, _, el.one (by kernel_rfl) (by simp), brE (fun _ => ?_) (fun _ => brE (fun _ => ?_) (fun _ => brE (fun _ => ?_) (fun _ => ?_)))⟩
      · refine ⟨ad, g1, _, (el.sub (o := 1) (by decide)).one (by kernel_rfl) (by simp), ad, g1, _, (el.sub (o := 2) (by decide)).one (by kernel_rfl) (by simp), go_below0_too hA fun w20 hA hb => ?_⟩
        obtain ⟨a', c', r, l, pl, H0, hH, hP, hr⟩ := H.ex
        have H : HpS w w20 g s st := ⟨_, _, _, _, _, H0.call hb, hH, hP, hr⟩
        refine at_put x.2.1 x.2.2 hA H (by omega) (by omega) fun st' W hA _ H q1 q2 => ⟨_, rfl, ?_⟩
        rw [succ_i64 calls (by omega)]
        refine ⟨calls + 1, rfl, hA, _, st', H, ?_, by omega, by omega, fun m hm1 hm2 => one hm1 (lev_dg' hm2) q2⟩
        rw [putR, len_ins]
        have := dropR_len x.2.1 s
        simp only
        omega
      · refine ⟨ad, g1, _, (el.sub (o := 1) (by decide)).one (by kernel_rfl) (by simp), ?_⟩
        refine at_drop x.2.1 hA H (by omega) (by omega) fun st' W hA _ H q1 q2 => ⟨_, rfl, ?_⟩
        rw [succ_i64 calls (by omega)]
        have := dropR_len x.2.1 s
        exact ⟨calls + 1, rfl, hA, _, st', H, by omega, by omega, by omega, fun m hm1 _ => one hm1 (lev_dg' (n := s.length) (by omega)) q2⟩
      · refine at_pop hA H (by omega) (by omega) fun st' W hA _ H q1 q2 => ?_
        have hpk : ∃ x y b, peekV s = .tuple #[.int .i64 x, .int .i64 y, .bool b] := by
          unfold peekV
          split
          · exact ⟨_, _, _, rfl⟩
          · exact ⟨_, _, _, rfl⟩
        obtain ⟨y1, y2, y3, e⟩ := hpk
        rw [succ_i64 calls (by omega)]
        exact ⟨y1, y2, y3, by rw [e], calls + 1, rfl, hA, _, st', H, by rw [List.length_tail]; omega, by omega, by omega, fun m hm1 _ => one hm1 (lev_dg' (n := s.length) (by omega)) q2⟩
      · refine ⟨ad, g1, _, (el.sub (o := 2) (by decide)).one (by kernel_rfl) (by simp), ?_⟩
        refine at_due x.2.2 hA H (by omega) (by omega) fun a3 n3 c3 s' st' W hA H q0 q1 q2 => ⟨_, _, _, rfl, ?_⟩
        have e : IntKind.i64.wrap ((calls : Int) + (n3 : Int)) = ((calls + n3 : Nat) : Int) := by rw [wrap_i64 (by omega) (by omega)]; rfl
        rw [e]
        exact ⟨calls + n3, rfl, hA, s', st', H, by omega, by omega, by omega, fun m hm1 _ => step hm1 (lev_dg' (n := s.length) (by omega)) q2⟩
    · rintro x41 w42 ⟨calls', e1, hA, s', st', H, q1, q2, q3, q4⟩
      simp only at e1
      subst e1
      refine at_long hA H fun W hA _ H => ⟨_, rfl, ?_⟩
      have emost : (if (s'.length : Int) > if (s.length : Int) > (most : Int) then (s.length : Int) else (most : Int) then (s'.length : Int) else if (s.length : Int) > (most : Int) then (s.length : Int) else (most : Int)) = ((max most s'.length : Nat) : Int) := by
        rw [if_neg (by omega : ¬ (s.length : Int) > (most : Int))]
        split <;> omega
      rw [emost]
      generalize hm : max most s'.length = m
      have hm1 : most ≤ m := by omega
      have hm2 : s'.length ≤ m := by omega
      have hst' := q4 m hm1 hm2
      rw [succ_i64 m (by omega)]
      refine ⟨fun v W => ∃ d nn : Nat, v.1 = d ∧ v.2.1 = nn ∧ At w [] W ∧ HpS w W g s' st' ∧ d + dg nn = dg (m + 1) ∧ nn ≤ m + 1, fun v _ => v.2.1.toNat, ⟨0, m + 1, rfl, rfl, hA, H, by omega, by omega⟩, ?_⟩
      rintro x48 x49 w50 ⟨d, nn, e1, e2, hA, H, hd, hnn⟩
      simp only at e1 e2
      subst e1 e2
      have hdm := dg_le (m + 1)
      refine brD (fun hpos => ?_) (fun hz => ?_)
      · have e3 : IntKind.i64.wrap ((nn : Int).tdiv 2) = ((nn / 2 : Nat) : Int) := by
          rw [Int.tdiv_eq_ediv_of_nonneg (by omega), wrap_i64 (by omega) (by omega)]; omega
        rw [succ_i64 d (by omega), e3]
        have := dg_pos (n := nn) (by omega)
        exact ⟨⟨d + 1, nn / 2, rfl, rfl, hA, H, by omega, by omega⟩, by simp only; omega⟩
      · have hn0 : nn = 0 := by omega
        subst hn0
        rw [dg_zero] at hd
        have hd : d = dg (m + 1) := by omega
        subst hd
        have hmul2 : 2 * dg (m + 1) * calls' ≤ 604 * 90300 := Nat.mul_le_mul (by omega) (by omega)
        have e4 : IntKind.i64.wrap (IntKind.i64.wrap (2 * (dg (m + 1) : Int)) * (calls' : Int)) = ((2 * dg (m + 1) * calls' : Nat) : Int) := by
          rw [wrap_i64 (x := 2 * (dg (m + 1) : Int)) (by omega) (by omega)]
          have : 2 * (dg (m + 1) : Int) * (calls' : Int) = ((2 * dg (m + 1) * calls' : Nat) : Int) := by rw [Int.natCast_mul, Int.natCast_mul]; rfl
          rw [this, wrap_i64 (by omega) (by omega)]
        rw [e4, succ_i64 k (by omega)]
        refine ⟨fun v W => v.1 = false ∧ At w [] W ∧ HpS w W g s' st', ⟨?_, ?_⟩⟩
        · refine at_steps hA H fun W hA _ H => ⟨_, rfl, brD (fun hgt => by omega) (fun _ => ?_)⟩
          refine at_steps hA H fun W hA _ H => ⟨_, rfl, decide_eq_false (by omega), hA, H⟩
        · rintro b58 w59 ⟨hb, hA, H⟩
          simp only at hb
          subst hb
          refine brB (fun e => by cases e) (fun _ => ⟨⟨calls', m, k + 1, rfl, rfl, rfl, by omega, hA, s', st', H, hm2, by omega, by omega, q3, hst'⟩, by simp only; omega⟩)
  · refine opw_plain hA fun g2 w61 hA _ HP => ⟨_, rfl, ?_⟩
    refine at_callb hA (n11 w61) fun W hA _ hb => ⟨_, _, _, rfl, ?_⟩
    have HP := HP.call hb
    refine at_callb hA (n10 1 1 W) fun W hA _ hb => ⟨_, rfl, brB (fun _ => brB (fun _ => ?_) (fun e => by cases e)) (fun e => by cases e)⟩
    have HP := HP.call hb
    refine at_callb hA (n15 9 W) fun W hA _ hb => ⟨_, _, _, rfl, brE (fun _ => ?_) (fun e => absurd rfl e)⟩
    have HP := HP.call hb
    refine at_callb hA (p10 1 1 HP) fun W hA _ hb => ⟨_, rfl, brB (fun _ => ?_) (fun e => by cases e)⟩
    have HP := HP.call hb
    refine at_callb hA (p13 HP) fun W hA _ hb => ⟨_, rfl, brE (fun _ => ?_) (fun e => absurd rfl e)⟩
    exact at_callb hA (c12 W) fun W hA _ _ => ⟨_, rfl, leaf h hA rfl⟩
end Go.Vc.H
