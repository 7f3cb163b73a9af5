/- Own text of this claim: Td7. -/
import Derived.Test.YtfipbnoidoljoaaTd6
import Derived.Test.YtfipbnoidoljoaaVcPush
import Derived.Test.YtfipbnoidoljoaaVcEq
set_option maxRecDepth 20000
namespace Go.Vc.T
open Go Go.Vc Go.RowKit Go.Proofs Vcd1

variable {w W W' W1 : World} {M : Nat → Prop} {gs : List Nat} {b g d : Nat} {k : Int} {p p' pl pr : Option Addr} {t l l' r r' : Tr Int} {bs bs' bl br cb : List Nat} {fv : Value} {cf : Int → Int → Int} {In : Int → Prop} {f : FuncId} {cap : Array Value} {L : List Int}

abbrev i1E (x : Int) : List Value := [.int .i64 x]
/-- A list that a box holds. -/
def SL (w W : World) (d : Nat) (L : List Int) : Prop := ∃ a c, W.heap[d]? = some (.cells ([.slice a L.length c] : List Value).toArray 27 (0, 0)) ∧ w.heap.size ≤ d ∧ OwnL w [] W 3 1 i1E (.slice a L.length c) L
theorem SL.call (h : SL w W d L) (hb : Bel W W') : SL w W' d L := by
  obtain ⟨a, c, h1, h2, h3⟩ := h
  exact ⟨a, c, by rw [hb.block (Array.getElem?_eq_some_iff.1 h1).1]; exact h1, h2, h3.call hb⟩

theorem at_65 {K : Ending → World → Prop} (x : Int) (hA : At w [] W) (h : SL w W d L) (hl : L.length < 1048576)
    (hK : ∀ W', At w [] W' → SL w W' d (L ++ [x]) → K (.returned (.tuple #[])) W') : Calls Try.prog 65 #[.int .i64 x, .pointer (pt d)] W K := by
  refine f65_calls _ _ W K ?_
  unfold f65_vc
  obtain ⟨a, c, h1, h2, h3⟩ := h
  refine ⟨_, _, _, rd_f0 h1 (by kernel_rfl) nod, ?_⟩
  refine opw_push0 (e' := 3) (bytes := 8) hA h3 x (by kernel_rfl) (by kernel_rfl) rfl (fun _ _ => rfl) (by simp [Value.oneCell']) (by omega) (by decide) fun a2 c2 w10 hA ho hg _ => ?_
  have h1' : w10.heap[d]? = _ := (hg.block d (Array.getElem?_eq_some_iff.1 h1).1 (fun e => by
    obtain ⟨cur, hc⟩ := h3.blk e.symm
    exact cells_ne hc h1 (by decide) rfl)).trans h1
  refine opw_storeF hA h1' (.inl h2) (by simp) (cells' := [.slice a2 (L ++ [x]).length c2]) (by kernel_rfl) fun w15 hA _ hc hb => ?_
  exact hK w15 hA ⟨a2, c2, hb, h2, ho.chg hc fun q hq e => by
    subst e
    obtain ⟨cur, hcu⟩ := ho.blk hq
    exact cells_ne hcu h1' (by decide) rfl⟩

theorem at_each : ∀ (t : Tr Int) (p : Option Addr) (bs : List Nat), Rep w t p bs → ∀ (W : World) (L : List Int) (K : Ending → World → Prop), At w [] W → SL w W d L → L.length + t.size < 1048576 →
    (∀ W', At w [] W' → SL w W' d (L ++ t.toL) → K (.returned (.tuple #[])) W') → Calls Try.prog 64 #[.pointer p, fnV 65 #[.pointer (pt d)]] W K
  | .nil, p, bs, H, W, L, K, hA, hS, hl, hK => by
    obtain ⟨rfl, _⟩ := H
    refine f64_calls _ _ W K ?_
    unfold f64_vc
    refine ⟨false, (fun W => rfl), brB (fun e => by cases e) (fun _ => hK W hA ?_)⟩
    simpa [Tr.toL] using hS
  | .node l k r, p, bs, H, W, L, K, hA, hS, hl, hK => by
    obtain ⟨b, pl, pr, bl, br, rfl, _, H⟩ := H.node
    refine f64_calls _ _ W K ?_
    unfold f64_vc
    simp only [Tr.size] at hl
    refine ⟨true, (fun W => rfl), brB (fun _ => ?_) (fun e => by cases e)⟩
    refine ⟨_, rfl, _, rdL (H.call hA.below) nod, ?_⟩
    refine at_each l pl bl H.rl W L _ hA hS (by omega) fun w5 hA hS => ⟨rfl, _, rfl, _, rdK (H.call hA.below) nod, ?_⟩
    have hll := Tr.size_len l
    refine opw_invoke (by kernel_rfl) ?_
    refine at_65 k hA hS (by rw [List.length_append]; omega) fun w9 hA hS => ⟨_, rfl, rfl, _, rfl, _, rdR (H.call hA.below) nod, ?_⟩
    refine at_each r pr br H.rr w9 _ _ hA hS (by simp only [List.length_append, List.length_cons, List.length_nil]; omega) fun w13 hA hS => ⟨rfl, hK w13 hA ?_⟩
    have e : L ++ l.toL ++ [k] ++ r.toL = L ++ (l.toL ++ k :: r.toL) := by simp
    rw [e] at hS
    exact hS

theorem c24 {w0 : World} (h : TS w0 W g f cap cf In cb t) : RetL Try.prog 24 #[.pointer (pt g)] W 3 1 i1E t.toL := by
  intro R hR
  refine f24_calls _ W R ?_
  unfold f24_vc
  obtain ⟨root, bs, h1, h2, h3, h4, h5, h6⟩ := h.ex
  have hsz := h.size
  have hA := At.refl W
  have hz : pureRun Try.prog (zeroValue 27) = some (.slice none 0 0) := by kernel_rfl
  unfold OpW
  rw [run_valueS (run_alloc hz)]
  refine ⟨_, rfl, ?_⟩
  have hA : At W [] (W.alloc (.cells (Value.slice none 0 0).cells 27)) := hA.call (below_alloc _)
  have hS : SL W (W.alloc (.cells (Value.slice none 0 0).cells 27)) W.heap.size [] := ⟨none, 0, heap_alloc_new W _, Nat.le_refl _, OwnF.nil⟩
  refine at_callb hA (c60 ((hA.below.block h5.glt).trans h1)) fun w5 hA _ hb => ⟨_, rfl, brB (fun _ => ?_) (fun e => by cases e)⟩
  have hS := hS.call hb
  refine ⟨_, rfl, _, rd_f 0 ((hA.below.block h5.glt).trans h1) rfl (by kernel_rfl) nod, ?_⟩
  refine at_each t root bs h3 w5 [] _ hA hS (by simp; omega) fun w10 hA hS => ⟨rfl, ?_⟩
  rw [List.nil_append] at hS
  obtain ⟨a, c, s1, s2, s3⟩ := hS
  exact ⟨_, _, _, rd_f0 s1 (by kernel_rfl) nod, leafl hR hA s3 rfl⟩

/-! ### Orders -/
theorem tmod_bounds (a : Int) {m : Int} (hm : 0 < m) : -m < a.tmod m ∧ a.tmod m < m := by
  have h1 := Int.tmod_lt_of_pos a hm
  have h2 := Int.tmod_lt_of_pos (-a) hm
  rw [Int.neg_tmod] at h2
  omega
/-- What is left of a division, from 0 on. -/
def rs (m a : Int) : Int := if a.tmod m < 0 then a.tmod m + m else a.tmod m
theorem rs_bounds (a : Int) {m : Int} (hm : 0 < m) : 0 ≤ rs m a ∧ rs m a < m := by
  have := tmod_bounds a hm
  unfold rs
  split <;> omega
theorem c59 (a m : Int) (hm : 1 < m) (hm2 : m ≤ 1000) (w : World) : Ret Try.prog 59 #[.int .i64 a, .int .i64 m] w (.int .i64 (rs m a)) := by
  intro R h
  refine f59_calls _ _ w R ?_
  unfold f59_vc
  have hb := tmod_bounds a (show 0 < m by omega)
  unfold rs at h
  refine ⟨_, gives_rem (by omega), brD (fun hneg => ?_) (fun hpos => ?_)⟩
  · rw [wrap_i64 (by omega) (by omega)]
    rw [if_pos hneg] at h
    exact leaf h (At.refl w) rfl
  · rw [if_neg hpos] at h
    exact leaf h (At.refl w) rfl
def sg (a b : Int) : Int := if a < b then -1 else if a > b then 1 else 0
def cfO (m a b : Int) : Int := if m > 1 ∧ rs m a ≠ rs m b then rs m a - rs m b else sg a b
theorem sg_neg {a b : Int} : sg a b < 0 ↔ a < b := by
  unfold sg
  split
  · constructor <;> intro h <;> omega
  · split
    · constructor <;> intro h <;> omega
    · constructor <;> intro h <;> omega
theorem sg_pos {a b : Int} : sg a b > 0 ↔ b < a := by
  unfold sg
  split
  · constructor <;> intro h <;> omega
  · split
    · constructor <;> intro h <;> omega
    · constructor <;> intro h <;> omega
theorem sg_zero {a b : Int} : sg a b = 0 ↔ a = b := by
  unfold sg
  split
  · constructor <;> intro h <;> omega
  · split
    · constructor <;> intro h <;> omega
    · constructor <;> intro h <;> omega
theorem sg_ord : Tr.Ord sg := ⟨fun _ _ => sg_zero, fun _ _ => sg_neg.trans sg_pos.symm, fun a b c h1 h2 => by rw [sg_neg] at *; omega⟩
theorem c26 (a b : Int) (w : World) : Ret Try.prog 26 #[.int .i64 a, .int .i64 b] w (.int .i64 (sg a b)) := by
  intro R h
  refine f26_calls _ _ w R ?_
  unfold f26_vc
  unfold sg at h
  refine brD (fun h1 => ?_) (fun h1 => brD (fun h2 => ?_) (fun h2 => ?_))
  · rw [if_pos h1] at h; exact leaf h (At.refl w) rfl
  · rw [if_neg h1, if_pos h2] at h; exact leaf h (At.refl w) rfl
  · rw [if_neg h1, if_neg h2] at h; exact leaf h (At.refl w) rfl
theorem c12 (m a b : Int) (hm : m ≤ 1000) (w : World) : Ret Try.prog 12 #[.int .i64 m, .int .i64 a, .int .i64 b] w (.int .i64 (cfO m a b)) := by
  intro R h
  refine f12_calls _ _ _ w R ?_
  unfold f12_vc
  have hA := At.refl w
  unfold cfO sg at h
  refine brD (fun hm1 => ?_) (fun hm1 => ?_)
  · have ha := rs_bounds a (show 0 < m by omega)
    have hb := rs_bounds b (show 0 < m by omega)
    refine at_callb hA (c59 a m hm1 hm w) fun w2 hA _ _ => ⟨_, rfl, at_callb hA (c59 b m hm1 hm w2) fun w5 hA _ _ => ⟨_, rfl, brN (fun hne => ?_) (fun he => ?_)⟩⟩
    · rw [if_pos ⟨hm1, hne⟩] at h
      refine at_callb hA (c59 a m hm1 hm w5) fun w8 hA _ _ => ⟨_, rfl, at_callb hA (c59 b m hm1 hm w8) fun w11 hA _ _ => ⟨_, rfl, ?_⟩⟩
      rw [wrap_i64 (by omega) (by omega)]
      exact leaf h hA rfl
    · rw [if_neg (fun e => e.2 he)] at h
      refine brD (fun h1 => ?_) (fun h1 => brD (fun h2 => ?_) (fun h2 => ?_))
      · rw [if_pos h1] at h; exact leaf h hA rfl
      · rw [if_neg h1, if_pos h2] at h; exact leaf h hA rfl
      · rw [if_neg h1, if_neg h2] at h; exact leaf h hA rfl
  · rw [if_neg (fun e => hm1 e.1)] at h
    refine brD (fun h1 => ?_) (fun h1 => brD (fun h2 => ?_) (fun h2 => ?_))
    · rw [if_pos h1] at h; exact leaf h hA rfl
    · rw [if_neg h1, if_pos h2] at h; exact leaf h hA rfl
    · rw [if_neg h1, if_neg h2] at h; exact leaf h hA rfl
theorem cfO_ord (m : Int) : Tr.Ord (cfO m) := by
  refine ⟨fun a b => ?_, fun a b => ?_, fun a b c h1 h2 => ?_⟩
  · unfold cfO
    split
    · rename_i h
      constructor
      · intro e; exact absurd (by omega) h.2
      · intro e; subst e; exact absurd rfl h.2
    · exact sg_ord.eq a b
  · unfold cfO
    by_cases h : m > 1 ∧ rs m a ≠ rs m b
    · rw [if_pos h, if_pos ⟨h.1, fun e => h.2 e.symm⟩]; omega
    · rw [if_neg h, if_neg (fun e => h ⟨e.1, fun e2 => e.2 e2.symm⟩)]
      exact sg_ord.flip a b
  · unfold cfO at *
    by_cases hm : m > 1
    · by_cases hab : rs m a = rs m b
      · rw [if_neg (fun e => e.2 hab)] at h1
        by_cases hbc : rs m b = rs m c
        · rw [if_neg (fun e => e.2 hbc)] at h2
          rw [if_neg (fun e => e.2 (hab.trans hbc))]
          exact sg_ord.trans a b c h1 h2
        · rw [if_pos ⟨hm, hbc⟩] at h2
          rw [if_pos ⟨hm, fun e => hbc (hab ▸ e)⟩]
          omega
      · rw [if_pos ⟨hm, hab⟩] at h1
        by_cases hbc : rs m b = rs m c
        · rw [if_pos ⟨hm, fun e => hab (hbc ▸ e)⟩]
          omega
        · rw [if_pos ⟨hm, hbc⟩] at h2
          rw [if_pos ⟨hm, by omega⟩]
          omega
    · rw [if_neg (fun e => hm e.1)] at h1 h2 ⊢
      exact sg_ord.trans a b c h1 h2
theorem ord26 (W : World) : OrdC W (fnV 26 #[]) sg (fun _ => True) [] := ⟨fun W' _ a b _ _ => RetI.of (by kernel_rfl) (c26 a b W'), by simp⟩
theorem ord11 {m : Int} (hm : m ≤ 1000) {d : Nat} {W : World} (hd : W.heap[d]? = some (.cells ([.int .i64 m] : List Value).toArray 3 (0, 0))) : OrdC W (fnV 11 #[.pointer (pt d)]) (cfO m) (fun _ => True) [d] := by
  refine ⟨fun W' h a b _ _ => RetI.of (by kernel_rfl) ?_, fun q hq => by simp at hq; subst hq; exact (Array.getElem?_eq_some_iff.1 hd).1⟩
  have hd' : W'.heap[d]? = some (.cells ([.int .i64 m] : List Value).toArray 3 (0, 0)) := (h d (by simp)).trans hd
  intro R hR
  refine f11_calls _ _ _ W' R ?_
  unfold f11_vc
  exact ⟨_, rd_f0 hd' (by kernel_rfl) nod, at_callb (At.refl W') (c12 m a b hm W') fun w2 hA _ _ => ⟨_, rfl, leaf hR hA rfl⟩⟩
def df (a b : Int) : Int := a - b
def In66 (a : Int) : Prop := 0 ≤ a ∧ a ≤ 100
theorem ord66 (W : World) : OrdC W (fnV 66 #[]) df In66 [] := ⟨fun W' _ a b ha hb => RetI.of (by kernel_rfl) (fun R h => by
  refine f66_calls _ _ W' R ?_
  unfold f66_vc
  unfold In66 at ha hb
  rw [wrap_i64 (by omega) (by omega)]
  exact leaf h (At.refl W') rfl), by simp⟩

theorem c25 (w : World) : Ret Try.prog 25 #[] w (.bool true) := by
  intro R h
  refine f25_calls w R ?_
  unfold f25_vc
  refine at_new (At.refl w) (ord66 w) fun g W hA _ T => ⟨_, rfl, ?_⟩
  refine at_put 5 (by unfold In66; omega) hA T (by decide) fun W hA _ T => ⟨_, rfl, ?_⟩
  refine at_put 5 (by unfold In66; omega) hA T (by decide) fun W hA _ T => ⟨_, rfl, ?_⟩
  refine at_put 1 (by unfold In66; omega) hA T (by decide) fun W hA _ T => ⟨_, rfl, ?_⟩
  refine at_drop 9 (by unfold In66; omega) hA T fun W hA _ T => ⟨_, rfl, ?_⟩
  refine at_at 1 hA T fun W hA _ T => ⟨5, true, by rfl, ?_⟩
  refine brB (fun _ => ⟨fun _ => brB (fun _ => ⟨fun _ => brE (fun _ => brB (fun _ => ?_) (fun e => by cases e)) (fun e => absurd rfl e), fun e => absurd e (by decide)⟩) (fun e => absurd e (by decide)), fun e => absurd e (by decide)⟩) (fun e => absurd e (by decide))
  refine at_place 5 (by unfold In66; omega) hA T fun W hA _ T => ⟨1, by rfl, brE (fun _ => ?_) (fun e => absurd rfl e)⟩
  exact at_long hA T fun W hA _ T => ⟨2, by rfl, leaf h hA rfl⟩
end Go.Vc.T
