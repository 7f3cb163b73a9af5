/- Own text of this claim: Td9. -/
import Derived.Test.YtfipbnoidoljoaaTd8
import Derived.Test.YtfipbnoidoljoaaFd3
set_option maxRecDepth 20000
namespace Go.Vc.T
open Go Go.Vc Go.RowKit Go.Proofs Vcd1

variable {w W W' : World} {g : Nat} {cb : List Nat} {cf : Int → Int → Int} {In : Int → Prop} {f : FuncId} {cap : Array Value} {t : Tr Int}

theorem at_first {K : Ending → World → Prop} (hA : At w [] W) (h : TS w W g f cap cf In cb t)
    (hK : ∀ W', At w [] W' → Bel W W' → TS w W' g f cap cf In cb t → K (.returned (atT 0 t)) W') : Calls Try.prog 22 #[.pointer (pt g)] W K := by
  refine f22_calls _ W K ?_
  unfold f22_vc
  have e : ∃ v b, atT 0 t = .tuple #[.int .i64 v, .bool b] := by
    unfold atT
    split
    · exact ⟨_, _, rfl⟩
    · exact ⟨_, _, rfl⟩
  obtain ⟨v, b, e⟩ := e
  refine at_at 0 hA h fun W' hA hb h => ⟨v, b, by rw [e], ?_⟩
  rw [← e]
  exact hK W' hA hb h
theorem atT_spec (i : Int) (t : Tr Int) : ∃ v b, atT i t = .tuple #[.int .i64 v, .bool b] ∧ (b = true → 0 ≤ i ∧ i < t.size ∧ t.toL[i.toNat]? = some v) ∧ (b = false → ¬ (0 ≤ i ∧ i < t.size)) := by
  unfold atT
  split
  · rename_i h
    refine ⟨_, _, rfl, fun _ => ⟨h.1, h.2, ?_⟩, fun e => by cases e⟩
    obtain ⟨y, hy⟩ : ∃ y, t.toL[i.toNat]? = some y := ⟨_, List.getElem?_eq_getElem (by rw [← Tr.size_len]; omega)⟩
    rw [hy]; rfl
  · rename_i h
    exact ⟨_, _, rfl, (fun e => by cases e), fun _ => h⟩
theorem plc_there (x : Int) (l : List Int) : decide (plc x l ≥ 0) = decide (x ∈ l) := by
  refine decide_eq_decide.2 ?_
  induction l with
  | nil => simp [plc]
  | cons a t ih =>
    rw [plc]
    by_cases h : a = x
    · rw [if_pos h]; subst h; simp
    · rw [if_neg h]
      have : x ∈ a :: t ↔ x ∈ t := by simp [show ¬ x = a from fun e => h e.symm]
      rw [this, ← ih]
      split <;> constructor <;> intro hh <;> omega
theorem has_there (h : Tr.Ord cf) (x : Int) (t : Tr Int) (hs : Tr.Srt cf t.toL) : (Tr.pl cf x t).isSome = decide (plc x t.toL ≥ 0) := by
  rw [← plc_pl h x t hs]
  cases Tr.pl cf x t with
  | none => rfl
  | some i => exact (decide_eq_true (by simp only [plI]; omega)).symm
theorem put_flag (h : Tr.Ord cf) (x : Int) (t : Tr Int) (hs : Tr.Srt cf t.toL) : (Tr.put cf x t).2 = !decide (plc x t.toL ≥ 0) := by
  have := (Tr.put_spec h x t hs).2.2
  rw [plc_there]
  by_cases hm : x ∈ t.toL
  · rw [decide_eq_true hm]
    cases hf : (Tr.put cf x t).2 with
    | false => rfl
    | true => exact absurd hm (this.1 hf)
  · rw [decide_eq_false hm]
    exact this.2 hm
theorem drop_flag (h : Tr.Ord cf) (x : Int) (t : Tr Int) (hs : Tr.Srt cf t.toL) : (Tr.drop cf x t).2 = decide (plc x t.toL ≥ 0) := by
  have := (Tr.drop_spec h x t hs).2.2
  rw [plc_there]
  by_cases hm : x ∈ t.toL
  · rw [decide_eq_true hm]
    exact this.2 hm
  · rw [decide_eq_false hm]
    cases hf : (Tr.drop cf x t).2 with
    | false => rfl
    | true => exact absurd (this.1 hf) hm

theorem OwnL.keep3 {a : Option Addr} {n c : Nat} {l : List Int} (h : OwnL w [] W 3 1 i1E (.slice a n c) l) (hk : Keep3 W W') : OwnL w [] W' 3 1 i1E (.slice a n c) l := h.keep fun q hq => by
  obtain ⟨cur, hc⟩ := h.blk hq
  exact hk q cur hc

abbrev Ac := Bool × Int
abbrev acE (x : Ac) : List Value := [.bool x.1, .int .i64 x.2]
/-- What a law's loop keeps. -/
structure St (w W : World) (g d : Nat) (m : Int) (t : Tr Int) (a : Option Addr) (n c : Nat) : Prop where
  ts : TS w W g 11 #[.pointer (pt d)] (cfO m) (fun _ => True) [d] t
  srt : Tr.Srt (cfO m) t.toL
  box : W.heap[d]? = some (.cells ([.int .i64 m] : List Value).toArray 3 (0, 0))
  own : OwnL w [] W 3 1 i1E (.slice a n c) t.toL
theorem St.call {d n c : Nat} {m : Int} {a : Option Addr} (h : St w W g d m t a n c) (hb : Bel W W') : St w W' g d m t a n c :=
  ⟨h.ts.call hb, h.srt, (hb.block (Array.getElem?_eq_some_iff.1 h.box).1).trans h.box, h.own.call hb⟩
theorem St.len {d n c : Nat} {m : Int} {a : Option Addr} (h : St w W g d m t a n c) : n = t.size := by
  obtain ⟨_, _, hv, _⟩ := h.own.slice (fun _ _ => rfl)
  cases hv
  exact (Tr.size_len t).symm

theorem law3 {acts : List Ac} {la : Option Addr} {n c : Nat} (m i : Int) (w : World) (hs : SlE w 2 acE acts la n c) : Ret Try.prog 3 #[.int .i64 m, .slice la n c, .int .i64 i] w (.bool true) := by
  intro R h
  refine f3_calls _ _ _ _ _ w R ?_
  unfold f3_vc
  have hn := hs.len_le.1
  refine opw_boxS (At.refl w) fun d w2 hd hA _ _ hbox => ⟨_, rfl, ?_⟩
  refine brD (fun _ => leaf h hA rfl) (fun hle => ⟨_, rd_f0 hbox (by kernel_rfl) nod, brD (fun _ => leaf h hA rfl) (fun hm => ?_)⟩)
  have hm : m ≤ 1000 := by omega
  have ho := cfO_ord m
  refine at_new hA (ord11 hm hbox) fun g W hA hb T => ⟨_, rfl, ?_⟩
  have hbox := (hb.block (Array.getElem?_eq_some_iff.1 hbox).1).trans hbox
  refine ⟨fun v W => ∃ k : Nat, v.2.1 = k ∧ k ≤ n ∧ At w [] W ∧ ∃ t, t.size ≤ k ∧ St w W g d m t v.1.1 v.1.2.1 v.1.2.2, fun v _ => (n - v.2.1).toNat, ⟨0, rfl, by omega, hA, .nil, by simp [Tr.size], ⟨T, List.Pairwise.nil, hbox, OwnF.nil⟩⟩, ?_⟩
  rintro a10 n11 n12 x13 w14 ⟨k, hk, hkn, hA, t, htk, S⟩
  simp only at hk S
  subst hk
  have hlen := S.len
  refine brD (fun hlt => ?_) (fun hge => ?_)
  · obtain ⟨x, hx⟩ : ∃ x, acts[k]? = some x := ⟨_, List.getElem?_eq_getElem (by omega)⟩
    have rd : ∀ {W}, At w [] W → ∃ ad, Gives Try.prog (Instr.indexAt 22 (.slice la n c) (.int .i64 (k : Int))) (.pointer (some ad)) ∧ Elt W ad (acE x) := fun hA => by
      obtain ⟨ad, g1, el, _⟩ := elt_at (P := Try.prog) (k := .i64) (t := 22) (hs.call hA.below) hx (e := 29) (by kernel_rfl) (by kernel_rfl)
      exact ⟨ad, g1, el⟩
    obtain ⟨ad, g1, el⟩ := rd hA
    refine ⟨ad, g1, _, (el.sub (o := 1) (by decide)).one (by kernel_rfl) (by simp), ?_⟩
    have hll : t.toL.length ≤ 120 := by rw [← Tr.size_len]; omega
    refine at_callb hA (c13 x.2 w14 (S.own.sl (fun _ _ => rfl)) (by omega)) fun w18 hA _ hb => ⟨_, rfl, ?_⟩
    have S := S.call hb
    refine at_has x.2 trivial hA S.ts fun w21 hA hb _ => ⟨_, rfl, ?_⟩
    have S := S.call hb
    have e1 := has_there ho x.2 t S.srt
    have e2 := put_flag ho x.2 t S.srt
    have e3 := drop_flag ho x.2 t S.srt
    rw [e1]
    rw [succ_i64 k (by omega)]
    generalize hth : decide (plc x.2 t.toL ≥ 0) = th at e1 e2 e3 ⊢
    refine ⟨fun e => absurd e (by cases th <;> decide), fun _ => ?_⟩
    refine ⟨fun v W => At w [] W ∧ ∃ t', t'.size ≤ k + 1 ∧ St w W g d m t' v.1.1 v.1.2.1 v.1.2.2, ⟨?_, ?_⟩⟩
    · obtain ⟨ad2, g2, el2⟩ := rd hA
      refine ⟨ad2, g2, _, el2.one (by kernel_rfl) (by simp), ?_⟩
      refine ⟨fun _ => ?_, fun _ => ?_⟩
      · refine at_drop x.2 trivial hA S.ts fun w27 hA hk3 T => ⟨_, rfl, ?_⟩
        rw [e3]
        refine ⟨fun e => absurd e (by cases th <;> decide), fun _ => ?_⟩
        have ho27 := OwnL.keep3 S.own hk3
        have hbox27 := (hk3 d _ S.box).trans S.box
        refine at_calll hA (c16 x.2 w27 (ho27.sl (fun _ _ => rfl)) (by omega)) (fun _ _ => rfl) fun a5 c5 w30 hA _ hb ho5 _ => ⟨_, _, _, rfl, hA, (Tr.drop (cfO m) x.2 t).1, ?_, ?_⟩
        · have := size_drop (cf := cfO m) x.2 t; omega
        · exact ⟨T.call hb, (Tr.drop_spec ho x.2 t S.srt).1, (hb.block (Array.getElem?_eq_some_iff.1 hbox27).1).trans hbox27, by rw [drop_dropI ho x.2 t S.srt]; exact ho5⟩
      · refine at_put x.2 trivial hA S.ts (by omega) fun w27 hA hk3 T => ⟨_, rfl, ?_⟩
        rw [e2]
        refine ⟨fun e => absurd e (by cases th <;> decide), fun _ => ?_⟩
        have ho27 := OwnL.keep3 S.own hk3
        have hbox27 := (hk3 d _ S.box).trans S.box
        refine ⟨_, rd_f0 hbox27 (by kernel_rfl) nod, ?_⟩
        refine at_calll hA (c18 m x.2 hm w27 (ho27.sl (fun _ _ => rfl)) (by omega)) (fun _ _ => rfl) fun a5 c5 w30 hA _ hb ho5 _ => ⟨_, _, _, rfl, hA, (Tr.put (cfO m) x.2 t).1, ?_, ?_⟩
        · have := size_put (cf := cfO m) x.2 t; omega
        · exact ⟨T.call hb, (Tr.put_spec ho x.2 t S.srt).1, (hb.block (Array.getElem?_eq_some_iff.1 hbox27).1).trans hbox27, by rw [put_insI ho x.2 t S.srt]; exact ho5⟩
    · rintro a43 n44 n45 w46 ⟨hA, t', htk', S⟩
      simp only at S
      have hlen := S.len
      refine ⟨fun v W => v.1 = false ∧ At w [] W ∧ St w W g d m t' a43 n44 n45, ⟨?_, ?_⟩⟩
      · refine at_long hA S.ts fun w49 hA hb _ => ⟨_, rfl, brN (fun hne => absurd (by rw [hlen]) hne) (fun _ => ?_)⟩
        have S := S.call hb
        refine at_place x.2 trivial hA S.ts fun w52 hA hb _ => ⟨_, rfl, ?_⟩
        have S := S.call hb
        refine at_callb hA (c13 x.2 w52 (S.own.sl (fun _ _ => rfl)) (by rw [← Tr.size_len]; omega)) fun w55 hA _ hb => ⟨_, rfl, ?_, hA, S.call hb⟩
        rw [plc_pl ho x.2 t' S.srt]
        simp
      · rintro b57 w58 ⟨hb, hA, S⟩
        simp only at hb
        subst hb
        exact brB (fun e => by cases e) (fun _ => ⟨⟨k + 1, rfl, by omega, hA, t', htk', S⟩, by simp only; omega⟩)
  · obtain ⟨v1, b1, ea, ha1, ha2⟩ := atT_spec i t
    obtain ⟨v0, b0, ef, hf1, hf2⟩ := atT_spec 0 t
    refine at_at i hA S.ts fun w60 hA hb _ => ⟨v1, b1, by rw [ea], ?_⟩
    have S := S.call hb
    refine at_first hA S.ts fun w64 hA hb _ => ⟨v0, b0, by rw [ef], ?_⟩
    have S := S.call hb
    have hsl := S.own.sl (fun _ _ => rfl)
    refine ⟨fun v W => v.1 = false ∧ At w [] W ∧ St w W g d m t a10 n11 n12, ⟨?_, ?_⟩⟩
    · have fin : ∀ (J : Bool × Unit → World → Prop), J (false, ()) w64 → (((!b0 == decide ((n11 : Int) > 0)) = true → J (true, ()) w64) ∧ ((!b0 == decide ((n11 : Int) > 0)) = false → (b0 = true → ∃ ad : Addr, Gives Try.prog (Instr.indexAt 27 (.slice a10 n11 n12) (.int .i64 0)) (.pointer (some ad)) ∧ ∃ x71 : Int, Reads Try.prog [] (Instr.loadAt 3 (.pointer (some ad))) w64 (.int .i64 x71) ∧ J (v0 != x71, ()) w64) ∧ (b0 = false → J (false, ()) w64))) := by
        intro J hJ
        have e : (!b0 == decide ((n11 : Int) > 0)) = false := by
          cases b0 with
          | true => rw [decide_eq_true (by have := hf1 rfl; omega)]; rfl
          | false => rw [decide_eq_false (by have := hf2 rfl; omega)]; rfl
        rw [e]
        refine ⟨(fun e => by cases e), fun _ => ⟨fun hb => ?_, fun _ => hJ⟩⟩
        obtain ⟨ad, g1, el, _⟩ := elt_at (P := Try.prog) (k := .i64) (t := 27) hsl (i := 0) (hf1 hb).2.2 (e := 3) (by kernel_rfl) (by kernel_rfl)
        refine ⟨ad, g1, _, el.one (by kernel_rfl) (by simp), ?_⟩
        have e : (v0 != v0) = false := by simp
        rw [e]
        exact hJ
      have ok : (fun (v : Bool × Unit) (W : World) => v.1 = false ∧ At w [] W ∧ St w W g d m t a10 n11 n12) (false, ()) w64 := ⟨rfl, hA, S⟩
      refine brD (fun hi => ?_) (fun hi => ?_)
      · have e : (!b1 == decide (i < (n11 : Int))) = false := by
          cases b1 with
          | true => rw [decide_eq_true (by have := ha1 rfl; omega)]; rfl
          | false => rw [decide_eq_false (by have := ha2 rfl; omega)]; rfl
        rw [e]
        refine ⟨(fun e => by cases e), fun _ => brB (fun hb => ?_) (fun _ => fin (fun v W => v.1 = false ∧ At w [] W ∧ St w W g d m t a10 n11 n12) ok)⟩
        obtain ⟨_, h2, h3⟩ := ha1 hb
        obtain ⟨j, rfl⟩ : ∃ j : Nat, i = j := ⟨i.toNat, by omega⟩
        obtain ⟨ad, g1, el, _⟩ := elt_at (P := Try.prog) (k := .i64) (t := 27) hsl (i := j) h3 (e := 3) (by kernel_rfl) (by kernel_rfl)
        exact ⟨ad, g1, _, el.one (by kernel_rfl) (by simp), brN (fun e => absurd rfl e) (fun _ => fin (fun v W => v.1 = false ∧ At w [] W ∧ St w W g d m t a10 n11 n12) ok)⟩
      · cases b1 with
        | true => have := ha1 rfl; omega
        | false => exact ⟨(fun e => absurd e (by decide)), fun _ => brB (fun e => by cases e) (fun _ => fin (fun v W => v.1 = false ∧ At w [] W ∧ St w W g d m t a10 n11 n12) ok)⟩
    · rintro b80 w81 ⟨hb, hA, S⟩
      simp only at hb
      subst hb
      refine brB (fun e => by cases e) (fun _ => ?_)
      refine at_calll hA (c24 S.ts) (fun _ _ => rfl) fun a5 c5 w83 hA _ hb ho5 hs5 => ⟨_, _, _, rfl, ?_⟩
      have S := S.call hb
      refine at_callb hA (c23 w83 hs5 (S.own.sl (fun _ _ => rfl)) (by rw [← Tr.size_len]; omega)) fun w88 hA _ hb => ⟨_, rfl, ?_⟩
      rw [decide_eq_true rfl]
      refine brB (fun _ => at_callb hA (c25 w88) fun w91 hA _ _ => ⟨_, rfl, leaf h hA rfl⟩) (fun e => by cases e)
end Go.Vc.T
