/- Own text of this claim: TdB. -/
import Derived.Test.YtfipbnoidoljoaaTd9
import Derived.Test.YtfipbnoidoljoaaFd4
set_option maxRecDepth 20000
namespace Go.Vc.T
open Go Go.Vc Go.RowKit Go.Proofs Vcd1

variable {w W W' : World} {g : Nat} {t : Tr Int} {M : Nat → Prop} {gs : List Nat}

theorem n60 (w : World) : Ret Try.prog 60 #[.pointer none] w (.bool false) := by
  intro R h
  refine f60_calls _ w R ?_
  unfold f60_vc
  exact ⟨false, (fun W => rfl), brB (fun e => by cases e) (fun _ => leaf h (At.refl w) rfl)⟩
theorem n21 (w : World) : Ret Try.prog 21 #[.pointer none, .int .i64 0] w (.tuple #[.int .i64 0, .bool false]) := by
  intro R h
  refine f21_calls _ _ w R ?_
  unfold f21_vc
  exact at_callb (At.refl w) (n60 w) fun w2 hA _ hb => ⟨_, rfl, brB (fun _ => leaf h hA rfl) (fun e => by cases e)⟩
theorem n22 (w : World) : Ret Try.prog 22 #[.pointer none] w (.tuple #[.int .i64 0, .bool false]) := by
  intro R h
  refine f22_calls _ w R ?_
  unfold f22_vc
  exact at_callb (At.refl w) (n21 w) fun w2 hA _ hb => ⟨_, _, rfl, leaf h hA rfl⟩
theorem n17 (k : Int) (w : World) : Ret Try.prog 17 #[.pointer none, .int .i64 k] w (.bool false) := by
  intro R h
  refine f17_calls _ _ w R ?_
  unfold f17_vc
  exact at_callb (At.refl w) (n60 w) fun w2 hA _ hb => ⟨_, rfl, brB (fun _ => leaf h hA rfl) (fun e => by cases e)⟩
theorem n15 (k : Int) (w : World) : Ret Try.prog 15 #[.pointer none, .int .i64 k] w (.bool false) := by
  intro R h
  refine f15_calls _ _ w R ?_
  unfold f15_vc
  exact at_callb (At.refl w) (n60 w) fun w2 hA _ hb => ⟨_, rfl, brB (fun _ => leaf h hA rfl) (fun e => by cases e)⟩
theorem n19 (w : World) : Ret Try.prog 19 #[.pointer none] w (.int .i64 0) := by
  intro R h
  refine f19_calls _ w R ?_
  unfold f19_vc
  exact at_callb (At.refl w) (n60 w) fun w2 hA _ hb => ⟨_, rfl, brB (fun _ => leaf h hA rfl) (fun e => by cases e)⟩
/-- A plain tree. -/
def Pl (W : World) (g : Nat) : Prop := W.heap[g]? = some (.cells (#[.nilFunc, .pointer none]) 45 (0, 0))
theorem Pl.call (h : Pl W g) (hb : Bel W W') : Pl W' g := by
  have := (Array.getElem?_eq_some_iff.1 h).1
  rw [Pl, hb.block this]
  exact h
theorem p60 (H : Pl W g) : Ret Try.prog 60 #[.pointer (pt g)] W (.bool false) := by
  intro R h
  refine f60_calls _ W R ?_
  unfold f60_vc
  exact ⟨true, (fun W => rfl), brB (fun _ => ⟨_, rfl, _, rd_f0 (v := .nilFunc) (r := [.pointer none]) H (by kernel_rfl) nod, false, (fun W => rfl), leaf h (At.refl W) rfl⟩) (fun e => by cases e)⟩
theorem p17 (k : Int) (H : Pl W g) : Ret Try.prog 17 #[.pointer (pt g), .int .i64 k] W (.bool false) := by
  intro R h
  refine f17_calls _ _ W R ?_
  unfold f17_vc
  exact at_callb (At.refl W) (p60 H) fun w2 hA _ hb => ⟨_, rfl, brB (fun _ => leaf h hA rfl) (fun e => by cases e)⟩
theorem p19 (H : Pl W g) : Ret Try.prog 19 #[.pointer (pt g)] W (.int .i64 0) := by
  intro R h
  refine f19_calls _ W R ?_
  unfold f19_vc
  exact at_callb (At.refl W) (p60 H) fun w2 hA _ hb => ⟨_, rfl, brB (fun _ => leaf h hA rfl) (fun e => by cases e)⟩
theorem opw_plain {K : Value → World → Prop} (hA : AtF w M gs W) (h : ∀ g w', AtF w M gs w' → Bel W w' → Pl w' g → K (.pointer (pt g)) w') : OpW Try.prog (valueS (Instr.alloc 45 true (.tuple #[]))) W K := by
  have hz : pureRun Try.prog (zeroValue 45) = some (.agg #[.nilFunc, .pointer none]) := by kernel_rfl
  unfold OpW
  rw [run_valueS (run_alloc hz)]
  exact h _ _ (hA.call (below_alloc _)) (below_alloc _) (heap_alloc_new W _)

theorem law4 {l : List Int} {la : Option Addr} {n c : Nat} (k : Int) (w : World) (hs : SlE w 1 i1E l la n c) : Ret Try.prog 4 #[.slice la n c, .int .i64 k] w (.bool true) := by
  intro R h
  refine Vcd2.f4_calls _ _ _ _ w R ?_
  unfold Vcd2.f4_vc
  have hn := hs.len_le.1
  have ho := sg_ord
  refine brD (fun _ => leaf h (At.refl w) rfl) (fun hle => ?_)
  refine at_new (At.refl w) (ord26 w) fun g W hA hb T => ⟨_, rfl, ?_⟩
  refine ⟨fun v W => ∃ j : Nat, v.1 = j ∧ j ≤ n ∧ At w [] W ∧ ∃ t, t.size ≤ j ∧ TS w W g 26 #[] sg (fun _ => True) [] t ∧ Tr.Srt sg t.toL, fun v _ => (n - v.1).toNat, ⟨0, rfl, by omega, hA, .nil, by simp [Tr.size], T, List.Pairwise.nil⟩, ?_⟩
  rintro x6 w7 ⟨j, hj, hjn, hA, t, htj, T, hsrt⟩
  simp only at hj
  subst hj
  refine brD (fun hlt => ?_) (fun hge => ?_)
  · obtain ⟨x, hx⟩ : ∃ x, l[j]? = some x := ⟨_, List.getElem?_eq_getElem (by omega)⟩
    obtain ⟨ad, g1, el, _⟩ := elt_at (P := Try.prog) (k := .i64) (t := 27) (hs.call hA.below) hx (e := 3) (by kernel_rfl) (by kernel_rfl)
    refine ⟨ad, g1, _, el.one (by kernel_rfl) (by simp), ?_⟩
    refine at_put x trivial hA T (by omega) fun w11 hA _ T => ⟨_, rfl, ?_⟩
    rw [succ_i64 j (by omega)]
    have := size_put (cf := sg) x t
    exact ⟨⟨j + 1, rfl, by omega, hA, _, by omega, T, (Tr.put_spec ho x t hsrt).1⟩, by simp only; omega⟩
  · have hsz : t.size ≤ 120 := by omega
    have hll : t.toL.length ≤ 120 := by rw [← Tr.size_len]; omega
    refine at_calll hA (c24 T) (fun _ _ => rfl) fun a15 c17 w14 hA _ hb own _ => ⟨_, _, _, rfl, ?_⟩
    have T := T.call hb
    refine ⟨fun v W => ∃ q : Nat, v.1 = q ∧ 1 ≤ q ∧ At w [] W ∧ TS w W g 26 #[] sg (fun _ => True) [] t ∧ OwnL w [] W 3 1 i1E (.slice a15 t.toL.length c17) t.toL, fun v _ => (t.toL.length - v.1).toNat, ⟨1, rfl, by omega, hA, T, own⟩, ?_⟩
    rintro x20 w21 ⟨q, hq, hq1, hA, T, own⟩
    simp only at hq
    subst hq
    refine brD (fun hlt => ?_) (fun hge => ?_)
    · obtain ⟨y, hy⟩ : ∃ y, t.toL[q]? = some y := ⟨_, List.getElem?_eq_getElem (by omega)⟩
      obtain ⟨z, hz⟩ : ∃ z, t.toL[q - 1]? = some z := ⟨_, List.getElem?_eq_getElem (by omega)⟩
      have hzy : z < y := by
        have := (List.pairwise_iff_getElem.1 hsrt) (q - 1) q (by omega) (by omega) (by omega)
        rw [(List.getElem?_eq_some_iff.1 hz).2, (List.getElem?_eq_some_iff.1 hy).2] at this
        exact sg_neg.1 this
      have e1 : IntKind.i64.wrap ((q : Int) - 1) = ((q - 1 : Nat) : Int) := by rw [wrap_i64 (by omega) (by omega)]; omega
      rw [e1, succ_i64 q (by omega)]
      obtain ⟨ad, g1, el, _⟩ := elt_at (P := Try.prog) (k := .i64) (t := 27) (own.sl (fun _ _ => rfl)) hz (e := 3) (by kernel_rfl) (by kernel_rfl)
      obtain ⟨ad2, g2, el2, _⟩ := elt_at (P := Try.prog) (k := .i64) (t := 27) (own.sl (fun _ _ => rfl)) hy (e := 3) (by kernel_rfl) (by kernel_rfl)
      refine ⟨fun v W => v.1 = false ∧ At w [] W ∧ TS w W g 26 #[] sg (fun _ => True) [] t ∧ OwnL w [] W 3 1 i1E (.slice a15 t.toL.length c17) t.toL, ⟨?_, ?_⟩⟩
      · refine ⟨ad, g1, _, el.one (by kernel_rfl) (by simp), ad2, g2, _, el2.one (by kernel_rfl) (by simp), go_below0_too hA fun w27 hA hb => ⟨decide_eq_false (by omega), hA, T.call hb, own.call hb⟩⟩
      · rintro b28 w29 ⟨hb, hA, T, own⟩
        simp only at hb
        subst hb
        exact brB (fun e => by cases e) (fun _ => ⟨⟨q + 1, rfl, by omega, hA, T, own⟩, by simp only; omega⟩)
    · refine ⟨fun v W => v.1 = false ∧ At w [] W ∧ (∃ t', TS w W g 26 #[] sg (fun _ => True) [] t' ∧ t'.toL = t.toL) ∧ OwnL w [] W 3 1 i1E (.slice a15 t.toL.length c17) t.toL, ⟨?_, ?_⟩⟩
      · refine at_put k trivial hA T (by omega) fun w32 hA hk3 T => ⟨_, rfl, ?_⟩
        have own := OwnL.keep3 own hk3
        obtain ⟨s1, s2, s3⟩ := Tr.put_spec ho k t hsrt
        have hmem : k ∈ (Tr.put sg k t).1.toL := (s2 k).2 (.inl rfl)
        refine brB (fun hf => ?_) (fun hf => ?_)
        · have hnk : k ∉ t.toL := s3.1 hf
          obtain ⟨d1, d2, d3⟩ := Tr.drop_spec ho k _ s1
          refine at_drop k trivial hA T fun w35 hA hk3 T => ⟨_, rfl, ?_⟩
          have own := OwnL.keep3 own hk3
          have e3 := d3.2 hmem
          rw [e3]
          have et : (Tr.drop sg k (Tr.put sg k t).1).1.toL = t.toL := Tr.srt_ext ho d1 hsrt fun y => by
            rw [d2, s2]
            constructor
            · rintro ⟨e | m, hne⟩
              · exact absurd e hne
              · exact m
            · intro m
              exact ⟨.inr m, fun e => hnk (e ▸ m)⟩
          refine ⟨(fun e => by cases e), fun _ => ?_⟩
          refine at_has k trivial hA T fun w38 hA hb T => ⟨_, rfl, ?_⟩
          have own := own.call hb
          have e1 := has_there ho k _ d1
          have hnin : k ∉ (Tr.drop sg k (Tr.put sg k t).1).1.toL := by rw [et]; exact hnk
          have hpl : plc k (Tr.drop sg k (Tr.put sg k t).1).1.toL = -1 := plc_none _ fun y hy e => hnin (e ▸ hy)
          rw [e1, hpl]
          refine ⟨fun _ => ?_, (fun e => absurd e (by decide))⟩
          refine at_place k trivial hA T fun w41 hA hb T => ⟨_, rfl, ?_, hA, ⟨_, T, et⟩, own.call hb⟩
          rw [plc_pl ho k _ d1, hpl]
          rfl
        · have hk : k ∈ t.toL := Classical.byContradiction fun hn => by rw [s3.2 hn] at hf; cases hf
          have et : (Tr.put sg k t).1.toL = t.toL := Tr.srt_ext ho s1 hsrt fun y => by
            rw [s2]
            exact ⟨fun e => e.elim (fun e => e ▸ hk) id, .inr⟩
          refine at_has k trivial hA T fun w38 hA hb T => ⟨_, rfl, ?_⟩
          have own := own.call hb
          have e1 := has_there ho k _ s1
          rw [e1, plc_there, decide_eq_true hmem]
          exact ⟨(fun e => by cases e), fun _ => ⟨rfl, hA, ⟨_, T, et⟩, own⟩⟩
      · rintro b49 w50 ⟨hb, hA, ⟨t', T, et⟩, own⟩
        simp only at hb
        subst hb
        refine brB (fun e => by cases e) (fun _ => ?_)
        refine at_callb hA (n22 w50) fun w52 hA _ hb => ⟨_, _, rfl, ?_⟩
        have T := T.call hb
        have own := own.call hb
        refine opw_plain hA fun g2 w56 hA hb HP => ⟨_, rfl, ?_⟩
        have T := T.call hb
        have own := own.call hb
        refine at_calll hA (c24 T) (fun _ _ => rfl) fun a60 c62 w59 hA _ hb _ hs5 => ⟨_, _, _, rfl, ?_⟩
        have HP := HP.call hb
        have own := own.call hb
        refine at_callb hA (c23 w59 hs5 (own.sl (fun _ _ => rfl)) (by rw [et]; omega)) fun w64 hA _ hb => ⟨_, rfl, ?_⟩
        have HP := HP.call hb
        rw [decide_eq_true et]
        refine brB (fun _ => ?_) (fun e => by cases e)
        refine at_callb hA (n17 1 w64) fun W hA _ hb => ⟨_, rfl, brB (fun _ => ?_) (fun e => by cases e)⟩
        have HP := HP.call hb
        refine at_callb hA (n15 1 W) fun W hA _ hb => ⟨_, rfl, brB (fun _ => brB (fun _ => ?_) (fun e => by cases e)) (fun e => by cases e)⟩
        have HP := HP.call hb
        refine at_callb hA (n19 W) fun W hA _ hb => ⟨_, rfl, brE (fun _ => ?_) (fun e => absurd rfl e)⟩
        have HP := HP.call hb
        refine at_callb hA (p17 1 HP) fun W hA _ hb => ⟨_, rfl, brB (fun _ => ?_) (fun e => by cases e)⟩
        have HP := HP.call hb
        refine at_callb hA (p19 HP) fun W hA _ hb => ⟨_, rfl, brE (fun _ => ?_) (fun e => absurd rfl e)⟩
        exact at_callb hA (c25 W) fun W hA _ _ => ⟨_, rfl, leaf h hA rfl⟩
end Go.Vc.T
