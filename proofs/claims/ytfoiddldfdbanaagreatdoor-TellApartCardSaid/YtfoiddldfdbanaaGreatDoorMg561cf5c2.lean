/- Own texts of this claim, laid together: ZQTi, ZR4, ZR5, VcArg, ZR6. -/
import Derived.Test.YtfoiddldfdbanaaGreatDoorMg35500bb1
import Derived.Lib.LaidTab
import Derived.OpenShut
import Derived.LaidMore
import Derived.HandedShaped
import Derived.Test.YtfoiddldfdbanaaGreatDoorRows
import Derived.ProofKit
import Derived.SizedLaws
import Derived.ChangeSame
import Derived.Deep.Slices

/- Tell: a book. -/
set_option maxRecDepth 20000
set_option maxHeartbeats 4000000
set_option linter.unusedVariables false
namespace Go.Vc.ZQ
open Go Go.Vc Go.Vc.V Go.RowKit Go.Proofs Vcqz

variable {w W W' W1 : World} {gs ds : List Nat} {n : Int} {a : Option Addr} {ln lc c p : Nat} {s : ByteArray} {L : List ByteArray}
theorem Bd.keeps (h : Bd w W gs p s) (hb : Bel W W') : Keeps gs W W' := h.at_.keeps hb
theorem bd25 {x : Int} {K : Ending → World → Prop} (h : Bd w W gs p s) (hT : TabQ w) (hn : I64 x) (hK : ∀ W', Bd w W' gs p s → Keeps gs W W' → Below W.heap.size W W' → K (.returned (.string (numB x))) W') : Calls Tryz.prog 23 #[.int .i64 x] W K :=
  at_callb h.at_ (c23 x hn W (hT.low (low_of h.at_))) fun W' hA hk hb => hK W' (h.low hb.below hA) hk hb.below
theorem bd27 {v : Vs} {K : Ending → World → Prop} (h : Bd w W gs p s) (hT : TabQ w) (hv : VsR w v) (hK : ∀ W', Bd w W' gs p s → Keeps gs W W' → Below W.heap.size W W' → K (.returned (.string (vecT v.1))) W') : Calls Tryz.prog 25 #[.slice v.2.1 v.2.2.1 v.2.2.2] W K :=
  at_callW h.at_ (c25 (hT.low (low_of h.at_)) (hv.low (low_of h.at_))) fun W' hA hk hb => hK W' (h.low hb hA) hk hb
theorem bd_box {t te : TypeId} (zc cs : List Value) {zv v : Value} {K : Addr → World → Prop} (hz : pureRun Tryz.prog (zeroValue t) = some zv) (hc : zv.cells = zc.toArray) (hs : cellStore Tryz.prog te zc 0 v = some cs) (hB : Bd w W gs p s)
    (h : ∀ g w', Bd w w' gs p s → w'.heap[g]? = some (.cells cs.toArray t (0, 0)) → K ⟨g, 0, none⟩ w') :
    OpW Tryz.prog (valueS (Instr.alloc t true (.tuple #[]))) W fun q w' => ∃ ad, q = .pointer (some ad) ∧ Keeps gs W w' ∧ OpW Tryz.prog (skipS (Instr.storeAt te (.pointer (some ad)) v)) w' fun _ w'' => Keeps gs w' w'' ∧ K ad w'' := by
  refine opw_allocS zc hz hc hB.at_ fun g w' hg hA' hk hb hblk => ⟨_, rfl, hk, ?_⟩
  have hg' : ∀ x ∈ gs, x < g := fun x hx => by have := hB.at_.under x hx; omega
  have hlt := hB.at_.chg.size
  refine opw_storeF hA' hblk (.inl (by omega)) (fun hx => Nat.lt_irrefl _ (hg' g hx)) hs fun w2 hA2 hk2 hch hb2 => ⟨hk2, h g w2 (hB.low ?_ hA2) hb2⟩
  have hbb := hb.below
  exact ⟨hch.os.trans hbb.os, hch.tape.trans hbb.tape, hch.output.trans hbb.output, Nat.le_trans hbb.size hch.size, fun b hl => (hch.block b (Nat.lt_of_lt_of_le hl hbb.size) (by omega)).trans (hbb.block b hl)⟩
theorem bx_low {g : Nat} {o : Obj} (h : W.heap[g]? = some o) (hb : Below W.heap.size W W') : W'.heap[g]? = some o := (hb.block _ (Array.getElem?_eq_some_iff.1 h).1).trans h
theorem c7 {b : Bk} {s1 s2 s3 s4 s5 : Sl} {b0 b1 b2 b3 b4 b5 b6 b7 b8 : Int} (w : World) (hT : TabQ w) (hB : BkR w b s1 s2 s3 s4 s5) : RetW Tryz.prog 7 #[.agg #[.int .i64 b0, .int .i64 b1, .int .i64 b2, .int .i64 b3, .int .i64 b4, .int .i64 b5, .int .i64 b6, .int .i64 b7, .int .i64 b8, .int .i64 b.now, .int .i64 b.last, .slice s1.1 s1.2.1 s1.2.2, .slice s2.1 s2.2.1 s2.2.2, .slice s3.1 s3.2.1 s3.2.2, .slice s4.1 s4.2.1 s4.2.2, .slice s5.1 s5.2.1 s5.2.2]] w (.string (bkT b)) := by
  intro R h
  refine f7_calls _ _ _ _ _ _ _ _ _ _ _ _ _ _ _ _ _ _ _ _ _ _ _ _ _ _ w R ?_
  unfold f7_vc
  have hz := now_size hB.now hB.last
  have l1 := hB.fs.sl.1
  have m1 := hB.fs.few
  have l2 := hB.ags.sl.1
  have m2 := hB.ags.few
  have l3 := hB.os.sl.1
  have m3 := hB.os.few
  have l4 := hB.ts.sl.1
  have m4 := hB.ts.few
  have l5 := hB.fis.sl.1
  have m5 := hB.fis.few
  refine fun n1 hn1 => go_below_too (at_zro w noB) fun w2 hA2 hb2 => ?_
  refine bd_new hA2 fun w4 hk4 hB4 => ⟨_, rfl, hk4, go_below_too hB4.at_ fun w6 hA6 hb6 => ?_⟩
  have hB6 := hB4.low hb6.below hA6
  refine bd25 hB6 hT hB.now fun w8 hB8 hk8 _ => ⟨_, rfl, hk8, bd25 hB8 hT hB.last fun w11 hB11 hk11 _ => ⟨_, rfl, hk11, ?_⟩⟩
  refine opw_litL (e' := 9) (size := 1) (f := strE) (l := nowL b.now b.last) hB11.at_ rfl (fun _ _ => rfl) (by decide) (by kernel_rfl) fun g w14 _ hA14 hk14 hb14 ho => ⟨_, _, _, rfl, hk14, ?_⟩
  refine at_line (L := nowL b.now b.last) (N := noB) (hB11.low hb14.below hA14) ho (by unfold nowL; simp) (by unfold nowL; simp) (by omega) (by rw [bs_size]; simp) fun w19 hk19 hB19 => ⟨rfl, hk19, ?_⟩
  have es : bs [] ++ nl (jnB (nowL b.now b.last)) = bk0 b := by
    unfold bk0
    apply ba_ext
    simp [bs]
  rw [es] at hB19
  have q0 : (bk0 b).size ≤ 1000 := by
    unfold bk0
    rw [nl_size]
    omega
  refine ⟨fun s W => ∃ i : Nat, s.1 = i ∧ i ≤ s1.2.1 ∧ Bd w W [n1] w2.heap.size (txt (bk0 b) ((b.fs.take i).map frL)) ∧ (txt (bk0 b) ((b.fs.take i).map frL)).size ≤ 1000 + i * 700000, fun s _ => s1.2.1 - s.1.toNat, ⟨0, rfl, Nat.zero_le _, hB19, Nat.le_trans q0 (by omega)⟩, ?_⟩
  rintro x1 W10 ⟨i, hi, hil, hD1, hz1⟩
  simp only at hi
  subst hi
  refine brD (fun hlt => ?_) fun hge => ?_
  · have hw : IntKind.i64.wrap ((i : Int) + 1) = ((i + 1 : Nat) : Int) := by rw [wrap_i64 (by omega) (by omega)]; omega
    obtain ⟨r, hr⟩ : ∃ r, b.fs[i]? = some r := ⟨_, List.getElem?_eq_getElem (by omega)⟩
    have hF := hB.fs.low frOk.low (low_of hD1.at_)
    have hI := hB.fs.ok r (List.mem_of_getElem? hr)
    obtain ⟨ad, g1, el, _⟩ := elt_at (P := Tryz.prog) (k := .i64) (t := 25) hF.sl hr (e := 37) (by kernel_rfl) (by kernel_rfl)
    have zr := fr_z hI
    have zn := nl_size (jnB (frL r))
    have fin : ∀ W', Bd w W' [n1] w2.heap.size (txt (bk0 b) ((b.fs.take i).map frL) ++ nl (jnB (frL r))) → Bd w W' [n1] w2.heap.size (txt (bk0 b) ((b.fs.take (i + 1)).map frL)) ∧ (txt (bk0 b) ((b.fs.take (i + 1)).map frL)).size ≤ 1000 + (i + 1) * 700000 := fun W' hh => by
      rw [take_map hr, txt_snoc]
      exact ⟨hh, by rw [ap_size]; omega⟩
    rw [hw]
    refine ⟨ad, g1, _, _, _, _, _, _, _, el.agg 7 (by kernel_rfl) (by kernel_rfl) (by simp) no_ds, bd_box (zv := .agg #[.int .i64 0, .int .i64 0, .int .i64 0, .bool false, .bool false, .int .i64 0, .int .i64 0]) [.int .i64 0, .int .i64 0, .int .i64 0, .bool false, .bool false, .int .i64 0, .int .i64 0] (frV r) (by kernel_rfl) rfl (by kernel_rfl) hD1 fun g u0 hU0 bx0 => ?_⟩
    refine ⟨_, _, _, _, _, _, _, (elt_cells bx0).agg 7 (by kernel_rfl) (by kernel_rfl) (by simp) no_ds, c24 r hI u0 (hT.low (low_of hU0.at_)) fun a9 cx9 u1 hb1 ho1 => ⟨_, _, _, rfl, hU0.keeps hb1, ?_⟩⟩
    have hsz := hU0.at_.chg.size
    have hA1 : At (zro w) [n1] u1 := hU0.at_.call hb1
    have ho : OwnF (zro w) noB [n1] u1 9 1 strE (.slice a9 (frL r).length cx9) (frL r) := ⟨ho1.row0, fun k hk => (ho1.mine k hk).elim (fun hh => .inl (Nat.le_trans hsz hh)) fun hh => hh.elim, fun x hx hh => by
      rcases ho1.mine x hh with h2 | h2
      · have := hU0.at_.under x hx
        omega
      · exact h2⟩
    refine at_line (N := noB) (hU0.low hb1.below hA1) ho (by unfold frL frB; simp) (by unfold frL frB; split <;> split <;> simp) (by omega) (by omega) fun W9 hk9 hD9 => ⟨rfl, hk9, ⟨i + 1, rfl, by omega, fin W9 hD9⟩, by simp only; omega⟩
  rw [List.take_of_length_le (show b.fs.length ≤ i by omega)] at hD1 hz1
  have q1 : (bk1 b).size ≤ 10000000000000 := by
    unfold bk1
    omega
  refine ⟨fun s W => ∃ i : Nat, s.1 = i ∧ i ≤ s2.2.1 ∧ Bd w W [n1] w2.heap.size (txt (bk1 b) ((b.ags.take i).map agL)) ∧ (txt (bk1 b) ((b.ags.take i).map agL)).size ≤ 10000000000000 + i * 700000, fun s _ => s2.2.1 - s.1.toNat, ⟨0, rfl, Nat.zero_le _, hD1, Nat.le_trans q1 (by omega)⟩, ?_⟩
  rintro x2 W20 ⟨i, hi, hil, hD2, hz2⟩
  simp only at hi
  subst hi
  refine brD (fun hlt => ?_) fun hge => ?_
  · have hw : IntKind.i64.wrap ((i : Int) + 1) = ((i + 1 : Nat) : Int) := by rw [wrap_i64 (by omega) (by omega)]; omega
    obtain ⟨r, hr⟩ : ∃ r, b.ags[i]? = some r := ⟨_, List.getElem?_eq_getElem (by omega)⟩
    have hF := hB.ags.low agOk.low (low_of hD2.at_)
    have hI := hB.ags.ok r (List.mem_of_getElem? hr)
    obtain ⟨ad, g1, el, _⟩ := elt_at (P := Tryz.prog) (k := .i64) (t := 26) hF.sl hr (e := 45) (by kernel_rfl) (by kernel_rfl)
    have zr := ag_z (x := r) hI.1
    have zn := nl_size (jnB (agL r))
    have fin : ∀ W', Bd w W' [n1] w2.heap.size (txt (bk1 b) ((b.ags.take i).map agL) ++ nl (jnB (agL r))) → Bd w W' [n1] w2.heap.size (txt (bk1 b) ((b.ags.take (i + 1)).map agL)) ∧ (txt (bk1 b) ((b.ags.take (i + 1)).map agL)).size ≤ 10000000000000 + (i + 1) * 700000 := fun W' hh => by
      rw [take_map hr, txt_snoc]
      exact ⟨hh, by rw [ap_size]; omega⟩
    rw [hw]
    refine ⟨ad, g1, _, _, _, _, _, _, _, el.agg 3 (by kernel_rfl) (by kernel_rfl) (by simp) no_ds, bd_box (zv := .agg #[.int .i64 0, .slice none 0 0, .slice none 0 0]) [.int .i64 0, .slice none 0 0, .slice none 0 0] (agV r) (by kernel_rfl) rfl (by kernel_rfl) hD2 fun g u0 hU0 bx0 => ?_⟩
    refine ⟨_, rd_f0 bx0 (by kernel_rfl) nodQ, _, _, _, rd_f 0 bx0 rfl (by kernel_rfl) nodQ, _, _, _, rd_f 1 bx0 rfl (by kernel_rfl) nodQ, go_below_too hU0.at_ fun v0 hV0 hb0 => ?_⟩
    have hU1 := hU0.low hb0.below hV0
    have bx1 := bx_low bx0 hb0.below
    refine bd25 hU1 hT hI.1 fun u2 hU2 hk2 hb2 => ?_
    have bx2 := bx_low bx1 hb2
    refine ⟨_, rfl, hk2, rd_f 1 bx2 rfl (by kernel_rfl) nodQ, rd_f 0 bx2 rfl (by kernel_rfl) nodQ, ?_⟩
    refine bd27 hU2 hT hI.2.1 fun u3 hU3 hk3 hb3 => ?_
    have bx3 := bx_low bx2 hb3
    refine ⟨_, rfl, hk3, rd_f 1 bx3 rfl (by kernel_rfl) nodQ, ?_⟩
    refine bd27 hU3 hT hI.2.2 fun u4 hU4 hk4 hb4 => ?_
    have bx4 := bx_low bx3 hb4
    refine ⟨_, rfl, hk4, ?_⟩
    refine opw_litL (e' := 9) (size := 1) (f := strE) (l := agL r) hU4.at_ rfl (fun _ _ => rfl) (by decide) (by kernel_rfl) fun g9 u9 _ hA9 hk9 hb9 ho => ⟨_, _, _, rfl, hk9, ?_⟩
    refine at_line (L := agL r) (N := noB) (hU4.low hb9.below hA9) ho (by unfold agL; simp) (by unfold agL; simp) (by omega) (by omega) fun W9 hk9 hD9 => ⟨rfl, hk9, ⟨i + 1, rfl, by omega, fin W9 hD9⟩, by simp only; omega⟩
  rw [List.take_of_length_le (show b.ags.length ≤ i by omega)] at hD2 hz2
  have q2 : (bk2 b).size ≤ 20000000000000 := by
    unfold bk2
    omega
  refine ⟨fun s W => ∃ i : Nat, s.1 = i ∧ i ≤ s3.2.1 ∧ Bd w W [n1] w2.heap.size (txt (bk2 b) ((b.os.take i).map ofL)) ∧ (txt (bk2 b) ((b.os.take i).map ofL)).size ≤ 20000000000000 + i * 700000, fun s _ => s3.2.1 - s.1.toNat, ⟨0, rfl, Nat.zero_le _, hD2, Nat.le_trans q2 (by omega)⟩, ?_⟩
  rintro x3 W30 ⟨i, hi, hil, hD3, hz3⟩
  simp only at hi
  subst hi
  refine brD (fun hlt => ?_) fun hge => ?_
  · have hw : IntKind.i64.wrap ((i : Int) + 1) = ((i + 1 : Nat) : Int) := by rw [wrap_i64 (by omega) (by omega)]; omega
    obtain ⟨r, hr⟩ : ∃ r, b.os[i]? = some r := ⟨_, List.getElem?_eq_getElem (by omega)⟩
    have hF := hB.os.low ofOk.low (low_of hD3.at_)
    have hI := hB.os.ok r (List.mem_of_getElem? hr)
    obtain ⟨ad, g1, el, _⟩ := elt_at (P := Tryz.prog) (k := .i64) (t := 27) hF.sl hr (e := 47) (by kernel_rfl) (by kernel_rfl)
    have zr := of_z (x := r) hI.1.1 hI.1.2.1 hI.1.2.2.1 hI.1.2.2.2
    have zn := nl_size (jnB (ofL r))
    have fin : ∀ W', Bd w W' [n1] w2.heap.size (txt (bk2 b) ((b.os.take i).map ofL) ++ nl (jnB (ofL r))) → Bd w W' [n1] w2.heap.size (txt (bk2 b) ((b.os.take (i + 1)).map ofL)) ∧ (txt (bk2 b) ((b.os.take (i + 1)).map ofL)).size ≤ 20000000000000 + (i + 1) * 700000 := fun W' hh => by
      rw [take_map hr, txt_snoc]
      exact ⟨hh, by rw [ap_size]; omega⟩
    rw [hw]
    refine ⟨ad, g1, _, _, _, _, _, _, _, el.agg 5 (by kernel_rfl) (by kernel_rfl) (by simp) no_ds, bd_box (zv := .agg #[.int .i64 0, .int .i64 0, .int .i64 0, .slice none 0 0, .int .i64 0]) [.int .i64 0, .int .i64 0, .int .i64 0, .slice none 0 0, .int .i64 0] (ofV r) (by kernel_rfl) rfl (by kernel_rfl) hD3 fun g u0 hU0 bx0 => ?_⟩
    refine ⟨_, rd_f0 bx0 (by kernel_rfl) nodQ, _, rd_f 0 bx0 rfl (by kernel_rfl) nodQ, _, rd_f 1 bx0 rfl (by kernel_rfl) nodQ, _, _, _, rd_f 2 bx0 rfl (by kernel_rfl) nodQ, go_below_too hU0.at_ fun v0 hV0 hb0 => ?_⟩
    have hU1 := hU0.low hb0.below hV0
    have bx1 := bx_low bx0 hb0.below
    refine bd25 hU1 hT hI.1.1 fun u2 hU2 hk2 hb2 => ?_
    have bx2 := bx_low bx1 hb2
    refine ⟨_, rfl, hk2, rd_f 2 bx2 rfl (by kernel_rfl) nodQ, rd_f 1 bx2 rfl (by kernel_rfl) nodQ, rd_f 0 bx2 rfl (by kernel_rfl) nodQ, ?_⟩
    refine bd25 hU2 hT hI.1.2.1 fun u3 hU3 hk3 hb3 => ?_
    have bx3 := bx_low bx2 hb3
    refine ⟨_, rfl, hk3, rd_f 2 bx3 rfl (by kernel_rfl) nodQ, rd_f 1 bx3 rfl (by kernel_rfl) nodQ, ?_⟩
    refine bd25 hU3 hT hI.1.2.2.1 fun u4 hU4 hk4 hb4 => ?_
    have bx4 := bx_low bx3 hb4
    refine ⟨_, rfl, hk4, rd_f 2 bx4 rfl (by kernel_rfl) nodQ, ?_⟩
    refine bd27 hU4 hT hI.2 fun u5 hU5 hk5 hb5 => ?_
    have bx5 := bx_low bx4 hb5
    refine ⟨_, rfl, hk5, ?_⟩
    refine opw_litL (e' := 9) (size := 1) (f := strE) (l := ofB r) hU5.at_ rfl (fun _ _ => rfl) (by decide) (by kernel_rfl) fun g9 u9 hg9 hA9 hk9 hb9 ho => ⟨_, _, _, rfl, hk9, ?_⟩
    have hU9 := hU5.low hb9.below hA9
    have bx9 := bx_low bx5 hb9.below
    refine ⟨_, rd_f 3 bx9 rfl (by kernel_rfl) nodQ, brB (fun hu => ⟨_, rd_f 3 bx9 rfl (by kernel_rfl) nodQ, ?_⟩) fun hu => ?_⟩
    · have eL : ofL r = ofB r ++ [bs [117, 110, 116, 105, 108], numB r.til] := by
        unfold ofL
        rw [if_pos hu]
      refine bd25 hU9 hT hI.1.2.2.2 fun u10 hU10 hk10 hb10 => ⟨_, rfl, hk10, ?_⟩
      have ho10 := ho.keep fun k hk => hb10.block k (ho.lt k hk)
      refine opw_litL (e' := 9) (size := 1) (f := strE) (l := [bs [117, 110, 116, 105, 108], numB r.til]) hU10.at_ rfl (fun _ _ => rfl) (by decide) (by kernel_rfl) fun g11 u11 _ hA11 hk11 hb11 ho11 => ⟨_, _, _, rfl, hk11, ?_⟩
      have hU11 := hU10.low hb11.below hA11
      have ho12 := ho10.keep fun k hk => hb11.below.block k (ho10.lt k hk)
      refine opw_appendS (bytes := 16) (by kernel_rfl) hU11.at_ ho12 (ho11.sl fun _ _ => rfl) (fun _ _ => rfl) (fun x _ u hu => str_one x u hu) (by simp [ofB, maxLen]) (by simp [ofB]) fun v13 u13 hA13 hk13 hg13 ho13 => ?_
      obtain ⟨a13, c5, rfl, _⟩ := ho13.slice fun _ _ => rfl
      have b9 := hb9.below
      have b11 := hb11.below
      have z10 := hb10.size
      have z11 := b11.size
      have z9 := b9.size
      have hBl : Below u5.heap.size u5 u13 := ⟨hg13.os.trans (b11.os.trans (hb10.os.trans b9.os)), hg13.tape.trans (b11.tape.trans (hb10.tape.trans b9.tape)), hg13.output.trans (b11.output.trans (hb10.output.trans b9.output)), by have := hg13.size; omega, fun k hk => (hg13.block k (by omega) (fun e => by have e2 : g9 = k := (by first | exact Option.some.inj e | exact (Option.some.inj e).symm); omega)).trans ((b11.block k (by omega)).trans ((hb10.block k (by omega)).trans (b9.block k hk)))⟩
      have hU13 := hU5.low hBl hA13
      rw [← eL] at ho13
      refine ⟨_, _, _, rfl, hk13, ?_⟩
      rw [← eL]
      refine at_line (L := ofL r) (N := noB) hU13 ho13 (by rw [eL]; simp) (by rw [eL]; simp [ofB]) (by omega) (by omega) fun W9 hk9 hD9 => ⟨rfl, hk9, ⟨i + 1, rfl, by omega, fin W9 hD9⟩, by simp only; omega⟩
    · have eL : ofL r = ofB r := by
        unfold ofL
        rw [if_neg (by rw [hu]; decide), List.append_nil]
      rw [eL] at zr zn fin
      refine at_line (L := ofB r) (N := noB) hU9 ho (by unfold ofB; simp) (by unfold ofB; simp) (by omega) (by omega) fun W9 hk9 hD9 => ⟨rfl, hk9, ⟨i + 1, rfl, by omega, fin W9 hD9⟩, by simp only; omega⟩
  rw [List.take_of_length_le (show b.os.length ≤ i by omega)] at hD3 hz3
  have q3 : (bk3 b).size ≤ 30000000000000 := by
    unfold bk3
    omega
  refine ⟨fun s W => ∃ i : Nat, s.1 = i ∧ i ≤ s4.2.1 ∧ Bd w W [n1] w2.heap.size (txt (bk3 b) ((b.ts.take i).map tkL)) ∧ (txt (bk3 b) ((b.ts.take i).map tkL)).size ≤ 30000000000000 + i * 700000, fun s _ => s4.2.1 - s.1.toNat, ⟨0, rfl, Nat.zero_le _, hD3, Nat.le_trans q3 (by omega)⟩, ?_⟩
  rintro x4 W40 ⟨i, hi, hil, hD4, hz4⟩
  simp only at hi
  subst hi
  refine brD (fun hlt => ?_) fun hge => ?_
  · have hw : IntKind.i64.wrap ((i : Int) + 1) = ((i + 1 : Nat) : Int) := by rw [wrap_i64 (by omega) (by omega)]; omega
    obtain ⟨r, hr⟩ : ∃ r, b.ts[i]? = some r := ⟨_, List.getElem?_eq_getElem (by omega)⟩
    have hF := hB.ts.low tkOk.low (low_of hD4.at_)
    have hI := hB.ts.ok r (List.mem_of_getElem? hr)
    obtain ⟨ad, g1, el, _⟩ := elt_at (P := Tryz.prog) (k := .i64) (t := 28) hF.sl hr (e := 49) (by kernel_rfl) (by kernel_rfl)
    have zr := tk_z (x := r) hI.1.1 hI.1.2.1 hI.1.2.2
    have zn := nl_size (jnB (tkL r))
    have fin : ∀ W', Bd w W' [n1] w2.heap.size (txt (bk3 b) ((b.ts.take i).map tkL) ++ nl (jnB (tkL r))) → Bd w W' [n1] w2.heap.size (txt (bk3 b) ((b.ts.take (i + 1)).map tkL)) ∧ (txt (bk3 b) ((b.ts.take (i + 1)).map tkL)).size ≤ 30000000000000 + (i + 1) * 700000 := fun W' hh => by
      rw [take_map hr, txt_snoc]
      exact ⟨hh, by rw [ap_size]; omega⟩
    rw [hw]
    refine ⟨ad, g1, _, _, _, _, _, _, el.agg 4 (by kernel_rfl) (by kernel_rfl) (by simp) no_ds, bd_box (zv := .agg #[.int .i64 0, .int .i64 0, .int .i64 0, .slice none 0 0]) [.int .i64 0, .int .i64 0, .int .i64 0, .slice none 0 0] (tkV r) (by kernel_rfl) rfl (by kernel_rfl) hD4 fun g u0 hU0 bx0 => ?_⟩
    refine ⟨_, rd_f0 bx0 (by kernel_rfl) nodQ, _, rd_f 0 bx0 rfl (by kernel_rfl) nodQ, _, rd_f 1 bx0 rfl (by kernel_rfl) nodQ, _, _, _, rd_f 2 bx0 rfl (by kernel_rfl) nodQ, go_below_too hU0.at_ fun v0 hV0 hb0 => ?_⟩
    have hU1 := hU0.low hb0.below hV0
    have bx1 := bx_low bx0 hb0.below
    refine bd25 hU1 hT hI.1.1 fun u2 hU2 hk2 hb2 => ?_
    have bx2 := bx_low bx1 hb2
    refine ⟨_, rfl, hk2, rd_f 2 bx2 rfl (by kernel_rfl) nodQ, rd_f 1 bx2 rfl (by kernel_rfl) nodQ, rd_f 0 bx2 rfl (by kernel_rfl) nodQ, ?_⟩
    refine bd25 hU2 hT hI.1.2.1 fun u3 hU3 hk3 hb3 => ?_
    have bx3 := bx_low bx2 hb3
    refine ⟨_, rfl, hk3, rd_f 2 bx3 rfl (by kernel_rfl) nodQ, rd_f 1 bx3 rfl (by kernel_rfl) nodQ, ?_⟩
    refine bd25 hU3 hT hI.1.2.2 fun u4 hU4 hk4 hb4 => ?_
    have bx4 := bx_low bx3 hb4
    refine ⟨_, rfl, hk4, rd_f 2 bx4 rfl (by kernel_rfl) nodQ, ?_⟩
    refine bd27 hU4 hT hI.2 fun u5 hU5 hk5 hb5 => ?_
    have bx5 := bx_low bx4 hb5
    refine ⟨_, rfl, hk5, ?_⟩
    refine opw_litL (e' := 9) (size := 1) (f := strE) (l := tkL r) hU5.at_ rfl (fun _ _ => rfl) (by decide) (by kernel_rfl) fun g9 u9 _ hA9 hk9 hb9 ho => ⟨_, _, _, rfl, hk9, ?_⟩
    refine at_line (L := tkL r) (N := noB) (hU5.low hb9.below hA9) ho (by unfold tkL; simp) (by unfold tkL; simp) (by omega) (by omega) fun W9 hk9 hD9 => ⟨rfl, hk9, ⟨i + 1, rfl, by omega, fin W9 hD9⟩, by simp only; omega⟩
  rw [List.take_of_length_le (show b.ts.length ≤ i by omega)] at hD4 hz4
  have q4 : (bk4 b).size ≤ 40000000000000 := by
    unfold bk4
    omega
  refine ⟨fun s W => ∃ i : Nat, s.1 = i ∧ i ≤ s5.2.1 ∧ Bd w W [n1] w2.heap.size (txt (bk4 b) ((b.fis.take i).map fiL)) ∧ (txt (bk4 b) ((b.fis.take i).map fiL)).size ≤ 40000000000000 + i * 700000, fun s _ => s5.2.1 - s.1.toNat, ⟨0, rfl, Nat.zero_le _, hD4, Nat.le_trans q4 (by omega)⟩, ?_⟩
  rintro x5 W50 ⟨i, hi, hil, hD5, hz5⟩
  simp only at hi
  subst hi
  refine brD (fun hlt => ?_) fun hge => ?_
  · have hw : IntKind.i64.wrap ((i : Int) + 1) = ((i + 1 : Nat) : Int) := by rw [wrap_i64 (by omega) (by omega)]; omega
    obtain ⟨r, hr⟩ : ∃ r, b.fis[i]? = some r := ⟨_, List.getElem?_eq_getElem (by omega)⟩
    have hF := hB.fis.low fiOk.low (low_of hD5.at_)
    have hI := hB.fis.ok r (List.mem_of_getElem? hr)
    obtain ⟨ad, g1, el, _⟩ := elt_at (P := Tryz.prog) (k := .i64) (t := 29) hF.sl hr (e := 51) (by kernel_rfl) (by kernel_rfl)
    have zr := fi_z (x := r) hI.1.1 hI.1.2.1 hI.1.2.2
    have zn := nl_size (jnB (fiL r))
    have fin : ∀ W', Bd w W' [n1] w2.heap.size (txt (bk4 b) ((b.fis.take i).map fiL) ++ nl (jnB (fiL r))) → Bd w W' [n1] w2.heap.size (txt (bk4 b) ((b.fis.take (i + 1)).map fiL)) ∧ (txt (bk4 b) ((b.fis.take (i + 1)).map fiL)).size ≤ 40000000000000 + (i + 1) * 700000 := fun W' hh => by
      rw [take_map hr, txt_snoc]
      exact ⟨hh, by rw [ap_size]; omega⟩
    rw [hw]
    refine ⟨ad, g1, _, _, _, _, _, _, el.agg 4 (by kernel_rfl) (by kernel_rfl) (by simp) no_ds, bd_box (zv := .agg #[.int .i64 0, .int .i64 0, .int .i64 0, .slice none 0 0]) [.int .i64 0, .int .i64 0, .int .i64 0, .slice none 0 0] (fiV r) (by kernel_rfl) rfl (by kernel_rfl) hD5 fun g u0 hU0 bx0 => ?_⟩
    refine ⟨_, rd_f0 bx0 (by kernel_rfl) nodQ, _, rd_f 0 bx0 rfl (by kernel_rfl) nodQ, _, rd_f 1 bx0 rfl (by kernel_rfl) nodQ, _, _, _, rd_f 2 bx0 rfl (by kernel_rfl) nodQ, go_below_too hU0.at_ fun v0 hV0 hb0 => ?_⟩
    have hU1 := hU0.low hb0.below hV0
    have bx1 := bx_low bx0 hb0.below
    refine bd25 hU1 hT hI.1.1 fun u2 hU2 hk2 hb2 => ?_
    have bx2 := bx_low bx1 hb2
    refine ⟨_, rfl, hk2, rd_f 2 bx2 rfl (by kernel_rfl) nodQ, rd_f 1 bx2 rfl (by kernel_rfl) nodQ, rd_f 0 bx2 rfl (by kernel_rfl) nodQ, ?_⟩
    refine bd25 hU2 hT hI.1.2.1 fun u3 hU3 hk3 hb3 => ?_
    have bx3 := bx_low bx2 hb3
    refine ⟨_, rfl, hk3, rd_f 2 bx3 rfl (by kernel_rfl) nodQ, rd_f 1 bx3 rfl (by kernel_rfl) nodQ, ?_⟩
    refine bd25 hU3 hT hI.1.2.2 fun u4 hU4 hk4 hb4 => ?_
    have bx4 := bx_low bx3 hb4
    refine ⟨_, rfl, hk4, rd_f 2 bx4 rfl (by kernel_rfl) nodQ, ?_⟩
    refine bd27 hU4 hT hI.2 fun u5 hU5 hk5 hb5 => ?_
    have bx5 := bx_low bx4 hb5
    refine ⟨_, rfl, hk5, ?_⟩
    refine opw_litL (e' := 9) (size := 1) (f := strE) (l := fiL r) hU5.at_ rfl (fun _ _ => rfl) (by decide) (by kernel_rfl) fun g9 u9 _ hA9 hk9 hb9 ho => ⟨_, _, _, rfl, hk9, ?_⟩
    refine at_line (L := fiL r) (N := noB) (hU5.low hb9.below hA9) ho (by unfold fiL; simp) (by unfold fiL; simp) (by omega) (by omega) fun W9 hk9 hD9 => ⟨rfl, hk9, ⟨i + 1, rfl, by omega, fin W9 hD9⟩, by simp only; omega⟩
  rw [List.take_of_length_le (show b.fis.length ≤ i by omega)] at hD5 hz5
  have q5 : (bkT b).size ≤ 50000000000000 := by
    unfold bkT
    omega
  exact end_str h hD5
end Go.Vc.ZQ

/- TellApart's walk. -/
set_option maxRecDepth 20000
set_option maxHeartbeats 2000000
set_option linter.unusedVariables false
namespace Go.Vc.ZR
open Go Go.Vc Go.Vc.V Go.RowKit Go.Proofs Vcqz Go.Vc.ZQ

variable {w W W' : World} {gs : List Nat} {A B : ZW.BkA} {a b : Bk}

theorem c7z (w : World) (hT : TabQ w) (h : BZ w A b) (hl : lenL b ≤ 600) : RetW Tryz.prog 7 #[A.v] w (.string (bkT b)) := by
  unfold lenL at hl
  have := c7 (b0 := A.cc0) (b1 := A.cc1) (b2 := A.cc2) (b3 := A.cc3) (b4 := A.cc4) (b5 := A.cc5) (b6 := A.cc6) (b7 := A.cc7) (b8 := A.cq8) w hT (h.few (by omega) (by omega) (by omega) (by omega) (by omega))
  rw [← h.nw, ← h.ls] at this
  exact this
theorem beq_text {s t : ByteArray} : (s.toList == t.toList) = decide (s = t) := by
  by_cases h : s = t
  · subst h; simp
  · have h2 : (s.toList == t.toList) = false := (brS (t := s) (s := t) (A := False) (B := True) (fun e => absurd e h) fun _ => trivial).1 |> fun k => by
      cases hh : (s.toList == t.toList) with
      | false => rfl
      | true => exact (k hh).elim
    rw [h2, decide_eq_false h]
theorem fr_one (x : Fr) : ∀ u ∈ frV x, u.oneCell' = true := fun u hu => by
  simp at hu
  rcases hu with rfl | rfl | rfl | rfl | rfl | rfl | rfl <;> rfl
theorem law3 (w : World) (hT : TabQ w) (ha : BZ w A a) (hb : BZ w B b) (la : Lens a) (lb : Lens b) : RetW Tryz.prog 3 #[A.v, B.v] w (.bool true) := by
  intro R h
  refine f3_calls _ _ _ _ _ _ _ _ _ _ _ _ _ _ _ _ _ _ _ _ _ _ _ _ _ _ _ _ _ _ _ _ _ _ _ _ _ _ _ _ _ _ _ _ _ _ _ _ _ _ _ _ w R ?_
  unfold f3_vc
  have lo : ∀ {W : World} {gs : List Nat}, At (zro w) gs W → Below w.heap.size w W := fun hA => low_of hA
  have ok : ∀ {W : World} {gs : List Nat}, At (zro w) gs W → Calls Tryz.prog 6 #[] W fun e w' => ∃ b, e = .returned (.bool b) ∧ Keeps gs W w' ∧ R (.returned (.bool b)) w' := fun {W gs} hA => at_callW hA (c6 W (hT.low (lo hA))) fun w14 hA hk _ => ⟨_, rfl, hk, leafW h hA rfl⟩
  refine fun n1 hn1 n2 hn2 => go_below (at_zro w noB) fun w3 hA => ?_
  refine at_callq hA (ZW.c4 w3 (ha.low (lo hA)).bk) fun v w5 hA hk _ ⟨k, x, e, hx⟩ => ?_
  subst e
  refine ⟨_, _, rfl, hk, ?_⟩
  refine at_callq hA (ZW.c4 w5 (hb.low (lo hA)).bk) fun v w9 hA hk _ ⟨k2, x2, e, hx2⟩ => ?_
  subst e
  refine ⟨_, _, rfl, hk, brNB (fun _ => ok hA) (fun e1 => brNB (fun _ => ok hA) (fun e2 => ?_))⟩
  have oa := ok_of (hx e1)
  have ob := ok_of (hx2 e2)
  refine at_callq hA (c5 w9 (ha.low (lo hA)) oa la) fun v w19 hA hk _ ⟨q, e, hq⟩ => ?_
  subst e
  refine ⟨_, rfl, hk, brNB (fun _ => ok hA) (fun e3 => ?_)⟩
  refine at_callq hA (c5 w19 (hb.low (lo hA)) ob lb) fun v w25 hA hk _ ⟨q2, e, hq2⟩ => ?_
  subst e
  refine ⟨_, rfl, hk, brNB (fun _ => ok hA) (fun e4 => ?_)⟩
  have fa := hq e3
  have fb := hq2 e4
  have f1 : b.fs.length ≤ 600 := by unfold lenL at fb; omega
  have g1 := hb.fs.1
  have g2 := ha.fs.1
  intro n30 h30
  have h30' : ∀ d ∈ [n30, n30, n30], (zro w).heap.size ≤ d := by have := hA.size; intro d hd; simp at hd; omega
  refine ⟨fun s W => At (zro w) [n1, n2, n30] W ∧ ∃ i : Nat, s.1 = i ∧ i ≤ b.fs.length ∧ s.2 = (A.cc0, A.cc1, A.cc2, A.cc3, A.cc4, A.cc5, A.cc6, A.cc7, A.cq8, B.now, B.last, s.2.2.2.2.2.2.2.2.2.2.2.2.1, B.a, B.o, B.t, B.l, ()) ∧ OwnL (zro w) [n1, n2, n30] W 37 7 frV (.slice s.2.2.2.2.2.2.2.2.2.2.2.2.1.1 s.2.2.2.2.2.2.2.2.2.2.2.2.1.2.1 s.2.2.2.2.2.2.2.2.2.2.2.2.1.2.2) ((tmL a.fs b.fs).take i), fun s _ => b.fs.length - s.1.toNat, go_evo hA h30' fun w33 hA => ⟨hA, 0, rfl, Nat.zero_le _, rfl, OwnL.nil⟩, ?_⟩
  rintro x34 x35 x36 x37 x38 x39 x40 x41 x42 x43 x44 x45 a46 n47 n48 a49 n50 n51 a52 n53 n54 a55 n56 n57 a58 n59 n60 w61 ⟨hA, i, hi, hil, hs, ho⟩
  simp only [Prod.mk.injEq] at hi hs
  obtain ⟨rfl, rfl, rfl, rfl, rfl, rfl, rfl, rfl, rfl, rfl, rfl, _, ea, eo, et, el, _⟩ := hs
  subst hi
  refine brD (fun hlt => ?_) (fun hge => ?_)
  · obtain ⟨f, hf⟩ : ∃ x, b.fs[i]? = some x := ⟨_, List.getElem?_eq_getElem (by omega)⟩
    obtain ⟨ad, k1, el1, _⟩ := elt_at (P := Tryz.prog) (k := .i64) (t := 25) (hb.low (lo hA)).fs hf (e := 37) (by kernel_rfl) (by kernel_rfl)
    refine ⟨ad, k1, _, _, _, _, _, _, _, el1.agg 7 (by kernel_rfl) (by kernel_rfl) (by simp) no_ds, fun n70 h70 => ?_⟩
    have hsz := hA.size
    have z30 : (zro w).heap.size ≤ n30 := h30' n30 (by simp)
    have fin : ∀ (t : Int) {W : World} {K : Option Addr → Nat → Nat → World → Prop}, At (zro w) [n1, n2, n30, n70] W → OwnL (zro w) [n1, n2, n30, n70] W 37 7 frV (.slice a46 n47 n48) ((tmL a.fs b.fs).take i) → tmF a.fs[i]? f = { f with time := t } →
        (∀ a81 n82 n83 w80, (∀ w84, Evo [n30] w80 w84 → Under [n1, n2, n30, n70] w84 → At (zro w) [n1, n2, n30] w84 ∧ OwnL (zro w) [n1, n2, n30] w84 37 7 frV (.slice a81 n82 n83) ((tmL a.fs b.fs).take (i + 1))) → K a81 n82 n83 w80) →
        OpW Tryz.prog (valueS (Instr.buildSlice 25 1 #[(0, .agg #[.int .i64 f.id, .int .i64 f.role, .int .i64 f.weight, .bool f.up, .bool f.quiet, .int .i64 t, .int .i64 f.til])])) W fun v w75 => ∃ a76 n77 n78, v = .slice a76 n77 n78 ∧ Keeps [n1, n2, n30, n70] W w75 ∧ OpW Tryz.prog (builtin .append #[25, 25] 25 #[false, false] #[.slice a46 n47 n48, .slice a76 n77 n78]) w75 fun v w80 => ∃ a81 n82 n83, v = .slice a81 n82 n83 ∧ Keeps [n1, n2, n30, n70] w75 w80 ∧ K a81 n82 n83 w80 := by
      intro t W K hA ho ht hK
      refine opw_push (bytes := 48) (e' := 37) hA ho { f with time := t } (by kernel_rfl) (by kernel_rfl) rfl (fun _ _ => rfl) (fun u hu => fr_one _ u hu) (by rw [List.length_take]; omega) (by decide) fun a' c' w2 hA ho2 _ _ => hK _ _ _ _ ?_
      refine go_evo_too hA (by intro d hd; simp at hd; omega) fun w84 hA hev => ⟨hA.sub (by simp +contextual), ?_⟩
      rw [tm_take hf, ht]
      exact (ho2.evo (by intro d hd hn; simp at hd hn; omega) hev).base ho2.mine (fun g hg => ho2.apart g (by simp at hg ⊢; rcases hg with rfl | rfl | rfl <;> simp))
    have own : ∀ {W : World}, Evo [n70] w61 W ∨ Evo [n70, n70] w61 W → OwnL (zro w) [n1, n2, n30, n70] W 37 7 frV (.slice a46 n47 n48) ((tmL a.fs b.fs).take i) := by
      intro W hev
      have hm := ho.more (gs' := [n1, n2, n30, n70]) (by intro g hg hn; simp at hg hn; omega)
      rcases hev with hev | hev
      · exact hm.base (fun k hk => hm.mine k hk) hm.apart |>.evo (by intro d hd hn; simp at hd hn; omega) hev
      · exact hm.base (fun k hk => hm.mine k hk) hm.apart |>.evo (by intro d hd hn; simp at hd hn; omega) hev
    have d70 : ∀ d ∈ [n70], (zro w).heap.size ≤ d := by intro d hd; simp at hd; omega
    have d70' : ∀ d ∈ [n70, n70], (zro w).heap.size ≤ d := by intro d hd; simp at hd; omega
    refine brD (fun hla => ?_) (fun hla => ?_)
    · obtain ⟨g, hg⟩ : ∃ x, a.fs[i]? = some x := ⟨_, List.getElem?_eq_getElem (by omega)⟩
      obtain ⟨ad2, k2, el2, _⟩ := elt_at (P := Tryz.prog) (k := .i64) (t := 25) (ha.low (lo hA)).fs hg (e := 37) (by kernel_rfl) (by kernel_rfl)
      refine ⟨ad2, k2, _, (el2.sub (o := 5) (by decide)).one (by kernel_rfl) (by have := el2.lt; intro d hd e; simp at hd; simp only at e; omega), go_evo_too hA d70' fun w73 hA73 hev => ?_⟩
      refine fin g.time hA73 (own (.inr hev)) (by rw [hg]; rfl) fun a81 n82 n83 w80 hh w84 hev hu => ?_
      obtain ⟨q1, q4⟩ := hh w84 hev hu
      rw [succ_z i (by omega)]
      refine ⟨⟨q1, i + 1, rfl, by omega, by simp only [ea, eo, et, el], q4⟩, ?_⟩
      simp only
      omega
    · refine go_evo_too hA d70 fun w73 hA73 hev => ?_
      refine fin f.time hA73 (own (.inl hev)) (by rw [List.getElem?_eq_none (by omega)]; rfl) fun a81 n82 n83 w80 hh w84 hev hu => ?_
      obtain ⟨q1, q4⟩ := hh w84 hev hu
      rw [succ_z i (by omega)]
      refine ⟨⟨q1, i + 1, rfl, by omega, by simp only [ea, eo, et, el], q4⟩, ?_⟩
      simp only
      omega
  · refine go_below_too hA fun w97 hA hb97 => ?_
    refine at_callW hA (c7z w97 (hT.low (lo hA)) (ha.low (lo hA)) fa) fun w99 hA hk hb99 => ⟨_, rfl, hk, ?_⟩
    refine at_callW hA (c7z w99 (hT.low (lo hA)) (hb.low (lo hA)) fb) fun w102 hA hk hb102 => ⟨_, rfl, hk, ?_⟩
    have hi : i = (tmL a.fs b.fs).length := by rw [tmL_len]; omega
    rw [hi, List.take_length] at ho
    have s61 : SlE w61 7 frV (tmL a.fs b.fs) a46 n47 n48 := ho.sl fun _ _ => rfl
    have s102 : SlE w102 7 frV (tmL a.fs b.fs) a46 n47 n48 := ((s61.call hb97).mono (cell_below hb99) fun _ _ h => h).mono (cell_below hb102) fun _ _ h => h
    let B' : ZW.BkA := ⟨A.cc0, A.cc1, A.cc2, A.cc3, A.cc4, A.cc5, A.cc6, A.cc7, A.cq8, B.now, B.last, (a46, n47, n48), B.a, B.o, B.t, B.l⟩
    let b' : Bk := ⟨b.now, b.last, tmL a.fs b.fs, b.ags, b.os, b.ts, b.fis⟩
    have h2 := hb.low (lo hA)
    have h1 := ha.low (lo hA)
    have hb' : BZ w102 B' b' := ⟨h2.nw, h2.ls, h2.hn, h2.hl, s102, fun x hx => ?_, h2.ags, h2.agk, h2.os, h2.ok, h2.ts, h2.tk, h2.fis, h2.fik⟩
    · have e : B'.v = .agg #[.int .i64 A.cc0, .int .i64 A.cc1, .int .i64 A.cc2, .int .i64 A.cc3, .int .i64 A.cc4, .int .i64 A.cc5, .int .i64 A.cc6, .int .i64 A.cc7, .int .i64 A.cq8, .int .i64 B.now, .int .i64 B.last, .slice a46 n47 n48, .slice a49 n50 n51, .slice a52 n53 n54, .slice a55 n56 n57, .slice a58 n59 n60] := by
        show Value.agg _ = _
        rw [← ea, ← eo, ← et, ← el]
      rw [← e]
      refine at_callb hA (c8 w102 h1 hb') fun w105 hA hk _ => ⟨_, rfl, hk, ?_⟩
      rw [told oa ob ⟨ha.nw, ha.ls⟩ ⟨hb.nw, hb.ls⟩ (B := B') (b' := b') (by unfold cfQ; simp [B']) rfl rfl rfl rfl rfl, beq_text]
      exact brB (fun _ => ok hA) (fun e => by simp at e)
    · obtain ⟨k, hk⟩ := List.getElem?_of_mem hx
      rw [show b'.fs = tmL a.fs b.fs from rfl, tmL_get] at hk
      cases hbk : b.fs[k]? with
      | none => rw [hbk] at hk; cases hk
      | some f =>
        rw [hbk] at hk
        simp only [Option.map_some, Option.some.injEq] at hk
        have hf := h2.fk f (List.mem_of_getElem? hbk)
        cases hak : a.fs[k]? with
        | none => rw [hak] at hk; rw [← hk]; exact hf
        | some g =>
          rw [hak] at hk
          have hg := h1.fk g (List.mem_of_getElem? hak)
          rw [← hk]
          exact ⟨hf.id, hf.role, hf.weight, hf.til⟩
end Go.Vc.ZR

/- Tell: the tables, from the laid variables. -/
set_option maxRecDepth 100000
set_option maxHeartbeats 1000000
set_option linter.unusedVariables false
namespace Go.Vc.ZR
open Go Go.Vc Go.Vc.V Go.Vc.ZQ Go.RowKit Go.Proofs Go.Proofs.YtfoiddldfdbanaaGreatDoor

abbrev laidD : List (String × DataW Unit) := [("math/bits.deBruijn32tab", Rows.laid_math_bits_deBruijn32tab), ("math/bits.deBruijn64tab", Rows.laid_math_bits_deBruijn64tab), ("internal/strconv.uint64pow10", Rows.laid_internal_strconv_uint64pow10), ("manciple/slot.table", Rows.laid_manciple_slot_table), ("manciple/tell.kinds", Rows.laid_manciple_tell_kinds), ("manciple/tell.errs", Rows.laid_manciple_tell_errs)]
theorem ba_ofT {s t : ByteArray} (h : s.data.toList = t.data.toList) : s = t := by
  cases s; cases t
  simp only at h
  congr 1
  exact Array.ext' h
/-- A table of texts, read. -/
theorem strs_cells {W : World} {name : String} {g t m : Nat} {ls : List (List UInt8)} {g0 : Nat} {t0 : TypeId} {cs0 : Array Value} {f0 : Nat} {p0 : List MemPlace} (hg : Tryz.prog.globalNamed name = some g) (ht : (Tryz.prog.globals[g]?).map (·.type) = some t) (hu : Tryz.prog.underlying t = some (.array m 9)) (u9 : Tryz.prog.underlying 9 = some .string) (c9 : Tryz.prog.cellsOf 9 = 1) (hm : ls.length = m)
    (hg0 : Tryz.prog.globalNamed name = some g0) (ht0 : (Tryz.prog.globals[g0]?).map (·.type) = some t0) (hv0 : W.var? Tryz.prog name = some cs0) (hd0 : DataW.trod (fun _ => ()) Tryz.prog W 0 (fun _ => true) false f0 t0 cs0.toList = some (DataW.agg (ls.map fun l => .lit (.string l)), p0)) : Elt W ⟨g, 0, none⟩ (ls.map fun l => Value.string (bs l)) := by
  obtain rfl := Option.some.inj (hg.symm.trans hg0)
  obtain rfl := Option.some.inj (ht.symm.trans ht0)
  obtain ⟨xs, m', rfl, hx, hlen, hn, hel⟩ := DataW.trod_array hu hd0
  have hx' : xs.map (·.1) = ls.map fun l => .lit (.string l) := by
    have := (Prod.mk.inj hx).1
    simp only [DataW.agg.injEq] at this
    exact this.symm
  intro j v hv
  have hj : j < ls.length := by
    have := (List.getElem?_eq_some_iff.1 hv).1
    simpa using this
  have hjm : j < m := by omega
  have := hel j hjm
  rw [c9, Nat.mul_one] at this
  have hxi : xs[j]? = some xs[j] := List.getElem?_eq_getElem (by omega)
  rw [hxi] at this
  obtain ⟨s, e1, e2, _⟩ := DataW.trod_string u9 this
  have h2 := congrArg (·[0]?) e1
  simp only [List.getElem?_take, List.getElem?_drop] at h2
  have hc : cs0[j]? = some (.string s) := by simpa using h2
  have hd : (xs.map (·.1))[j]? = some (.lit (.string s.data.toList)) := by rw [List.getElem?_map, hxi, e2]; rfl
  rw [hx', List.getElem?_map, List.getElem?_eq_getElem hj] at hd
  simp only [Option.map_some, Option.some.injEq, DataW.lit.injEq, Lit.string.injEq] at hd
  rw [List.getElem?_map, List.getElem?_eq_getElem hj] at hv
  simp only [Option.map_some, Option.some.injEq] at hv
  have hcell := World.var?_cell hg0 hv0 j
  rw [addr_add]
  simp only [Nat.zero_add]
  rw [hcell, hc, ← hv]
  congr 2
  refine ba_ofT ?_
  unfold bs
  rw [hd]

def errLs : List (List UInt8) := [[111, 107], [102, 111, 114, 109], [116, 119, 105, 99, 101], [], [], [], [], [], [], [], [110, 111, 32, 102, 114, 97, 109, 101, 119, 111, 114, 107], [110, 111, 32, 97, 103, 101, 110, 116], [110, 111, 32, 111, 102, 102, 101, 114], [110, 111, 32, 116, 97, 115, 107], [], [], [], [], [], [], [116, 111, 116, 97, 108, 115], [114, 111, 108, 101], [119, 101, 105, 103, 104, 116], [103, 111, 110, 101], [111, 119, 110, 101, 114], [115, 112, 97, 110], [108, 105, 118, 101], [102, 111, 114, 101, 105, 103, 110], [], [], [115, 104, 111, 114, 116], [109, 111, 115, 116], [99, 97, 112], [104, 111, 114, 105, 122, 111, 110], [105, 100, 115], [], [], [], [], [], [110, 105, 108], [97, 114, 103, 117, 109, 101, 110, 116], [116, 104, 101, 114, 101], [110, 111, 110, 101], [116, 101, 120, 116]]
def kindLs : List (List UInt8) := [[], [114, 101, 103, 105, 115, 116, 101, 114, 101, 100], [108, 101, 102, 116], [115, 117, 98, 115, 99, 114, 105, 98, 101, 100], [100, 105, 115, 99, 111, 110, 110, 101, 99, 116, 101, 100], [103, 111, 110, 101], [111, 102, 102, 101, 114, 101, 100], [97, 99, 99, 101, 112, 116, 101, 100], [100, 101, 99, 108, 105, 110, 101, 100], [114, 101, 115, 99, 105, 110, 100, 101, 100], [101, 120, 112, 105, 114, 101, 100], [108, 111, 115, 116], [100, 114, 111, 112, 112, 101, 100], [108, 97, 117, 110, 99, 104, 101, 100], [107, 105, 108, 108, 101, 100], [102, 105, 110, 105, 115, 104, 101, 100], [116, 97, 115, 107, 45, 108, 111, 115, 116], [116, 97, 115, 107, 45, 100, 114, 111, 112, 112, 101, 100], [114, 101, 115, 101, 114, 118, 101, 100], [117, 110, 114, 101, 115, 101, 114, 118, 101, 100]]
def slotLs : List (List UInt8) := [[99, 112, 117, 115], [109, 101, 109], [100, 105, 115, 107], [103, 112, 117, 115]]
theorem u9q : Tryz.prog.underlying 9 = some .string := by kernel_rfl
theorem c9q : Tryz.prog.cellsOf 9 = 1 := by kernel_rfl
theorem errs_eq : (Rows.laid_manciple_tell_errs : DataW Unit) = .agg (errLs.map fun l => .lit (.string l)) := rfl
theorem kinds_eq : (Rows.laid_manciple_tell_kinds : DataW Unit) = .agg (kindLs.map fun l => .lit (.string l)) := rfl
theorem slot_eq : (Rows.laid_manciple_slot_table : DataW Unit) = .agg (slotLs.map fun l => .lit (.string l)) := rfl
theorem pow_eq : (Rows.laid_internal_strconv_uint64pow10 : DataW Unit) = Lib.tabData .u64 Lib.pow10Tab := rfl
theorem tabQ_of {W : World} (h : laidMetH Tryz.prog laidD W) : TabQ W := by
  rw [MakeChecks.laidMetH_plain _ _ _ (by kernel_rfl)] at h
  obtain ⟨ps, ⟨_, _, _, _, _, _, _, _, _, _, ⟨_, _, _, _, _, _, _, _, _, _, ⟨g2, t2, cs2, f2, p2, q2, hg2, ht2, hv2, hd2, ⟨g3, t3, cs3, f3, p3, q3, hg3, ht3, hv3, hd3, ⟨g4, t4, cs4, f4, p4, q4, hg4, ht4, hv4, hd4, ⟨g5, t5, cs5, f5, p5, q5, hg5, ht5, hv5, hd5, _, _⟩, _⟩, _⟩, _⟩, _⟩, _⟩, _, _⟩ := h
  rw [pow_eq] at hd2
  rw [slot_eq] at hd3
  rw [kinds_eq] at hd4
  rw [errs_eq] at hd5
  refine ⟨?_, ?_, ?_, ?_⟩
  · exact strs_cells (g := 1) (t := 134) (m := errLs.length) (by kernel_rfl) (by kernel_rfl) (by kernel_rfl) u9q c9q rfl hg5 ht5 hv5 hd5
  · exact strs_cells (g := 0) (t := 133) (m := kindLs.length) (by kernel_rfl) (by kernel_rfl) (by kernel_rfl) u9q c9q rfl hg4 ht4 hv4 hd4
  · exact strs_cells (g := 4) (t := 161) (m := slotLs.length) (by kernel_rfl) (by kernel_rfl) (by kernel_rfl) u9q c9q rfl hg3 ht3 hv3 hd3
  · obtain rfl := Option.some.inj (pow_g.symm.trans hg2)
    obtain rfl := Option.some.inj ((show (Tryz.prog.globals[2]?).map (·.type) = some 158 by kernel_rfl).symm.trans ht2)
    unfold Lib.TabIs
    rw [hv2, ← Lib.cells_of_tab (n := Lib.pow10Tab.length) (e := 147) (by kernel_rfl) (by kernel_rfl) (by kernel_rfl) (by kernel_rfl) hd2]
end Go.Vc.ZR

/- Arguments of the law, read. -/
namespace Go.Vc
open Go Go.RowKit
theorem i64_bounds' {x : Int} (h1 : IntKind.i64.min ≤ x) (h2 : x ≤ IntKind.i64.max) : -9223372036854775808 ≤ x ∧ x ≤ 9223372036854775807 := by
  have e1 : IntKind.i64.min = -9223372036854775808 := by decide
  have e2 : IntKind.i64.max = 9223372036854775807 := by decide
  omega
theorem int_V {w : World} {x : Int} {v : Value} (h : GT.V w (.int .i64) x v) : v = .int .i64 x ∧ (-9223372036854775808 ≤ x ∧ x ≤ 9223372036854775807) := by
  obtain ⟨h, h1, h2⟩ := h
  simp at h
  exact ⟨h, i64_bounds' h1 h2⟩
theorem str_V {w : World} {x : ByteArray} {v : Value} (h : GT.V w .str x v) : v = .string x ∧ x.size ≤ maxLen := by
  obtain ⟨h, h1⟩ := h
  simp at h
  exact ⟨h, h1⟩
theorem ints_V {w : World} {l : List Int} {v : Value} (h : GT.V w (.sl (.int .i64)) l v) : ∃ a n c, v = .slice a n c ∧ SlE w 1 (fun x => [Value.int .i64 x]) l a n c ∧ ∀ x ∈ l, -9223372036854775808 ≤ x ∧ x ≤ 9223372036854775807 := by
  obtain ⟨a, n, c, hv, hs⟩ := h
  simp at hv
  refine ⟨a, n, c, hv, hs.imp fun _ _ h => h.1, fun x hx => ?_⟩
  obtain ⟨cs, hr⟩ := hs.each hx
  exact i64_bounds' hr.2.1 hr.2.2
end Go.Vc

/- TellApart: the arguments, read. -/
set_option maxRecDepth 100000
set_option maxHeartbeats 1000000
set_option linter.unusedVariables false
namespace Go.Vc.ZR
open Go Go.Vc Go.Vc.V Go.Vc.ZQ Go.RowKit Go.Proofs Go.Proofs.YtfoiddldfdbanaaGreatDoor Go.ChangeShapes Go.Deep

abbrev iG : GT := .int .i64
abbrev ptG : GT := .st (.pair iG (.pair iG (.pair iG .unit)))
abbrev PtA := Int × Int × Int × Unit
def ptOf (x : PtA) : PartT := (x.1, x.2.1, x.2.2.1)
theorem row_M {α β : Type} {w : World} {n : Nat} {R : α → List Value → Prop} {R' : β → List Value → Prop} {k : α → β} {l : List α} {a : Option Addr} {len c : Nat} (hs : SlR w n R l a len c) (hR : ∀ x cs, R x cs → R' (k x) cs) : SlR w n R' (l.map k) a len c := by
  refine ⟨by rw [List.length_map]; exact hs.1, hs.2.1, hs.2.2.1, hs.2.2.2.1, fun i y hy => ?_⟩
  rw [List.getElem?_map] at hy
  cases hx : l[i]? with
  | none => rw [hx] at hy; cases hy
  | some x =>
    rw [hx] at hy
    simp only [Option.map_some, Option.some.injEq] at hy
    subst hy
    obtain ⟨ad, cs, ha, hl, hcs, hr⟩ := hs.at_ hx
    exact ⟨ad, cs, ha, hl, hcs, hR _ _ hr⟩
/-- A row, as a row of what its elements are. -/
theorem row_C {α β : Type} {w : World} {n : Nat} {R : α → List Value → Prop} {R' : β → List Value → Prop} {Q : β → Prop} {l : List α} {a : Option Addr} {len c : Nat} (hs : SlR w n R l a len c) (hR : ∀ x cs, R x cs → ∃ y, R' y cs ∧ Q y) : ∃ L, SlR w n R' L a len c ∧ ∀ y ∈ L, Q y := by
  have h : ∀ i : Fin l.length, ∃ y, (∃ ad cs, a = some ad ∧ cs.length = n ∧ (∀ (j : Nat) (v : Value), cs[j]? = some v → w.cell? ((ad.add (i.1 * n)).add j) = some v) ∧ R' y cs) ∧ Q y := fun i => by
    obtain ⟨ad, cs, ha, hl, hcs, hr⟩ := hs.at_ (List.getElem?_eq_getElem i.2)
    obtain ⟨y, hy, hq⟩ := hR _ _ hr
    exact ⟨y, ⟨ad, cs, ha, hl, hcs, hy⟩, hq⟩
  refine ⟨List.ofFn fun i => Classical.choose (h i), ⟨by rw [List.length_ofFn]; exact hs.1, hs.2.1, hs.2.2.1, hs.2.2.2.1, fun i y hy => ?_⟩, fun y hy => ?_⟩
  · obtain ⟨hi, rfl⟩ := List.getElem?_eq_some_iff.1 hy
    rw [List.getElem_ofFn]
    rw [List.length_ofFn] at hi
    exact (Classical.choose_spec (h ⟨i, hi⟩)).1
  · obtain ⟨i, hi, rfl⟩ := List.getElem_of_mem hy
    rw [List.getElem_ofFn]
    exact (Classical.choose_spec (h _)).2
theorem pt_R {w : World} {x : PtA} {cs : List Value} (h : ptG.R w x cs) : cs = partE (ptOf x) := by
  obtain ⟨c1, c2, rfl, ⟨rfl, _, _⟩, c3, c4, rfl, ⟨rfl, _, _⟩, c5, c6, rfl, ⟨rfl, _, _⟩, rfl⟩ := h
  rfl
abbrev frG : GT := .st (.pair iG (.pair iG (.pair iG (.pair .bool (.pair .bool (.pair iG (.pair iG .unit)))))))
abbrev agG : GT := .st (.pair iG (.pair (.sl ptG) (.pair (.sl ptG) .unit)))
abbrev ofG : GT := .st (.pair iG (.pair iG (.pair iG (.pair (.sl ptG) (.pair iG .unit)))))
abbrev tkG : GT := .st (.pair iG (.pair iG (.pair iG (.pair (.sl ptG) .unit))))
abbrev arG : GT := .st (.pair iG (.pair iG (.pair iG (.pair iG .unit))))
abbrev cfG : GT := .st (.pair iG (.pair iG (.pair iG (.pair iG (.pair iG (.pair arG .unit))))))
abbrev bkG : GT := .st (.pair cfG (.pair iG (.pair iG (.pair (.sl frG) (.pair (.sl agG) (.pair (.sl ofG) (.pair (.sl tkG) (.pair (.sl tkG) .unit))))))))
theorem fr_R {w : World} {x : frG.T} {cs : List Value} (h : frG.R w x cs) : ∃ y : Fr, cs = frV y ∧ frOk w y := by
  obtain ⟨_, _, rfl, ⟨rfl, a1, b1⟩, _, _, rfl, ⟨rfl, a2, b2⟩, _, _, rfl, ⟨rfl, a3, b3⟩, _, _, rfl, rfl, _, _, rfl, rfl, _, _, rfl, ⟨rfl, a6, b6⟩, _, _, rfl, ⟨rfl, a7, b7⟩, rfl⟩ := h
  exact ⟨⟨_, _, _, _, _, _, _⟩, rfl, ⟨i64_bounds' a1 b1, i64_bounds' a2 b2, i64_bounds' a3 b3, i64_bounds' a7 b7⟩⟩
theorem ag_R {w : World} {x : agG.T} {cs : List Value} (h : agG.R w x cs) : ∃ y : Ag, cs = agV y ∧ agOk w y := by
  obtain ⟨_, _, rfl, ⟨rfl, a1, b1⟩, _, _, rfl, ⟨a, n, c, rfl, hs⟩, _, _, rfl, ⟨a', n', c', rfl, hs'⟩, rfl⟩ := h
  exact ⟨⟨_, (x.2.1.map ptOf, (a, n, c)), (x.2.2.1.map ptOf, (a', n', c'))⟩, rfl, i64_bounds' a1 b1, row_M hs fun _ _ => pt_R, row_M hs' fun _ _ => pt_R⟩
theorem of_R {w : World} {x : ofG.T} {cs : List Value} (h : ofG.R w x cs) : ∃ y : Of, cs = ofV y ∧ ofOk w y := by
  obtain ⟨_, _, rfl, ⟨rfl, a1, b1⟩, _, _, rfl, ⟨rfl, a2, b2⟩, _, _, rfl, ⟨rfl, a3, b3⟩, _, _, rfl, ⟨a, n, c, rfl, hs⟩, _, _, rfl, ⟨rfl, a5, b5⟩, rfl⟩ := h
  exact ⟨⟨_, _, _, (x.2.2.2.1.map ptOf, (a, n, c)), _⟩, rfl, ⟨i64_bounds' a1 b1, i64_bounds' a2 b2, i64_bounds' a3 b3, i64_bounds' a5 b5⟩, row_M hs fun _ _ => pt_R⟩
theorem tk_R {w : World} {x : tkG.T} {cs : List Value} (h : tkG.R w x cs) : ∃ y : Tk, cs = tkV y ∧ tkOk w y := by
  obtain ⟨_, _, rfl, ⟨rfl, a1, b1⟩, _, _, rfl, ⟨rfl, a2, b2⟩, _, _, rfl, ⟨rfl, a3, b3⟩, _, _, rfl, ⟨a, n, c, rfl, hs⟩, rfl⟩ := h
  exact ⟨⟨_, _, _, (x.2.2.2.1.map ptOf, (a, n, c))⟩, rfl, ⟨i64_bounds' a1 b1, i64_bounds' a2 b2, i64_bounds' a3 b3⟩, row_M hs fun _ _ => pt_R⟩
theorem fi_R {w : World} {x : tkG.T} {cs : List Value} (h : tkG.R w x cs) : ∃ y : Fi, cs = fiV y ∧ fiOk w y := by
  obtain ⟨_, _, rfl, ⟨rfl, a1, b1⟩, _, _, rfl, ⟨rfl, a2, b2⟩, _, _, rfl, ⟨rfl, a3, b3⟩, _, _, rfl, ⟨a, n, c, rfl, hs⟩, rfl⟩ := h
  exact ⟨⟨_, _, _, (x.2.2.2.1.map ptOf, (a, n, c))⟩, rfl, ⟨i64_bounds' a1 b1, i64_bounds' a2 b2, i64_bounds' a3 b3⟩, row_M hs fun _ _ => pt_R⟩
theorem bk_Z {w : World} {x : bkG.T} {v : Value} (h : GT.V w bkG x v) : ∃ (A : ZW.BkA) (b : Bk), v = A.v ∧ BZ w A b := by
  obtain ⟨cs, rfl, _, _, rfl, hc, _, _, rfl, ⟨rfl, a1, b1⟩, _, _, rfl, ⟨rfl, a2, b2⟩, _, _, rfl, ⟨p1, n1, c1, rfl, h1⟩, _, _, rfl, ⟨p2, n2, c2, rfl, h2⟩, _, _, rfl, ⟨p3, n3, c3, rfl, h3⟩, _, _, rfl, ⟨p4, n4, c4, rfl, h4⟩, _, _, rfl, ⟨p5, n5, c5, rfl, h5⟩, rfl⟩ := h
  obtain ⟨_, _, rfl, ⟨rfl, _, _⟩, _, _, rfl, ⟨rfl, _, _⟩, _, _, rfl, ⟨rfl, _, _⟩, _, _, rfl, ⟨rfl, _, _⟩, _, _, rfl, ⟨rfl, _, _⟩, _, _, rfl, ha, rfl⟩ := hc
  obtain ⟨_, _, rfl, ⟨rfl, _, _⟩, _, _, rfl, ⟨rfl, _, _⟩, _, _, rfl, ⟨rfl, _, _⟩, _, _, rfl, ⟨rfl, _, _⟩, rfl⟩ := ha
  obtain ⟨L1, k1, q1⟩ := row_C h1 (R' := fun y cs => cs = frV y) (Q := frOk w) fun _ _ => fr_R
  obtain ⟨L2, k2, q2⟩ := row_C h2 (R' := fun y cs => cs = agV y) (Q := agOk w) fun _ _ => ag_R
  obtain ⟨L3, k3, q3⟩ := row_C h3 (R' := fun y cs => cs = ofV y) (Q := ofOk w) fun _ _ => of_R
  obtain ⟨L4, k4, q4⟩ := row_C h4 (R' := fun y cs => cs = tkV y) (Q := tkOk w) fun _ _ => tk_R
  obtain ⟨L5, k5, q5⟩ := row_C h5 (R' := fun y cs => cs = fiV y) (Q := fiOk w) fun _ _ => fi_R
  exact ⟨⟨_, _, _, _, _, _, _, _, _, _, _, (p1, n1, c1), (p2, n2, c2), (p3, n3, c3), (p4, n4, c4), (p5, n5, c5)⟩, ⟨_, _, L1, L2, L3, L4, L5⟩, rfl, rfl, rfl, i64_bounds' a1 b1, i64_bounds' a2 b2, k1, q1, k2, q2, k3, q3, k4, q4, k5, q5⟩
/-- A field that is a slice is no longer than a machine can hold. -/
theorem fld_wt {H : Type} {enc : TypeId × Value → H} {W : World} {base : Nat} {spare : Nat → Bool} {held : Bool} {t e : TypeId} {fs : Array Field} {v : Value} {d : DataW H} {p : List MemPlace} {i : Nat} {f : Field} {a : Option Addr} {n c : Nat} (h : DataW.Trod enc Tryz.prog W base spare held t v d p)
    (hu : Tryz.prog.underlying t = some (.struct fs)) (hi : fs[i]? = some f) (hf : Tryz.prog.underlying f.type = some (.slice e)) (hc : (v.cells.toList.drop f.offset).take (Tryz.prog.cellsOf f.type) = [.slice a n c]) (hw : ∀ z ∈ DataW.weights Tryz.prog t d, z ≤ reachBytes) : n * Tryz.prog.bytesOf e ≤ reachBytes := by
  obtain ⟨fuel, hz⟩ := h
  obtain ⟨xs, m, _, hd, _, hlen, hall⟩ := DataW.trod_struct hu hz
  obtain ⟨rfl, rfl⟩ := Prod.mk.inj hd
  have h1 := hall i f hi
  rw [hc] at h1
  cases hx : xs[i]? with
  | none =>
    have := (Array.getElem?_eq_some_iff.1 hi).1
    have := List.getElem?_eq_none_iff.1 hx
    omega
  | some y =>
    rw [hx] at h1
    have hm : (xs.map (·.1))[i]? = some y.1 := by rw [List.getElem?_map, hx]; rfl
    have hft : (fs.toList.map (·.type))[i]? = some f.type := by rw [List.getElem?_map, Array.getElem?_toList, hi]; rfl
    rcases open_slice hf h1 with ⟨e, _⟩ | ⟨ad, len, cap, m', n', D, Pl, e', _, hl, _, _, hxx, _⟩
    · cases e
      simp
    · cases e'
      have hmem : (n + (m' - n)) * Tryz.prog.bytesOf e ∈ DataW.weights Tryz.prog t (.agg (xs.map (·.1))) := by
        simp only [DataW.weights, hu]
        refine DataW.weights_mem_each hft hm _ ?_
        rw [hxx]
        simp only [DataW.weights, hf, List.length_map, List.length_range]
        exact List.mem_cons_self ..
      have := hw _ hmem
      exact Nat.le_trans (Nat.mul_le_mul_right _ (Nat.le_add_right _ _)) this
theorem u31 : ∃ fs : Array Field, Tryz.prog.underlying 31 = some (.struct fs) ∧ (∃ f, fs[3]? = some f ∧ f.type = 25 ∧ f.offset = 11) ∧ (∃ f, fs[4]? = some f ∧ f.type = 26 ∧ f.offset = 12) ∧ (∃ f, fs[5]? = some f ∧ f.type = 27 ∧ f.offset = 13) ∧ (∃ f, fs[6]? = some f ∧ f.type = 28 ∧ f.offset = 14) ∧ (∃ f, fs[7]? = some f ∧ f.type = 29 ∧ f.offset = 15) :=
  ⟨_, rfl, ⟨_, rfl, rfl, rfl⟩, ⟨_, rfl, rfl, rfl⟩, ⟨_, rfl, rfl, rfl⟩, ⟨_, rfl, rfl, rfl⟩, ⟨_, rfl, rfl, rfl⟩⟩
theorem bk_lens {H : Type} {enc : TypeId × Value → H} {W : World} {base : Nat} {spare : Nat → Bool} {held : Bool} {d0 : DataW H} {p0 : List MemPlace} {A : ZW.BkA} {b : Bk} (h : DataW.Trod enc Tryz.prog W base spare held 31 A.v d0 p0) (hb : BZ W A b) (hw : ∀ z ∈ DataW.weights Tryz.prog 31 d0, z ≤ reachBytes) : Lens b := by
  obtain ⟨fs, hu, ⟨f3, g3, t3, o3⟩, ⟨f4, g4, t4, o4⟩, ⟨f5, g5, t5, o5⟩, ⟨f6, g6, t6, o6⟩, ⟨f7, g7, t7, o7⟩⟩ := u31
  have c0 : Tryz.prog.cellsOf 25 = 1 := by kernel_rfl
  have c1 : Tryz.prog.cellsOf 26 = 1 := by kernel_rfl
  have c2 : Tryz.prog.cellsOf 27 = 1 := by kernel_rfl
  have c3 : Tryz.prog.cellsOf 28 = 1 := by kernel_rfl
  have c4 : Tryz.prog.cellsOf 29 = 1 := by kernel_rfl
  have z1 := fld_wt h hu g3 (e := 37) (by rw [t3]; kernel_rfl) (by rw [t3, o3, c0]; rfl) hw
  have z2 := fld_wt h hu g4 (e := 45) (by rw [t4]; kernel_rfl) (by rw [t4, o4, c1]; rfl) hw
  have z3 := fld_wt h hu g5 (e := 47) (by rw [t5]; kernel_rfl) (by rw [t5, o5, c2]; rfl) hw
  have z4 := fld_wt h hu g6 (e := 49) (by rw [t6]; kernel_rfl) (by rw [t6, o6, c3]; rfl) hw
  have z5 := fld_wt h hu g7 (e := 51) (by rw [t7]; kernel_rfl) (by rw [t7, o7, c4]; rfl) hw
  rw [show Tryz.prog.bytesOf 37 = 48 by kernel_rfl] at z1
  rw [show Tryz.prog.bytesOf 45 = 56 by kernel_rfl] at z2
  rw [show Tryz.prog.bytesOf 47 = 56 by kernel_rfl] at z3
  rw [show Tryz.prog.bytesOf 49 = 48 by kernel_rfl] at z4
  rw [show Tryz.prog.bytesOf 51 = 48 by kernel_rfl] at z5
  have hr := reachBytes_lt
  have e1 := hb.fs.1
  have e2 := hb.ags.1
  have e3 := hb.os.1
  have e4 := hb.ts.1
  have e5 := hb.fis.1
  exact ⟨by omega, by omega, by omega, by omega, by omega⟩
end Go.Vc.ZR

