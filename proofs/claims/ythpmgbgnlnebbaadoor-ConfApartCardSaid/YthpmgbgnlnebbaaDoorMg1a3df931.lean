/- Own texts of this claim, laid together: K3, K4, FK2, K5, KArg. -/
import Derived.Test.YthpmgbgnlnebbaaDoorMgd72634e3
import Derived.Test.YthpmgbgnlnebbaaDoorProg
import Derived.Test.YthpmgbgnlnebbaaDoorRows
import Derived.LaidMore
import Derived.Lay
import Derived.HandedShaped
import Derived.Shelf.Vars

/- Configurations: Text, and the reference's. -/
set_option maxRecDepth 20000
set_option maxHeartbeats 1000000
namespace Go.Vc.K
open Go Go.Vc Go.RowKit Go.Proofs Vck

variable {w W W' W2 : World} {M : Nat → Prop} {gs : List Nat}

abbrev strE (s : ByteArray) : List Value := [.string s]
abbrev one (x : Int) : List Value := [.int .i64 x]
/-- Rows of other things than strings and lists of them are as they were. -/
def KeepT (W W' : World) : Prop := ∀ (q : Nat) (cur : Array Value) (t : TypeId) (fr : Nat × Nat), W.heap[q]? = some (Obj.cells cur t fr) → t ≠ 9 → t ≠ 46 → W'.heap[q]? = W.heap[q]?
theorem KeepT.of_bel (hb : Bel W W') : KeepT W W' := fun _ _ _ _ h _ _ => hb.block (Array.getElem?_eq_some_iff.1 h).1
theorem KeepT.trans (h : KeepT W W') (k : KeepT W' W2) : KeepT W W2 := fun q cur t fr hq h1 h2 => (k q cur t fr ((h q cur t fr hq h1 h2).trans hq) h1 h2).trans (h q cur t fr hq h1 h2)
def Plain (W : World) (a : Option Addr) : Prop := ∀ b, a = some b → ∃ (cur : Array Value) (t : TypeId) (fr : Nat × Nat), W.heap[b.block]? = some (Obj.cells cur t fr) ∧ t ≠ 9 ∧ t ≠ 46
theorem sle_at {α : Type} {n : Nat} {f : α → List Value} {l : List α} {a : Option Addr} {len c : Nat} (h : SlE W n f l a len c) (hb : ∀ b, a = some b → W'.heap[b.block]? = W.heap[b.block]?) : SlE W' n f l a len c := by
  obtain ⟨h1, h2, h3, h4, h6⟩ := h
  refine ⟨h1, h2, h3, h4, fun i x hx => ?_⟩
  obtain ⟨ad, cs, ha, hl, hcs, hr⟩ := h6 i x hx
  refine ⟨ad, cs, ha, hl, fun j v hv => ?_, hr⟩
  rw [World.cell?_of_block (w := W) (w' := W') (by rw [add_block, add_block]; exact hb ad ha)]
  exact hcs j v hv
theorem sle_keepT {α : Type} {n : Nat} {f : α → List Value} {l : List α} {a : Option Addr} {len c : Nat} (h : SlE W n f l a len c) (hp : Plain W a) (hk : KeepT W W') : SlE W' n f l a len c   := sle_at h fun b hb => by
  obtain ⟨cur, t, fr, h1, h2, h3⟩ := hp b hb
  exact hk _ _ _ _ h1 h2 h3
theorem Plain.keepT {a : Option Addr} (hp : Plain W a) (hk : KeepT W W') : Plain W' a := fun b hb => by
  obtain ⟨cur, t, fr, h1, h2, h3⟩ := hp b hb
  exact ⟨cur, t, fr, (hk _ _ _ _ h1 h2 h3).trans h1, h2, h3⟩
/-- A list of strings that a box holds. -/
def SB (w W : World) (d : Nat) (L : List ByteArray) : Prop := ∃ a c, W.heap[d]? = some (.cells ([.slice a L.length c] : List Value).toArray 46 (0, 0)) ∧ w.heap.size ≤ d ∧ OwnL w [] W 9 1 strE (.slice a L.length c) L
theorem SB.call {d : Nat} {L : List ByteArray} (h : SB w W d L) (hb : Bel W W') : SB w W' d L := by
  obtain ⟨a, c, h1, h2, h3⟩ := h
  exact ⟨a, c, by rw [hb.block (Array.getElem?_eq_some_iff.1 h1).1]; exact h1, h2, h3.call hb⟩
theorem nod {b : Nat} : ∀ d ∈ ([] : List Nat), d ≠ b := fun _ h => by cases h
theorem str_one (s : ByteArray) : ∀ u ∈ strE s, u.oneCell' = true := fun u hu => by
  simp at hu
  subst hu
  rfl
abbrev pt (b : Nat) : Option Addr := some ⟨b, 0, none⟩
theorem at_18 {K : Ending → World → Prop} {l : List Int} {a : Option Addr} {n c d : Nat} {L : List ByteArray} (hA : At w [] W) (hs : SlE W 1 one l a n c) (hp : Plain W a) (hI : ∀ x ∈ l, 0 ≤ x ∧ x ≤ 9223372036854775807) (hS : SB w W d L) (hl : L.length + l.length < 1000)
    (hK : ∀ W', At w [] W' → KeepT W W' → SB w W' d (L ++ l.map dS) → K (.returned (.tuple #[])) W') : Calls Tryd.prog 18 #[.slice a n c, .pointer (pt d)] W K := by
  refine f18_calls _ _ _ _ W K ?_
  unfold f18_vc
  have hn := hs.1
  refine ⟨fun v W' => (At w [] W' ∧ KeepT W W') ∧ ∃ i : Nat, v.1 = i ∧ i ≤ l.length ∧ SB w W' d (L ++ (l.take i).map dS), fun v _ => (n - v.1).toNat, ⟨⟨hA, KeepT.of_bel (Bel.refl _)⟩, 0, rfl, Nat.zero_le _, by simpa using hS⟩, ?_⟩
  rintro x3 w4 ⟨⟨hA, hk4⟩, i, hi, hil, hS⟩
  simp only at hi
  subst hi
  refine brD (fun hlt => ?_) (fun hge => ?_)
  · obtain ⟨p, hx⟩ : ∃ x, l[i]? = some x := ⟨_, List.getElem?_eq_getElem (by omega)⟩
    obtain ⟨ad, g1, r1⟩ := rd_one (P := Tryd.prog) (k := .i64) (t := 49) (te := 2) (e := 2) (ds := []) (sle_keepT hs hp hk4) hx rfl (by kernel_rfl) (by kernel_rfl) (by kernel_rfl) (fun _ h => by cases h)
    have hpI := hI p (List.mem_of_getElem? hx)
    obtain ⟨a7, c7, h1, h2, h3⟩ := hS
    refine ⟨ad, g1, _, r1, _, _, _, rd_f0 h1 (by kernel_rfl) nod, fun w10 hb10 => ?_⟩
    have h1 : w10.heap[d]? = _ := (hb10.block (Array.getElem?_eq_some_iff.1 h1).1).trans h1
    have h3 := h3.call hb10
    refine at_callb (hA.call hb10) (c19 p hpI.1 hpI.2 w10) fun w12 hA _ hb12 => ⟨_, rfl, ?_⟩
    have h1 : w12.heap[d]? = _ := (hb12.block (Array.getElem?_eq_some_iff.1 h1).1).trans h1
    have h3 := h3.call hb12
    refine ⟨rd_f0 h1 (by kernel_rfl) nod, ?_⟩
    refine opw_lit (e' := 9) (cs := strE (dS p)) hA (by kernel_rfl) fun w15 hA _ hb15 hcell _ => ⟨_, _, _, rfl, ?_⟩
    have h1 : w15.heap[d]? = _ := (hb15.block (Array.getElem?_eq_some_iff.1 h1).1).trans h1
    have h3 := h3.call hb15
    refine ⟨rd_f0 h1 (by kernel_rfl) nod, ?_⟩
    have hLl : (L ++ (l.take i).map dS).length < 1000 := by rw [List.length_append, List.length_map, List.length_take]; omega
    refine opw_append1 (bytes := 16) (by kernel_rfl) hA h3 (x := dS p) rfl hcell (str_one _) (by omega) (.inr (by omega)) fun v' w20 hA _ hg ho hnew => ?_
    obtain ⟨a2, c2, rfl, _⟩ := ho.slice (fun _ _ => rfl)
    refine ⟨_, _, _, rfl, ?_⟩
    have hne : ∀ {q t : Nat} {cur : Array Value} {fr : Nat × Nat}, w15.heap[q]? = some (.cells cur t fr) → t ≠ 9 → some q ≠ (Value.slice a7 (L ++ (l.take i).map dS).length c7).ownBlock := fun hq ht e => by
      obtain ⟨cur', hc⟩ := h3.blk e.symm
      exact cells_ne hc hq (fun e => ht e.symm) rfl
    have h1' : w20.heap[d]? = _ := (hg.block d (Array.getElem?_eq_some_iff.1 h1).1 (fun e => hne h1 (by decide) e)).trans h1
    refine opw_storeF hA h1' (.inl h2) (by simp) (cells' := [.slice a2 ((L ++ (l.take i).map dS) ++ [dS p]).length c2]) (by kernel_rfl) fun w25 hA _ hc hb => ?_
    have hk25 : KeepT w4 w25 := (KeepT.of_bel ((hb10.trans hb12).trans hb15)).trans fun q cur t fr hq h9 h46 => by
      have e1 := hg.block q (Array.getElem?_eq_some_iff.1 hq).1 (fun e => hne hq h9 e)
      rw [hc.block q (Array.getElem?_eq_some_iff.1 (e1.trans hq)).1 (fun e => by subst e; rw [h1] at hq; cases hq; exact h46 rfl), e1]
    rw [succ_k (by have := congrArg List.length (List.map_take (f := dS) (l := l) (i := i)); simp at hLl; omega)]
    refine ⟨⟨⟨hA, hk4.trans hk25⟩, i + 1, rfl, by omega, ?_⟩, by simp only; omega⟩
    have htk : L ++ (l.take (i + 1)).map dS = L ++ (l.take i).map dS ++ [dS p] := by
      rw [List.take_add_one, hx, List.map_append, List.append_assoc]; rfl
    rw [htk]
    exact ⟨a2, c2, hb, h2, ho.chg hc fun q hq e => by
      subst e
      obtain ⟨cur, hcu⟩ := ho.blk hq
      exact cells_ne hcu h1' (by decide) rfl⟩
  · rw [show i = l.length by omega, List.take_length] at hS
    exact hK w4 hA hk4 hS

/-- A contract that draws no one knows how often. -/
def RetW (P : Program) (f : FuncId) (args : Array Value) (W : World) (v : Value) : Prop :=
  ∀ R : Ending → World → Prop, (∀ w', Below W.heap.size W w' → R (.returned v) w') → Calls P f args W R
noncomputable def jn (l : List Int) : ByteArray := ⟨(Lib.join (l.map fun n => (dS n).data.toList) [32]).toArray⟩
noncomputable def ctext (x : Cf) : ByteArray := if cR x then jn x.l else ByteArray.mk #[]
theorem dS_small {n : Int} (h : 0 ≤ n ∧ n ≤ 9223372036854775807) : (dS n).size ≤ 19 := dec_small h
theorem join_small : ∀ l : List Int, (∀ n ∈ l, 0 ≤ n ∧ n ≤ 9223372036854775807) → (Lib.join (l.map fun n => (dS n).data.toList) [32]).length ≤ 20 * l.length
  | [], _ => by simp [Lib.join_nil]
  | n :: l, h => by
    have e : ∀ n, (dS n).data.toList.length = (dS n).size := fun n => by rw [Array.length_toList]; rfl
    have hn := dS_small (h n (by simp))
    have tail : ∀ l : List Int, (∀ n ∈ l, 0 ≤ n ∧ n ≤ 9223372036854775807) → (Lib.joinTail [32] (l.map fun n => (dS n).data.toList)).length ≤ 20 * l.length := fun l => by
      induction l with
      | nil => intro _; simp [Lib.joinTail]
      | cons x l ih =>
        intro h
        have hx := dS_small (h x (by simp))
        have := ih fun n hn => h n (by simp [hn])
        unfold Lib.joinTail at this ⊢
        rw [List.map_cons, List.map_cons, List.flatten_cons, List.length_append, List.length_append, e, List.length_cons, List.length_cons, List.length_nil]
        omega
    have := tail l fun n hn => h n (by simp [hn])
    rw [List.map_cons, Lib.join_cons, List.length_append, e]
    simp only [List.length_cons]
    omega
theorem cR_all {x : Cf} (h : cR x) : ∀ n ∈ x.l, 0 ≤ n ∧ n ≤ 9007199254740992 := by
  obtain ⟨⟨h1, h2, h3, h4⟩, h5, h6, h7, h8, h9⟩ := h
  unfold inQ at *
  intro n hn
  simp only [Cf.l, List.mem_cons, List.not_mem_nil, or_false] at hn
  rcases hn with rfl | rfl | rfl | rfl | rfl | rfl | rfl | rfl | rfl <;> omega
theorem gives_slice_arr0 {t e : TypeId} {n m : Nat} {ad : Addr} (ht : Tryd.prog.underlying t = some (.array m e)) (hs : pureRun Tryd.prog (sizeOf e) = some n) : Gives Tryd.prog (Instr.sliceAt t (.pointer (some ad)) none none none) (.slice (some ad) m m) := by
  intro W
  have he : Tryd.prog.elem t = e := by simp [Program.elem, ht]
  have hl : Tryd.prog.arrayLen t = m := by simp [Program.arrayLen, ht]
  have hh := run_sliceAt_array_all (P := Tryd.prog) W t ad (by rw [he, hl]; exact ht)
  rw [hh, he, pureRun_run hs W, hl]
  have h0 : ad.add 0 = ad := by unfold Addr.add; simp
  simp only [Result.andThen, slicedAt, Nat.sub_zero, Nat.zero_mul, h0, ite_self]
theorem c11 (x : Cf) (w : World) : RetW Tryd.prog 11 #[x.v] w (.string (ctext x)) := by
  intro R h
  refine f11_calls _ _ _ _ _ _ _ _ _ w R ?_
  unfold f11_vc
  refine opw_boxS (At.refl w) fun p w2 hp hA _ hb2 hpb => ⟨_, rfl, ?_⟩
  have el : Elt w2 ⟨p, 0, none⟩ x.cs := elt_cells (ty := 24) (by rw [hpb]; rfl)
  refine ⟨_, _, _, _, _, _, _, _, _, el.agg 9 (by kernel_rfl) (by kernel_rfl) (by simp) (by simp), ?_⟩
  refine at_callb hA (c8 x w2) fun w14 hA _ hb14 => ⟨_, rfl, ?_⟩
  by_cases hc : cR x
  · rw [if_pos hc]
    unfold ctext at h
    rw [if_pos hc] at h
    refine ⟨fun e => (by cases e), fun _ => ?_⟩
    have hall := cR_all hc
    have h31 : ∀ n ∈ x.l, 0 ≤ n ∧ n ≤ 9223372036854775807 := fun n hn => by have := hall n hn; omega
    refine opw_allocS (P := Tryd.prog) [.slice none 0 0] (zv := .slice none 0 0) (by kernel_rfl) rfl hA fun d w17 hd hA _ hb17 hdb => ⟨_, rfl, ?_⟩
    have hS : SB w w17 d [] := ⟨none, 0, hdb, by have := ‹AtF w noB [] w14›.size; omega, OwnL.nil⟩
    have hpb17 : w17.heap[p]? = some (.cells x.cs.toArray 24 (0, 0)) := by
      have hlt := (Array.getElem?_eq_some_iff.1 hpb).1
      rw [(hb14.trans hb17).block hlt, hpb]; rfl
    have el : Elt w17 ⟨p, 0, none⟩ x.cs := elt_cells hpb17
    refine ⟨_, el.one (by kernel_rfl) (by simp), _, (el.sub (o := 1) (by decide)).one (by kernel_rfl) (by simp), _, (el.sub (o := 2) (by decide)).one (by kernel_rfl) (by simp), _, (el.sub (o := 3) (by decide)).one (by kernel_rfl) (by simp), _, (el.sub (o := 4) (by decide)).one (by kernel_rfl) (by simp), ?_⟩
    refine opw_litL (e' := 2) (f := one) (size := 1) (l := [x.a, x.b, x.c, x.d, x.e]) hA rfl (fun _ _ => rfl) (by decide) (by kernel_rfl) fun g w25 hg hA _ hb25 ho => ⟨_, _, _, rfl, ?_⟩
    refine opw_invoke (P := Tryd.prog) (by kernel_rfl) ?_
    have hS := hS.call hb25
    have hpg : Plain w25 (some ⟨g, 0, none⟩) := fun b hb => by
      cases hb
      obtain ⟨cur, hc⟩ := ho.blk (k := g) rfl
      exact ⟨cur, 2, _, hc, by decide, by decide⟩
    have hpb25 : w25.heap[p]? = some (.cells x.cs.toArray 24 (0, 0)) := (hb25.block (Array.getElem?_eq_some_iff.1 hpb17).1).trans hpb17
    refine at_18 hA (ho.sl fun _ _ => rfl) hpg (fun n hn => h31 n (by simp [Cf.l] at hn ⊢; omega)) hS (by simp) fun w30 hA hk30 hS => ⟨_, rfl, rfl, ?_⟩
    have hpb30 : w30.heap[p]? = some (.cells x.cs.toArray 24 (0, 0)) := (hk30 _ _ _ _ hpb25 (by decide) (by decide)).trans hpb25
    refine ⟨_, _, _, gives_slice_arr0 (m := 4) (e := 2) (n := 1) (by kernel_rfl) (by kernel_rfl), ?_⟩
    refine opw_invoke (P := Tryd.prog) (by kernel_rfl) ?_
    have el30 := (elt_cells hpb30).sub (o := 5) (by decide)
    have hs4 : SlE w30 1 one [x.f, x.g, x.h, x.i] (some ⟨p, 0 + 5, none⟩) 4 4 := by
      refine ⟨rfl, Nat.le_refl _, (by decide : 4 ≤ maxLen), fun h => (by cases h), fun k y hy => ⟨_, one y, rfl, rfl, fun j v hv => ?_, rfl⟩⟩
      have hj : j = 0 := by have := (List.getElem?_eq_some_iff.1 hv).1; simp at this; omega
      subst hj
      simp at hv
      subst hv
      rw [addr_add_add _ _ _ rfl, Nat.mul_one, Nat.add_zero]
      refine el30 k _ ?_
      have hk4 : k = 0 ∨ k = 1 ∨ k = 2 ∨ k = 3 := by
        have := (List.getElem?_eq_some_iff.1 hy).1
        simp at this
        omega
      rcases hk4 with rfl | rfl | rfl | rfl <;> (simp at hy; subst hy; rfl)
    refine at_18 hA hs4 (fun b hb => by cases hb; exact ⟨_, 24, _, hpb30, by decide, by decide⟩) (fun n hn => h31 n (by simp [Cf.l] at hn ⊢; omega)) hS (by simp) fun w35 hA hk35 hS => ⟨_, rfl, rfl, ?_⟩
    obtain ⟨a, c, s1, s2, s3⟩ := hS
    refine ⟨_, _, _, rd_f0 s1 (by kernel_rfl) nod, ?_⟩
    have eL : ([] ++ [x.a, x.b, x.c, x.d, x.e].map dS ++ [x.f, x.g, x.h, x.i].map dS) = x.l.map dS := rfl
    rw [eL] at s3 ⊢
    obtain ⟨g, cur, rfl, _, hgb, hlc, hcm, _, _⟩ := s3.ptr (by show 0 < 9; decide)
    have hsl := s3.sl fun _ _ => rfl
    have hem : (x.l.map dS).map (fun x => x.data.toList) = x.l.map fun n => (dS n).data.toList := by rw [List.map_map]; rfl
    have hjs := join_small x.l h31
    refine (Tryd.strings_Join g 0 c (x.l.map dS) (ByteArray.mk #[32]) w35 (fun j y hy => ?_) (Array.getElem?_eq_some_iff.1 hgb).1 (by rw [List.length_map]; show 9 ≤ _; omega) hlc (by rw [hem]; show (Lib.join _ [32]).length ≤ _; have : x.l.length = 9 := rfl; omega)).mono fun e w40 ⟨he, hb⟩ => ⟨_, he, ?_⟩
    · obtain ⟨ad, cs, ha, _, hcs, rfl⟩ := hsl.at_ hy
      cases ha
      have := hcs 0 _ rfl
      rw [addr_add_add _ _ _ rfl, addr_add] at this
      simpa using this
    · rw [hem]
      exact h w40 (hA.below.below.trans (hb.mono hA.size))
  · rw [if_neg hc]
    refine ⟨fun _ => ?_, fun e => (by cases e)⟩
    unfold ctext at h
    rw [if_neg hc] at h
    exact h w14 hA.below.below
theorem ba_ext {a b : ByteArray} (h : a.data.toList = b.data.toList) : a = b := by
  obtain ⟨a⟩ := a
  obtain ⟨b⟩ := b
  congr 1
  exact Array.ext' h
theorem join_snoc (c : UInt8) : ∀ (x : List UInt8) (r : List (List UInt8)) (y : List UInt8), Lib.join (x :: r ++ [y]) [c] = Lib.join (x :: r) [c] ++ [c] ++ y
  | x, r, y => by
    rw [List.cons_append, Lib.join_cons, Lib.join_cons]
    simp [Lib.joinTail]
theorem jn_one (n : Int) : jn [n] = dS n := ba_ext (by
  show (Lib.join [(dS n).data.toList] [32]).toArray.toList = _
  rw [Lib.join_one])
theorem jn_snoc {l : List Int} (h : l ≠ []) (n : Int) : jn (l ++ [n]) = jn l ++ ByteArray.mk #[32] ++ dS n := by
  cases l with
  | nil => exact absurd rfl h
  | cons x r =>
    refine ba_ext ?_
    rw [ByteArray.data_append, Array.toList_append, ByteArray.data_append, Array.toList_append]
    show (Lib.join ((x :: r ++ [n]).map fun n => (dS n).data.toList) [32]).toArray.toList = (Lib.join ((x :: r).map fun n => (dS n).data.toList) [32]).toArray.toList ++ [32] ++ (dS n).data.toList
    rw [List.map_append, List.map_cons, List.map_cons, List.map_nil, join_snoc]
theorem jn_size {l : List Int} (h : ∀ n ∈ l, 0 ≤ n ∧ n ≤ 9007199254740992) : (jn l).size ≤ 20 * l.length := by
  have := join_small l fun n hn => by have := h n hn; omega
  have e : (jn l).size = (Lib.join (l.map fun n => (dS n).data.toList) [32]).length := by simp [jn, ByteArray.size]
  omega
theorem c12 (x : Cf) (w : World) : Ret Tryd.prog 12 #[x.v] w (.string (ctext x)) := by
  intro R h
  refine f12_calls _ _ _ _ _ _ _ _ _ w R ?_
  unfold f12_vc
  intro n1 hn1 w2 hb2 hu2
  have hA : At w [n1] w2 := ⟨((At.refl w).call hb2).chg, hu2⟩
  unfold ctext at h
  refine at_callb hA (c7 x w2) fun w4 hA hk hb => ⟨_, rfl, hk, brNB (fun hn => ?_) (fun hc => ?_)⟩
  · rw [if_neg (of_decide_eq_false hn)] at h
    exact leaf h hA rfl
  have hc := of_decide_eq_true hc
  rw [if_pos hc] at h
  have hall := cR_all hc
  have hin : ∀ n ∈ x.l, 0 ≤ n ∧ n ≤ 9223372036854775807 := fun n hn => by have := hall n hn; omega
  have step : ∀ {l : List Int} {n : Int} {gs W} {t1 : TypeId} {o1 o2 o3 o4 : Operand} {K : ByteArray → World → Prop}, l ≠ [] → (∀ m ∈ l, 0 ≤ m ∧ m ≤ 9007199254740992) → l.length ≤ 8 → (0 ≤ n ∧ n ≤ 9007199254740992) → At w gs W →
      (∀ W', At w gs W' → Keeps gs W W' → K (jn (l ++ [n])) W') → ∃ s, Gives Tryd.prog (binOpS .add t1 o1 o2 (.string (jn l)) (.string (ByteArray.mk #[32]))) (.string s) ∧ Calls Tryd.prog 21 #[.int .i64 n] W fun e w' => ∃ s1, e = .returned (.string s1) ∧ Keeps gs W w' ∧ ∃ s2, Gives Tryd.prog (binOpS .add t1 o3 o4 (.string s) (.string s1)) (.string s2) ∧ K s2 w' := by
    intro l n gs W t1 o1 o2 o3 o4 K hne hl hlen hn hA hK
    have hs := jn_size hl
    have hd := dS_small (n := n) (by omega)
    have z : (ByteArray.mk #[32]).size = 1 := rfl
    refine ⟨_, gives_sadd (by omega), ?_⟩
    refine at_call hA (c21 n W (by omega)) fun w' hA' hk => ⟨_, rfl, hk, _, gives_sadd (by rw [ByteArray.size_append]; omega), ?_⟩
    have := hK w' hA' hk
    rwa [jn_snoc hne] at this
  have ha : ∀ n, n ∈ x.l → 0 ≤ n ∧ n ≤ 9007199254740992 := hall
  have p : ∀ k, ∀ m ∈ x.l.take k, 0 ≤ m ∧ m ≤ 9007199254740992 := fun k m hm => hall m (List.mem_of_mem_take hm)
  intro w6 hb6 hu6
  have hA : At w [n1] w6 := ⟨(hA.call hb6).chg, hu6⟩
  refine at_call hA (c21 x.a w6 (hin _ (by simp [Cf.l]))) fun w8 hA hk => ⟨_, rfl, hk, ?_⟩
  rw [← jn_one]
  refine step (l := [x.a]) (n := x.b) (by simp) (p 1) (by simp) (ha _ (by simp [Cf.l])) hA fun w12 hA hk => ?_
  refine step (l := [x.a, x.b]) (n := x.c) (by simp) (p 2) (by simp) (ha _ (by simp [Cf.l])) hA fun w12 hA hk => ?_
  refine step (l := [x.a, x.b, x.c]) (n := x.d) (by simp) (p 3) (by simp) (ha _ (by simp [Cf.l])) hA fun w12 hA hk => ?_
  refine step (l := [x.a, x.b, x.c, x.d]) (n := x.e) (by simp) (p 4) (by simp) (ha _ (by simp [Cf.l])) hA fun w12 hA hk => ?_
  refine step (l := [x.a, x.b, x.c, x.d, x.e]) (n := x.f) (by simp) (p 5) (by simp) (ha _ (by simp [Cf.l])) hA fun w12 hA hk => ?_
  refine step (l := [x.a, x.b, x.c, x.d, x.e, x.f]) (n := x.g) (by simp) (p 6) (by simp) (ha _ (by simp [Cf.l])) hA fun w12 hA hk => ?_
  refine step (l := [x.a, x.b, x.c, x.d, x.e, x.f, x.g]) (n := x.h) (by simp) (p 7) (by simp) (ha _ (by simp [Cf.l])) hA fun w12 hA hk => ?_
  refine step (l := [x.a, x.b, x.c, x.d, x.e, x.f, x.g, x.h]) (n := x.i) (by simp) (p 8) (by simp) (ha _ (by simp [Cf.l])) hA fun w12 hA hk => ?_
  exact leaf h hA rfl
end Go.Vc.K

/- Configurations: Parse; what works at all. -/
set_option maxRecDepth 20000
set_option maxHeartbeats 1000000
namespace Go.Vc.K
open Go Go.Vc Go.RowKit Go.Proofs Vck

variable {w W W' W2 : World} {M : Nat → Prop} {gs gs' ds : List Nat}

/-! ### Worlds of which nobody knows how often they drew -/
structure AtB (w : World) (gs : List Nat) (W : World) : Prop where
  below : Below w.heap.size w W
  under : Under gs W
theorem AtB.of (h : At w gs W) : AtB w gs W := ⟨h.below.below, h.under⟩
theorem AtB.size (h : AtB w gs W) : w.heap.size ≤ W.heap.size := h.below.size
theorem AtB.low (h : AtB w gs W) (hb : Below W.heap.size W W') : AtB w gs W' := ⟨h.below.trans (hb.mono h.size), fun g hg => Nat.lt_of_lt_of_le (h.under g hg) hb.size⟩
theorem AtB.keeps (h : AtB w gs W) (hb : Below W.heap.size W W') : Keeps gs W W' := fun g hg => hb.block g (h.under g hg)
theorem AtB.evo (h : AtB w gs W) (hd : ∀ d ∈ ds, w.heap.size ≤ d) (k : Evo ds W W') (hu : Under gs' W') : AtB w gs' W' :=
  ⟨⟨k.os.trans h.below.os, k.tape.trans h.below.tape, k.output.trans h.below.output, Nat.le_trans h.size k.size, fun b hb => (k.block b (Nat.lt_of_lt_of_le hb h.size) fun hm => by have := hd b hm; omega).trans (h.below.block b hb)⟩, hu⟩
theorem AtB.bel (h : AtB w gs W) (k : Bel W W') (hu : Under gs' W') : AtB w gs' W' := ⟨h.below.trans (k.below.mono h.size), hu⟩
theorem at_callW {f : FuncId} {args : Array Value} {v : Value} {K : Ending → World → Prop} (h : AtB w gs W) (hc : RetW Tryd.prog f args W v) (hK : ∀ w', AtB w gs w' → Keeps gs W w' → Below W.heap.size W w' → K (.returned v) w') : Calls Tryd.prog f args W K :=
  hc K fun w' hb => hK w' (h.low hb) (h.keeps hb) hb
theorem retW {f : FuncId} {args : Array Value} {v : Value} (h : Ret Tryd.prog f args W v) : RetW Tryd.prog f args W v := fun R k => h R fun w' hb => k w' hb.below

/-- The library's own number, in memory. -/
def MaxL (W : World) : Prop := ∃ m, W.cell? ⟨0, 0, none⟩ = some (.int .i64 m)
theorem MaxL.low (h : MaxL W) (hb : Below W.heap.size W W') : MaxL W' := h.imp fun _ h => cell_below hb _ _ h
def wordsOf (s : ByteArray) : List ByteArray := Lib.splitB (ByteArray.mk #[32]) 0 (Lib.countB s (ByteArray.mk #[32])) s
theorem split_small (sep : ByteArray) : ∀ (k : Nat) (s : ByteArray), ∀ b ∈ Lib.splitB sep 0 k s, b.size ≤ s.size
  | 0, s, b, hb => by
    rw [Lib.splitB_zero, List.mem_singleton] at hb
    rw [hb]
    exact Nat.le_refl _
  | k + 1, s, b, hb => by
    unfold Lib.splitB at hb
    split at hb
    · rw [List.mem_singleton] at hb
      rw [hb]
      exact Nat.le_refl _
    · rcases List.mem_cons.1 hb with rfl | hb
      · rw [ByteArray.size_extract]
        omega
      · have := split_small sep k _ b hb
        rw [ByteArray.size_extract] at this
        omega
theorem flat_str (l : List ByteArray) : l.flatMap strE = l.map Value.string := by
  induction l with
  | nil => rfl
  | cons x l ih => rw [List.flatMap_cons, ih]; rfl
theorem c16 (s : ByteArray) (w : World) (hs : s.size < 4294967281) (hM : MaxL w) : RetQ Tryd.prog 16 #[.string s, .string (ByteArray.mk #[32])] w fun v w' => ∃ cur, v = .slice (some ⟨w.heap.size, 0, none⟩) (wordsOf s).length (wordsOf s).length ∧ w'.heap[w.heap.size]? = some (.cells cur 9 (0, 0)) ∧ SlE w' 1 strE (wordsOf s) (some ⟨w.heap.size, 0, none⟩) (wordsOf s).length (wordsOf s).length := by
  intro R h
  obtain ⟨m, hm⟩ := hM
  refine (Tryd.strings_Split s (ByteArray.mk #[32]) m w hs hm (by decide)).mono fun e w' ⟨he, hw⟩ => ?_
  subst he hw
  have hlen : (wordsOf s).length = Lib.countB s (ByteArray.mk #[32]) + 1 := Lib.splitB_all (ByteArray.mk #[32]) (by decide) 0 _ s rfl
  have hle := Lib.countB_le (ByteArray.mk #[32]) (by decide) _ s (Nat.le_refl _)
  refine h _ _ (below_alloc _) ⟨_, by rw [hlen], heap_alloc_new _ _, ?_⟩
  have ho : OwnL w [] (w.alloc (.cells ((wordsOf s).map Value.string).toArray 9)) 9 1 strE (.slice (some ⟨w.heap.size, 0, none⟩) (wordsOf s).length (wordsOf s).length) (wordsOf s) :=
    OwnF.ret (n := (wordsOf s).length) (xs := (wordsOf s).flatMap strE) (At.refl w) ⟨by rw [flat_str]; simp, .inr ⟨w.heap.size, _, _, rfl, Nat.le_refl _, heap_alloc_new _ _, Nat.le_refl _, by simp only [maxLen]; omega, by simp, by rw [flat_str, List.toList_toArray]; exact List.take_of_length_le (by simp)⟩⟩ rfl rfl
  exact ho.sl fun _ _ => rfl

/-! ### Parse -/
def toC : List Int → Option Cf
  | [a, b, c, d, e, f, g, h, i] => some ⟨a, b, c, d, e, f, g, h, i⟩
  | _ => none
def numsOf (s : ByteArray) : List Int := (wordsOf s).map numB
open Classical in
noncomputable def parseC (s : ByteArray) : Cf × Bool := match toC (numsOf s) with
  | some c => if cR c ∧ ctext c = s then (c, true) else (zC, false)
  | none => (zC, false)
theorem nine {l : List Int} (h : l.length = 9) : ∃ a b c d e f g h' i, l = [a, b, c, d, e, f, g, h', i] := by
  match l, h with
  | [a, b, c, d, e, f, g, h', i], _ => exact ⟨a, b, c, d, e, f, g, h', i, rfl⟩
theorem toC_none {l : List Int} (h : l.length ≠ 9) : toC l = none := by
  unfold toC
  split
  · simp at h
  · rfl
theorem parse_bad {s : ByteArray} (h : ∀ c, toC (numsOf s) = some c → ¬ (cR c ∧ ctext c = s)) : parseC s = (zC, false) := by
  unfold parseC
  split
  · rename_i c hc
    rw [if_neg (h c hc)]
  · rfl
theorem toList_beq (t s : ByteArray) : (t.toList == s.toList) = decide (t = s) := by
  by_cases h : t = s
  · subst h; simp
  · have : t.toList ≠ s.toList := fun e => h (by
      rw [ByteArray.toList_eq, ByteArray.toList_eq] at e
      have := Array.ext' e
      cases t; cases s
      simpa using this)
    simp [h, this]
def pV (p : Cf × Bool) : Value := .tuple #[p.1.v, .bool p.2]
theorem set_take {l : List Int} {i : Nat} {x : Int} (hx : l[i]? = some x) (hl : l.length = 9) : (l.take i ++ List.replicate (9 - i) 0).set i x = l.take (i + 1) ++ List.replicate (9 - (i + 1)) 0 := by
  have hi := (List.getElem?_eq_some_iff.1 hx).1
  rw [List.set_append_right _ _ (by rw [List.length_take]; omega), List.length_take, Nat.min_eq_left (by omega), Nat.sub_self, List.take_add_one, hx]
  obtain ⟨k, hk⟩ : ∃ k, 9 - i = k + 1 := ⟨9 - i - 1, by omega⟩
  rw [hk, List.replicate_succ, List.set_cons_zero, show 9 - (i + 1) = k by omega]
  simp
theorem c10 (s : ByteArray) (w : World) (hs : s.size < 4294967281) (hM : MaxL w) : RetW Tryd.prog 10 #[.string s] w (pV (parseC s)) := by
  intro R h
  refine f10_calls s w R ?_
  unfold f10_vc
  intro n1 hn1 w2 hb2 hu2
  have hA : At w [n1] w2 := ⟨((At.refl w).call hb2).chg, hu2⟩
  have bad : ∀ {W'}, parseC s = (zC, false) → Below w.heap.size w W' → R (.returned (pV (zC, false))) W' := fun he hb => by
    rw [he] at h
    exact h _ hb
  have hd1 : ∀ d ∈ [n1], w.heap.size ≤ d := by intro d hd; simp at hd; omega
  refine opw_allocArr (n := 9) (size := 1) (f := one) (z := (0 : Int)) (zv := .agg (List.replicate 9 (Value.int .i64 0)).toArray) hA (by kernel_rfl) rfl rfl (by decide) fun w4 hA hk4 ho => ⟨_, rfl, hk4, ?_⟩
  generalize hg : w2.heap.size = g at ho ⊢
  have hwg : w.heap.size ≤ g := by have := hb2.size; omega
  refine at_callq hA (c16 s w4 hs (hM.low hA.below.below)) fun v w7 hA hk7 hb7 ⟨cur, e, hblk, hsl⟩ => ?_
  subst e
  have ho := ho.call hb7
  have hlw := hsl.1
  refine ⟨_, _, _, rfl, hk7, brN (fun hne w11 hev hu => ?_) (fun heq => ?_)⟩
  · have hA := hA.evo hd1 hev hu
    refine bad (parse_bad fun c hc => ?_) hA.below.below
    rw [toC_none (by unfold numsOf; rw [List.length_map]; omega)] at hc
    cases hc
  have hl9 : (wordsOf s).length = 9 := by omega
  have hn9 : (numsOf s).length = 9 := by unfold numsOf; rw [List.length_map]; exact hl9
  refine ⟨fun v W' => At w [n1] W' ∧ W'.heap[w4.heap.size]? = w7.heap[w4.heap.size]? ∧ ∃ i : Nat, v.1 = i ∧ i ≤ 9 ∧ OwnL w [n1] W' 45 1 one (.slice (some ⟨g, 0, none⟩) 9 9) ((numsOf s).take i ++ List.replicate (9 - i) 0), fun v _ => ((9 : Int) - v.1).toNat, ⟨hA, rfl, 0, rfl, Nat.zero_le _, by simpa using ho⟩, ?_⟩
  rintro x14 w15 ⟨hA, hkb, i, hi, hil, ho⟩
  simp only at hi
  subst hi
  refine brD (fun hlt => ?_) (fun hge => ?_)
  · obtain ⟨b, hb⟩ : ∃ x, (wordsOf s)[i]? = some x := ⟨_, List.getElem?_eq_getElem (by omega)⟩
    have hsl15 : SlE w15 1 strE (wordsOf s) (some ⟨w4.heap.size, 0, none⟩) (wordsOf s).length (wordsOf s).length := sle_at hsl fun b hb => by cases hb; exact hkb
    obtain ⟨ad, g1, r1⟩ := rd_one (P := Tryd.prog) (k := .i64) (t := 46) (te := 9) (e := 9) (ds := []) hsl15 hb rfl (by kernel_rfl) (by kernel_rfl) (by kernel_rfl) (fun _ h => by cases h)
    have hbs : b.size ≤ s.size := split_small _ _ _ b (List.mem_of_getElem? hb)
    refine ⟨ad, g1, _, r1, at_callb hA (c17 b (by unfold maxLen; omega) w15) fun w19 hA hk hb19 => ⟨_, rfl, hk, ?_⟩⟩
    refine ⟨Addr.add ⟨g, 0, none⟩ (i * 1), gives_index_arr (P := Tryd.prog) (e := 2) (m := 9) (by kernel_rfl) (by kernel_rfl) (by omega), ?_⟩
    have hx : (numsOf s)[i]? = some (numB b) := by unfold numsOf; rw [List.getElem?_map, hb]; rfl
    have ho := ho.call hb19
    have hlen : ((numsOf s).take i ++ List.replicate (9 - i) 0).length = 9 := by
      rw [List.length_append, List.length_take, List.length_replicate]; omega
    refine opw_store (te := 2) (i := i) (y := numB b) (x := .int .i64 (numB b)) hA ho (fun _ _ => rfl) (by rw [hlen]; omega) rfl rfl rfl (by kernel_rfl) (fun w23 hA hk hgr ho => ?_) (fun g' hg' => by cases hg'; rw [addr_add]; simp)
    rw [set_take hx hn9] at ho
    rw [succ_k (by omega)]
    have hlt4 : w4.heap.size < w19.heap.size := by
      have h1 := (Array.getElem?_eq_some_iff.1 (hkb.trans hblk)).1
      have h2 := hb19.size
      omega
    refine ⟨hk, ⟨hA, ?_, i + 1, rfl, by omega, ho⟩, by simp only; omega⟩
    rw [hgr.block _ hlt4 fun e => ?_, hb19.block (Array.getElem?_eq_some_iff.1 (hkb.trans hblk)).1, hkb]
    obtain ⟨cur', hc'⟩ := (‹OwnF w noB [n1] w19 45 1 one (.slice (some ⟨g, 0, none⟩) 9 9) ((numsOf s).take i ++ List.replicate (9 - i) 0)›).blk e.symm
    have hc2 : w19.heap[w4.heap.size]? = some (.cells cur 9 (0, 0)) := by
      rw [hb19.block (Array.getElem?_eq_some_iff.1 (hkb.trans hblk)).1, hkb, hblk]
    exact cells_ne hc' hc2 (by decide) rfl
  · have hi9 : i = 9 := by omega
    subst hi9
    rw [Nat.sub_self, List.replicate_zero, List.append_nil, List.take_of_length_le (by omega)] at ho
    obtain ⟨x0, x1, x2, x3, x4, x5, x6, x7, x8, hnine⟩ := nine hn9
    rw [hnine] at ho
    have hs9 := ho.sl fun _ _ => rfl
    have cell : ∀ (k : Nat) (y : Int), [x0, x1, x2, x3, x4, x5, x6, x7, x8][k]? = some y → w15.cell? ((⟨g, 0, none⟩ : Addr).add (k * 1)) = some (.int .i64 y) := fun k y hy => by
      obtain ⟨ad, cs, ha, _, hcs, rfl⟩ := hs9.at_ hy
      cases ha
      have := hcs 0 _ rfl
      rwa [addr_add_add _ _ _ rfl, Nat.add_zero] at this
    have ix : ∀ (k : Nat), k < 9 → Gives Tryd.prog (Instr.indexAt 45 (.pointer (some ⟨g, 0, none⟩)) (.int .i64 (k : Int))) (.pointer (some ((⟨g, 0, none⟩ : Addr).add (k * 1)))) := fun k hk => gives_index_arr (P := Tryd.prog) (e := 2) (m := 9) (by kernel_rfl) (by kernel_rfl) hk
    have rd : ∀ (k : Nat) (y : Int) (te : TypeId), pureRun Tryd.prog (isAgg te) = some false → [x0, x1, x2, x3, x4, x5, x6, x7, x8][k]? = some y → Reads Tryd.prog [] (Instr.loadAt te (.pointer (some ((⟨g, 0, none⟩ : Addr).add (k * 1))))) w15 (.int .i64 y) := fun k y te hte hy => reads_one hte (fun _ h => by cases h) (cell k y hy)
    have rag : Reads Tryd.prog [] (Instr.loadAt 22 (.pointer (some ((⟨g, 0, none⟩ : Addr).add (5 * 1))))) w15 (.agg #[.int .i64 x5, .int .i64 x6, .int .i64 x7, .int .i64 x8]) := reads_agg (cs := [.int .i64 x5, .int .i64 x6, .int .i64 x7, .int .i64 x8]) (by kernel_rfl) (by kernel_rfl) (fun _ h => by cases h) fun j v hv => by
      have hj : j = 0 ∨ j = 1 ∨ j = 2 ∨ j = 3 := by
        have := (List.getElem?_eq_some_iff.1 hv).1
        simp at this
        omega
      rw [addr_add_add _ _ _ rfl]
      rcases hj with rfl | rfl | rfl | rfl <;> (simp at hv; subst hv)
      · exact cell 5 x5 rfl
      · exact cell 6 x6 rfl
      · exact cell 7 x7 rfl
      · exact cell 8 x8 rfl
    refine ⟨_, ix 0 (by decide), _, rd 0 x0 2 (by kernel_rfl) rfl, _, ix 1 (by decide), _, rd 1 x1 2 (by kernel_rfl) rfl, _, ix 2 (by decide), _, rd 2 x2 2 (by kernel_rfl) rfl, _, ix 3 (by decide), _, rd 3 x3 2 (by kernel_rfl) rfl, _, ix 4 (by decide), _, rd 4 x4 2 (by kernel_rfl) rfl, _, _, _, gives_slice_arr (P := Tryd.prog) (e := 2) (n := 1) (m := 9) (i := 5) (by kernel_rfl) (by kernel_rfl) (by decide), _, (fun W => pureRun_run (P := Tryd.prog) (by kernel_rfl) W), _, _, _, _, rag, ?_⟩
    intro n42 hn42
    have hsz15 := hA.size
    have hd2 : ∀ d ∈ [n1, n42], w.heap.size ≤ d := by intro d hd; simp at hd; omega
    have hd3 : ∀ d ∈ [n42], w.heap.size ≤ d := by intro d hd; simp at hd; omega
    refine ⟨rag, rd 4 x4 2 (by kernel_rfl) rfl, rd 3 x3 2 (by kernel_rfl) rfl, rd 2 x2 2 (by kernel_rfl) rfl, rd 1 x1 2 (by kernel_rfl) rfl, rd 0 x0 2 (by kernel_rfl) rfl, ?_⟩
    have htc : toC (numsOf s) = some ⟨x0, x1, x2, x3, x4, x5, x6, x7, x8⟩ := by rw [hnine]; rfl
    have nob : ∀ {W'}, ¬ (cR ⟨x0, x1, x2, x3, x4, x5, x6, x7, x8⟩ ∧ ctext ⟨x0, x1, x2, x3, x4, x5, x6, x7, x8⟩ = s) → Below w.heap.size w W' → R (.returned (pV (zC, false))) W' := fun hno hb => bad (parse_bad fun c hc => by rw [htc] at hc; cases hc; exact hno) hb
    refine brB (fun hz w43 hev hu => nob (fun hh => ?_) (hA.evo hd2 hev hu).below.below) (fun hnz w44 hev hu => ?_)
    · simp at hz
      have := hh.1.2.2.1.1
      simp only at this
      omega
    have hA := hA.evo hd3 hev hu
    refine at_callb hA (c8 ⟨x0, x1, x2, x3, x4, x5, x6, x7, x8⟩ w44) fun w46 hA hk hb46 => ⟨_, rfl, hk, ?_⟩
    by_cases hc : cR ⟨x0, x1, x2, x3, x4, x5, x6, x7, x8⟩
    · rw [if_pos hc]
      refine ⟨fun e => (by cases e), fun _ => ?_⟩
      refine at_callW (AtB.of hA) (c11 ⟨x0, x1, x2, x3, x4, x5, x6, x7, x8⟩ w46) fun w50 hA hk hb50 => ⟨_, rfl, hk, ?_⟩
      rw [toList_beq]
      refine brNB (fun hne w52 hev hu => ?_) (fun he w53 hev hu => ?_)
      · exact nob (fun hh => of_decide_eq_false hne hh.2) (hA.evo hd1 hev hu).below
      · have hp : parseC s = (⟨x0, x1, x2, x3, x4, x5, x6, x7, x8⟩, true) := by
          unfold parseC
          rw [htc]
          simp only
          rw [if_pos ⟨hc, of_decide_eq_true he⟩]
        rw [hp] at h
        exact h _ (hA.evo hd1 hev hu).below
    · rw [if_neg hc]
      refine ⟨fun _ w48 hev hu => nob (fun hh => hc hh.1) (hA.evo hd1 hev hu).below.below, fun e => (by cases e)⟩
end Go.Vc.K

/- The formulas of functions, printed by a program (VcTool.lean): each is what the generator's formula comes to, by the kernel's reckoning; whoever proves one has the function's contract. -/
set_option maxRecDepth 100000
set_option maxHeartbeats 1000000
set_option linter.unusedVariables false
namespace Vck
open Go Go.Vc Go.RowKit
/-! manciple/manciplelaw13.ConfChecks -/
def h3 : Hints := ⟨[1, 3], [], [12, 16, 20, 26, 32, 36, 42, 47, 52, 74], [], [], [], [], [], []⟩
def f3_vc (c_0 : Int) (c_1 : Int) (c_2 : Int) (c_3 : Int) (c_4 : Int) (c_5 : Int) (c_6 : Int) (c_7 : Int) (c_8 : Int) (w : World) (R : Ending → World → Prop) : Prop :=
 ∀ (n1 : Nat),
 w.heap.size ≤ n1 →
 ∀ (w2 : World),
 Bel w w2 →
 Under [n1] w2 →
 Calls Proofs.Tryd.prog 6
 #[Value.agg
 #[Value.int IntKind.i64 c_0, Value.int IntKind.i64 c_1, Value.int IntKind.i64 c_2, Value.int IntKind.i64 c_3, Value.int IntKind.i64 c_4, Value.int IntKind.i64 c_5, Value.int IntKind.i64 c_6, Value.int IntKind.i64 c_7,
 Value.int IntKind.i64 c_8]]
 w2 fun (e3 : Ending) (w4 : World) =>
 ∃ (x5 : Int),
 ∃ (x6 : Int),
 ∃ (x7 : Int),
 ∃ (x8 : Int),
 ∃ (x9 : Int),
 ∃ (x10 : Int),
 ∃ (x11 : Int),
 ∃ (x12 : Int),
 ∃ (x13 : Int),
 ∃ (x14 : Int),
 ∃ (x15 : Int),
 ∃ (a16 : Option Addr),
 ∃ (n17 : Nat),
 ∃ (n18 : Nat),
 ∃ (a19 : Option Addr),
 ∃ (n20 : Nat),
 ∃ (n21 : Nat),
 ∃ (a22 : Option Addr),
 ∃ (n23 : Nat),
 ∃ (n24 : Nat),
 ∃ (a25 : Option Addr),
 ∃ (n26 : Nat),
 ∃ (n27 : Nat),
 ∃ (a28 : Option Addr),
 ∃ (n29 : Nat),
 ∃ (n30 : Nat),
 ∃ (x31 : Int),
 e3 =
 Ending.returned
 (Value.tuple
 #[Value.agg
 #[Value.int IntKind.i64 x5, Value.int IntKind.i64 x6, Value.int IntKind.i64 x7, Value.int IntKind.i64 x8, Value.int IntKind.i64 x9, Value.int IntKind.i64 x10,
 Value.int IntKind.i64 x11, Value.int IntKind.i64 x12, Value.int IntKind.i64 x13, Value.int IntKind.i64 x14, Value.int IntKind.i64 x15, Value.slice a16 n17 n18,
 Value.slice a19 n20 n21, Value.slice a22 n23 n24, Value.slice a25 n26 n27, Value.slice a28 n29 n30],
 Value.int IntKind.i64 x31]) ∧
 Keeps [n1] w2 w4 ∧
 ∀ (n32 : Nat),
 w4.heap.size ≤ n32 →
 ∀ (w33 : World),
 Evo [n32] w4 w33 →
 Under [n1, n32] w33 →
 Calls Proofs.Tryd.prog 7
 #[Value.agg
 #[Value.int IntKind.i64 c_0, Value.int IntKind.i64 c_1, Value.int IntKind.i64 c_2, Value.int IntKind.i64 c_3, Value.int IntKind.i64 c_4,
 Value.int IntKind.i64 c_5, Value.int IntKind.i64 c_6, Value.int IntKind.i64 c_7, Value.int IntKind.i64 c_8]]
 w33 fun (e34 : Ending) (w35 : World) =>
 ∃ (b36 : Bool),
 e34 = Ending.returned (Value.bool b36) ∧
 Keeps [n1, n32] w33 w35 ∧
 ((!b36) = true →
 Calls Proofs.Tryd.prog 8
 #[Value.agg
 #[Value.int IntKind.i64 c_0, Value.int IntKind.i64 c_1, Value.int IntKind.i64 c_2, Value.int IntKind.i64 c_3, Value.int IntKind.i64 c_4,
 Value.int IntKind.i64 c_5, Value.int IntKind.i64 c_6, Value.int IntKind.i64 c_7, Value.int IntKind.i64 c_8]]
 w35 fun (e37 : Ending) (w38 : World) =>
 ∃ (x39 : Int),
 e37 = Ending.returned (Value.int IntKind.i64 x39) ∧
 Keeps [n1, n32] w35 w38 ∧
 ((x39 == 41) = true →
 ((x31 == 41) = true →
 ((x5 == 0 &&
 (x6 == 0 && (x7 == 0 && (x8 == 0 && (x9 == 0 && (x10 == 0 && (x11 == 0 && (x12 == 0 && (x13 == 0 && true))) && true)))))) =
 true →
 Calls Proofs.Tryd.prog 9 #[] w38 fun (e40 : Ending) (w41 : World) =>
 ∃ (b42 : Bool), e40 = Ending.returned (Value.bool b42) ∧ Keeps [n1, n32] w38 w41 ∧ R (Ending.returned (Value.bool b42)) w41) ∧
 ((x5 == 0 &&
 (x6 == 0 && (x7 == 0 && (x8 == 0 && (x9 == 0 && (x10 == 0 && (x11 == 0 && (x12 == 0 && (x13 == 0 && true))) && true)))))) =
 false →
 R (Ending.returned (Value.bool false)) w38)) ∧
 ((x31 == 41) = false → R (Ending.returned (Value.bool false)) w38)) ∧
 ((x39 == 41) = false → R (Ending.returned (Value.bool false)) w38)) ∧
 ((!b36) = false →
 Calls Proofs.Tryd.prog 8
 #[Value.agg
 #[Value.int IntKind.i64 c_0, Value.int IntKind.i64 c_1, Value.int IntKind.i64 c_2, Value.int IntKind.i64 c_3, Value.int IntKind.i64 c_4,
 Value.int IntKind.i64 c_5, Value.int IntKind.i64 c_6, Value.int IntKind.i64 c_7, Value.int IntKind.i64 c_8]]
 w35 fun (e43 : Ending) (w44 : World) =>
 ∃ (x45 : Int),
 e43 = Ending.returned (Value.int IntKind.i64 x45) ∧
 Keeps [n1, n32] w35 w44 ∧
 ((x45 == 0) = true →
 ((x31 == 0) = true →
 ((x5 == c_0 &&
 (x6 == c_1 &&
 (x7 == c_2 &&
 (x8 == c_3 && (x9 == c_4 && (x10 == c_5 && (x11 == c_6 && (x12 == c_7 && (x13 == c_8 && true))) && true)))))) =
 true →
 ((x14 == 0) = true →
 ((x15 == 0) = true →
 ((IntKind.i64.wrap
 (IntKind.i64.wrap
 (IntKind.i64.wrap (IntKind.i64.wrap ((↑n17 : Int) + (↑n20 : Int)) + (↑n23 : Int)) + (↑n26 : Int)) +
 (↑n29 : Int)) ==
 0) =
 true →
 Calls Proofs.Tryd.prog 9 #[] w44 fun (e46 : Ending) (w47 : World) =>
 ∃ (b48 : Bool),
 e46 = Ending.returned (Value.bool b48) ∧ Keeps [n1, n32] w44 w47 ∧ R (Ending.returned (Value.bool b48)) w47) ∧
 ((IntKind.i64.wrap
 (IntKind.i64.wrap
 (IntKind.i64.wrap (IntKind.i64.wrap ((↑n17 : Int) + (↑n20 : Int)) + (↑n23 : Int)) + (↑n26 : Int)) +
 (↑n29 : Int)) ==
 0) =
 false →
 R (Ending.returned (Value.bool false)) w44)) ∧
 ((x15 == 0) = false → R (Ending.returned (Value.bool false)) w44)) ∧
 ((x14 == 0) = false → R (Ending.returned (Value.bool false)) w44)) ∧
 ((x5 == c_0 &&
 (x6 == c_1 &&
 (x7 == c_2 &&
 (x8 == c_3 && (x9 == c_4 && (x10 == c_5 && (x11 == c_6 && (x12 == c_7 && (x13 == c_8 && true))) && true)))))) =
 false →
 R (Ending.returned (Value.bool false)) w44)) ∧
 ((x31 == 0) = false → R (Ending.returned (Value.bool false)) w44)) ∧
 ((x45 == 0) = false → R (Ending.returned (Value.bool false)) w44))
theorem f3_eq (c_0 : Int) (c_1 : Int) (c_2 : Int) (c_3 : Int) (c_4 : Int) (c_5 : Int) (c_6 : Int) (c_7 : Int) (c_8 : Int) (w : World) (R : Ending → World → Prop) : (fnF Go.Proofs.Tryd.prog h3 Go.Proofs.Tryd.f3 [Value.agg
 #[Value.int IntKind.i64 c_0, Value.int IntKind.i64 c_1, Value.int IntKind.i64 c_2, Value.int IntKind.i64 c_3, Value.int IntKind.i64 c_4, Value.int IntKind.i64 c_5, Value.int IntKind.i64 c_6, Value.int IntKind.i64 c_7,
 Value.int IntKind.i64 c_8]] w R).den = f3_vc c_0 c_1 c_2 c_3 c_4 c_5 c_6 c_7 c_8 w R := by kernel_rfl
theorem f3_calls (c_0 : Int) (c_1 : Int) (c_2 : Int) (c_3 : Int) (c_4 : Int) (c_5 : Int) (c_6 : Int) (c_7 : Int) (c_8 : Int) (w : World) (R : Ending → World → Prop) (h : f3_vc c_0 c_1 c_2 c_3 c_4 c_5 c_6 c_7 c_8 w R) : Calls Go.Proofs.Tryd.prog 3 (List.toArray [Value.agg
 #[Value.int IntKind.i64 c_0, Value.int IntKind.i64 c_1, Value.int IntKind.i64 c_2, Value.int IntKind.i64 c_3, Value.int IntKind.i64 c_4, Value.int IntKind.i64 c_5, Value.int IntKind.i64 c_6, Value.int IntKind.i64 c_7,
 Value.int IntKind.i64 c_8]]) w R :=
 fn_sound (H := h3) (fn := Go.Proofs.Tryd.f3) (by kernel_rfl) (by kernel_rfl) (by kernel_rfl) ((f3_eq c_0 c_1 c_2 c_3 c_4 c_5 c_6 c_7 c_8 w R).mpr h)


/-! manciple/manciplelaw13.ConfTexts -/
def h4 : Hints := ⟨[2, 5, 7], [], [11, 41, 28, 34, 36, 43, 47, 53, 56, 62], [(5, [0, 2, 1, 3, 4, 5, 6, 7, 8, 9, 10, 11, 12, 13, 14, 15, 16, 17, 18])], [], [], [(7, ⟨[], []⟩), (6, ⟨[(41, .bool)], []⟩)], [], []⟩
def f4_vc (c_0 : Int) (c_1 : Int) (c_2 : Int) (c_3 : Int) (c_4 : Int) (c_5 : Int) (c_6 : Int) (c_7 : Int) (c_8 : Int) (s : ByteArray) (w : World) (R : Ending → World → Prop) : Prop :=
 ∀ (n1 : Nat),
 w.heap.size ≤ n1 →
 (decide ((↑s.size : Int) > 300) = true → ∀ (w2 : World), Bel w w2 → Under [n1] w2 → R (Ending.returned (Value.bool true)) w2) ∧
 (decide ((↑s.size : Int) > 300) = false →
 ∀ (w3 : World),
 Bel w w3 →
 Under [n1] w3 →
 Calls Proofs.Tryd.prog 11
 #[Value.agg
 #[Value.int IntKind.i64 c_0, Value.int IntKind.i64 c_1, Value.int IntKind.i64 c_2, Value.int IntKind.i64 c_3, Value.int IntKind.i64 c_4, Value.int IntKind.i64 c_5, Value.int IntKind.i64 c_6, Value.int IntKind.i64 c_7,
 Value.int IntKind.i64 c_8]]
 w3 fun (e4 : Ending) (w5 : World) =>
 ∃ (s6 : ByteArray),
 e4 = Ending.returned (Value.string s6) ∧
 Keeps [n1] w3 w5 ∧
 Calls Proofs.Tryd.prog 10 #[Value.string s6] w5 fun (e7 : Ending) (w8 : World) =>
 ∃ (x9 : Int),
 ∃ (x10 : Int),
 ∃ (x11 : Int),
 ∃ (x12 : Int),
 ∃ (x13 : Int),
 ∃ (x14 : Int),
 ∃ (x15 : Int),
 ∃ (x16 : Int),
 ∃ (x17 : Int),
 ∃ (b18 : Bool),
 e7 =
 Ending.returned
 (Value.tuple
 #[Value.agg
 #[Value.int IntKind.i64 x9, Value.int IntKind.i64 x10, Value.int IntKind.i64 x11, Value.int IntKind.i64 x12, Value.int IntKind.i64 x13, Value.int IntKind.i64 x14,
 Value.int IntKind.i64 x15, Value.int IntKind.i64 x16, Value.int IntKind.i64 x17],
 Value.bool b18]) ∧
 Keeps [n1] w5 w8 ∧
 ∀ (n19 : Nat),
 w8.heap.size ≤ n19 →
 ∀ (w20 : World),
 Evo [n19] w8 w20 →
 Under [n1, n19] w20 →
 Calls Proofs.Tryd.prog 10 #[Value.string s] w20 fun (e21 : Ending) (w22 : World) =>
 ∃ (x23 : Int),
 ∃ (x24 : Int),
 ∃ (x25 : Int),
 ∃ (x26 : Int),
 ∃ (x27 : Int),
 ∃ (x28 : Int),
 ∃ (x29 : Int),
 ∃ (x30 : Int),
 ∃ (x31 : Int),
 ∃ (b32 : Bool),
 e21 =
 Ending.returned
 (Value.tuple
 #[Value.agg
 #[Value.int IntKind.i64 x23, Value.int IntKind.i64 x24, Value.int IntKind.i64 x25, Value.int IntKind.i64 x26, Value.int IntKind.i64 x27,
 Value.int IntKind.i64 x28, Value.int IntKind.i64 x29, Value.int IntKind.i64 x30, Value.int IntKind.i64 x31],
 Value.bool b32]) ∧
 Keeps [n1, n19] w20 w22 ∧
 ∀ (n33 : Nat),
 w22.heap.size ≤ n33 →
 ∃ (J34 : Unit → World → Prop),
 (∃ (J35 : Bool × Unit → World → Prop),
 (∀ (w36 : World),
 Evo [n33] w22 w36 →
 Under [n1, n19, n33] w36 →
 Calls Proofs.Tryd.prog 11
 #[Value.agg
 #[Value.int IntKind.i64 c_0, Value.int IntKind.i64 c_1, Value.int IntKind.i64 c_2, Value.int IntKind.i64 c_3,
 Value.int IntKind.i64 c_4, Value.int IntKind.i64 c_5, Value.int IntKind.i64 c_6, Value.int IntKind.i64 c_7,
 Value.int IntKind.i64 c_8]]
 w36 fun (e37 : Ending) (w38 : World) =>
 ∃ (s39 : ByteArray),
 e37 = Ending.returned (Value.string s39) ∧
 Keeps [n1, n19, n33] w36 w38 ∧
 Calls Proofs.Tryd.prog 12
 #[Value.agg
 #[Value.int IntKind.i64 c_0, Value.int IntKind.i64 c_1, Value.int IntKind.i64 c_2, Value.int IntKind.i64 c_3,
 Value.int IntKind.i64 c_4, Value.int IntKind.i64 c_5, Value.int IntKind.i64 c_6, Value.int IntKind.i64 c_7,
 Value.int IntKind.i64 c_8]]
 w38 fun (e40 : Ending) (w41 : World) =>
 ∃ (s42 : ByteArray),
 e40 = Ending.returned (Value.string s42) ∧
 Keeps [n1, n19, n33] w38 w41 ∧
 ((!s39.toList == s42.toList) = true → J35 (true, ()) w41) ∧
 ((!s39.toList == s42.toList) = false →
 Calls Proofs.Tryd.prog 7
 #[Value.agg
 #[Value.int IntKind.i64 c_0, Value.int IntKind.i64 c_1, Value.int IntKind.i64 c_2, Value.int IntKind.i64 c_3,
 Value.int IntKind.i64 c_4, Value.int IntKind.i64 c_5, Value.int IntKind.i64 c_6, Value.int IntKind.i64 c_7,
 Value.int IntKind.i64 c_8]]
 w41 fun (e43 : Ending) (w44 : World) =>
 ∃ (b45 : Bool),
 e43 = Ending.returned (Value.bool b45) ∧
 Keeps [n1, n19, n33] w41 w44 ∧
 ((!b18 == b45) = true → J35 (true, ()) w44) ∧
 ((!b18 == b45) = false →
 (b18 = true →
 J35
 (!(x9 == c_0 &&
 (x10 == c_1 &&
 (x11 == c_2 &&
 (x12 == c_3 &&
 (x13 == c_4 &&
 (x14 == c_5 && (x15 == c_6 && (x16 == c_7 && (x17 == c_8 && true))) && true)))))),
 ())
 w44) ∧
 (b18 = false → J35 (false, ()) w44)))) ∧
 ∀ (b46 : Bool) (w47 : World), J35 (b46, ()) w47 → (b46 = true → R (Ending.returned (Value.bool false)) w47) ∧ (b46 = false → J34 () w47)) ∧
 ∀ (w48 : World),
 J34 () w48 →
 (b32 = true →
 Calls Proofs.Tryd.prog 7
 #[Value.agg
 #[Value.int IntKind.i64 x23, Value.int IntKind.i64 x24, Value.int IntKind.i64 x25, Value.int IntKind.i64 x26,
 Value.int IntKind.i64 x27, Value.int IntKind.i64 x28, Value.int IntKind.i64 x29, Value.int IntKind.i64 x30,
 Value.int IntKind.i64 x31]]
 w48 fun (e49 : Ending) (w50 : World) =>
 ∃ (b51 : Bool),
 e49 = Ending.returned (Value.bool b51) ∧
 Keeps [n1, n19, n33] w48 w50 ∧
 (b51 = true →
 Calls Proofs.Tryd.prog 12
 #[Value.agg
 #[Value.int IntKind.i64 x23, Value.int IntKind.i64 x24, Value.int IntKind.i64 x25, Value.int IntKind.i64 x26,
 Value.int IntKind.i64 x27, Value.int IntKind.i64 x28, Value.int IntKind.i64 x29, Value.int IntKind.i64 x30,
 Value.int IntKind.i64 x31]]
 w50 fun (e52 : Ending) (w53 : World) =>
 ∃ (s54 : ByteArray),
 e52 = Ending.returned (Value.string s54) ∧
 Keeps [n1, n19, n33] w50 w53 ∧
 ((s54.toList == s.toList) = true →
 Calls Proofs.Tryd.prog 9 #[] w53 fun (e55 : Ending) (w56 : World) =>
 ∃ (b57 : Bool),
 e55 = Ending.returned (Value.bool b57) ∧
 Keeps [n1, n19, n33] w53 w56 ∧ R (Ending.returned (Value.bool b57)) w56) ∧
 ((s54.toList == s.toList) = false →
 ((!b32) = true →
 ((x23 == 0 &&
 (x24 == 0 &&
 (x25 == 0 &&
 (x26 == 0 &&
 (x27 == 0 && (x28 == 0 && (x29 == 0 && (x30 == 0 && (x31 == 0 && true))) && true)))))) =
 true →
 Calls Proofs.Tryd.prog 9 #[] w53 fun (e58 : Ending) (w59 : World) =>
 ∃ (b60 : Bool),
 e58 = Ending.returned (Value.bool b60) ∧
 Keeps [n1, n19, n33] w53 w59 ∧ R (Ending.returned (Value.bool b60)) w59) ∧
 ((x23 == 0 &&
 (x24 == 0 &&
 (x25 == 0 &&
 (x26 == 0 &&
 (x27 == 0 && (x28 == 0 && (x29 == 0 && (x30 == 0 && (x31 == 0 && true))) && true)))))) =
 false →
 R (Ending.returned (Value.bool false)) w53)) ∧
 ((!b32) = false → R (Ending.returned (Value.bool false)) w53))) ∧
 (b51 = false →
 ((!b32) = true →
 ((x23 == 0 &&
 (x24 == 0 &&
 (x25 == 0 && (x26 == 0 && (x27 == 0 && (x28 == 0 && (x29 == 0 && (x30 == 0 && (x31 == 0 && true))) && true)))))) =
 true →
 Calls Proofs.Tryd.prog 9 #[] w50 fun (e61 : Ending) (w62 : World) =>
 ∃ (b63 : Bool),
 e61 = Ending.returned (Value.bool b63) ∧ Keeps [n1, n19, n33] w50 w62 ∧ R (Ending.returned (Value.bool b63)) w62) ∧
 ((x23 == 0 &&
 (x24 == 0 &&
 (x25 == 0 && (x26 == 0 && (x27 == 0 && (x28 == 0 && (x29 == 0 && (x30 == 0 && (x31 == 0 && true))) && true)))))) =
 false →
 R (Ending.returned (Value.bool false)) w50)) ∧
 ((!b32) = false → R (Ending.returned (Value.bool false)) w50))) ∧
 (b32 = false →
 ((!b32) = true →
 ((x23 == 0 &&
 (x24 == 0 && (x25 == 0 && (x26 == 0 && (x27 == 0 && (x28 == 0 && (x29 == 0 && (x30 == 0 && (x31 == 0 && true))) && true)))))) =
 true →
 Calls Proofs.Tryd.prog 9 #[] w48 fun (e64 : Ending) (w65 : World) =>
 ∃ (b66 : Bool),
 e64 = Ending.returned (Value.bool b66) ∧ Keeps [n1, n19, n33] w48 w65 ∧ R (Ending.returned (Value.bool b66)) w65) ∧
 ((x23 == 0 &&
 (x24 == 0 && (x25 == 0 && (x26 == 0 && (x27 == 0 && (x28 == 0 && (x29 == 0 && (x30 == 0 && (x31 == 0 && true))) && true)))))) =
 false →
 R (Ending.returned (Value.bool false)) w48)) ∧
 ((!b32) = false → R (Ending.returned (Value.bool false)) w48)))
theorem f4_eq (c_0 : Int) (c_1 : Int) (c_2 : Int) (c_3 : Int) (c_4 : Int) (c_5 : Int) (c_6 : Int) (c_7 : Int) (c_8 : Int) (s : ByteArray) (w : World) (R : Ending → World → Prop) : (fnF Go.Proofs.Tryd.prog h4 Go.Proofs.Tryd.f4 [Value.agg
 #[Value.int IntKind.i64 c_0, Value.int IntKind.i64 c_1, Value.int IntKind.i64 c_2, Value.int IntKind.i64 c_3, Value.int IntKind.i64 c_4, Value.int IntKind.i64 c_5, Value.int IntKind.i64 c_6, Value.int IntKind.i64 c_7,
 Value.int IntKind.i64 c_8],
 Value.string s] w R).den = f4_vc c_0 c_1 c_2 c_3 c_4 c_5 c_6 c_7 c_8 s w R := by kernel_rfl
theorem f4_calls (c_0 : Int) (c_1 : Int) (c_2 : Int) (c_3 : Int) (c_4 : Int) (c_5 : Int) (c_6 : Int) (c_7 : Int) (c_8 : Int) (s : ByteArray) (w : World) (R : Ending → World → Prop) (h : f4_vc c_0 c_1 c_2 c_3 c_4 c_5 c_6 c_7 c_8 s w R) : Calls Go.Proofs.Tryd.prog 4 (List.toArray [Value.agg
 #[Value.int IntKind.i64 c_0, Value.int IntKind.i64 c_1, Value.int IntKind.i64 c_2, Value.int IntKind.i64 c_3, Value.int IntKind.i64 c_4, Value.int IntKind.i64 c_5, Value.int IntKind.i64 c_6, Value.int IntKind.i64 c_7,
 Value.int IntKind.i64 c_8],
 Value.string s]) w R :=
 fn_sound (H := h4) (fn := Go.Proofs.Tryd.f4) (by kernel_rfl) (by kernel_rfl) (by kernel_rfl) ((f4_eq c_0 c_1 c_2 c_3 c_4 c_5 c_6 c_7 c_8 s w R).mpr h)


/-! manciple/manciplelaw13.ConfApart -/
def h5 : Hints := ⟨[2, 3], [], [12, 8, 23, 28], [(3, [0, 2, 5, 6, 7, 1, 3, 4, 8, 9, 10, 11, 12, 13, 14, 15, 16, 17])], [], [], [], [], []⟩
def f5_vc (a_0 : Int) (a_1 : Int) (a_2 : Int) (a_3 : Int) (a_4 : Int) (a_5 : Int) (a_6 : Int) (a_7 : Int) (a_8 : Int) (b_0 : Int) (b_1 : Int) (b_2 : Int) (b_3 : Int) (b_4 : Int) (b_5 : Int) (b_6 : Int) (b_7 : Int) (b_8 : Int) (w : World) (R : Ending → World → Prop) : Prop :=
 ∀ (n1 : Nat),
 w.heap.size ≤ n1 →
 ∀ (n2 : Nat),
 w.heap.size ≤ n2 →
 ∀ (w3 : World),
 Bel w w3 →
 Under [n1, n2] w3 →
 Calls Proofs.Tryd.prog 8
 #[Value.agg
 #[Value.int IntKind.i64 a_0, Value.int IntKind.i64 a_1, Value.int IntKind.i64 a_2, Value.int IntKind.i64 a_3, Value.int IntKind.i64 a_4, Value.int IntKind.i64 a_5, Value.int IntKind.i64 a_6, Value.int IntKind.i64 a_7,
 Value.int IntKind.i64 a_8]]
 w3 fun (e4 : Ending) (w5 : World) =>
 ∃ (x6 : Int),
 e4 = Ending.returned (Value.int IntKind.i64 x6) ∧
 Keeps [n1, n2] w3 w5 ∧
 ((x6 != 0) = true → Calls Proofs.Tryd.prog 9 #[] w5 fun (e7 : Ending) (w8 : World) => ∃ (b9 : Bool), e7 = Ending.returned (Value.bool b9) ∧ Keeps [n1, n2] w5 w8 ∧ R (Ending.returned (Value.bool b9)) w8) ∧
 ((x6 != 0) = false →
 Calls Proofs.Tryd.prog 8
 #[Value.agg
 #[Value.int IntKind.i64 b_0, Value.int IntKind.i64 b_1, Value.int IntKind.i64 b_2, Value.int IntKind.i64 b_3, Value.int IntKind.i64 b_4, Value.int IntKind.i64 b_5, Value.int IntKind.i64 b_6,
 Value.int IntKind.i64 b_7, Value.int IntKind.i64 b_8]]
 w5 fun (e10 : Ending) (w11 : World) =>
 ∃ (x12 : Int),
 e10 = Ending.returned (Value.int IntKind.i64 x12) ∧
 Keeps [n1, n2] w5 w11 ∧
 ((x12 != 0) = true →
 Calls Proofs.Tryd.prog 9 #[] w11 fun (e13 : Ending) (w14 : World) => ∃ (b15 : Bool), e13 = Ending.returned (Value.bool b15) ∧ Keeps [n1, n2] w11 w14 ∧ R (Ending.returned (Value.bool b15)) w14) ∧
 ((x12 != 0) = false →
 ∀ (w16 : World),
 Bel w11 w16 →
 Under [n1, n2] w16 →
 Calls Proofs.Tryd.prog 11
 #[Value.agg
 #[Value.int IntKind.i64 a_0, Value.int IntKind.i64 a_1, Value.int IntKind.i64 a_2, Value.int IntKind.i64 a_3, Value.int IntKind.i64 a_4, Value.int IntKind.i64 a_5, Value.int IntKind.i64 a_6,
 Value.int IntKind.i64 a_7, Value.int IntKind.i64 a_8]]
 w16 fun (e17 : Ending) (w18 : World) =>
 ∃ (s19 : ByteArray),
 e17 = Ending.returned (Value.string s19) ∧
 Keeps [n1, n2] w16 w18 ∧
 Calls Proofs.Tryd.prog 11
 #[Value.agg
 #[Value.int IntKind.i64 b_0, Value.int IntKind.i64 b_1, Value.int IntKind.i64 b_2, Value.int IntKind.i64 b_3, Value.int IntKind.i64 b_4, Value.int IntKind.i64 b_5,
 Value.int IntKind.i64 b_6, Value.int IntKind.i64 b_7, Value.int IntKind.i64 b_8]]
 w18 fun (e20 : Ending) (w21 : World) =>
 ∃ (s22 : ByteArray),
 e20 = Ending.returned (Value.string s22) ∧
 Keeps [n1, n2] w18 w21 ∧
 (((s19.toList == s22.toList) ==
 (a_0 == b_0 && (a_1 == b_1 && (a_2 == b_2 && (a_3 == b_3 && (a_4 == b_4 && (a_5 == b_5 && (a_6 == b_6 && (a_7 == b_7 && (a_8 == b_8 && true))) && true))))))) =
 true →
 Calls Proofs.Tryd.prog 11
 #[Value.agg
 #[Value.int IntKind.i64 a_0, Value.int IntKind.i64 a_1, Value.int IntKind.i64 a_2, Value.int IntKind.i64 a_3, Value.int IntKind.i64 a_4, Value.int IntKind.i64 a_5,
 Value.int IntKind.i64 a_6, Value.int IntKind.i64 a_7, Value.int IntKind.i64 a_8]]
 w21 fun (e23 : Ending) (w24 : World) =>
 ∃ (s25 : ByteArray),
 e23 = Ending.returned (Value.string s25) ∧
 Keeps [n1, n2] w21 w24 ∧
 ((!s25.toList == (ByteArray.mk #[]).toList) = true →
 Calls Proofs.Tryd.prog 9 #[] w24 fun (e26 : Ending) (w27 : World) =>
 ∃ (b28 : Bool), e26 = Ending.returned (Value.bool b28) ∧ Keeps [n1, n2] w24 w27 ∧ R (Ending.returned (Value.bool b28)) w27) ∧
 ((!s25.toList == (ByteArray.mk #[]).toList) = false → R (Ending.returned (Value.bool false)) w24)) ∧
 (((s19.toList == s22.toList) ==
 (a_0 == b_0 && (a_1 == b_1 && (a_2 == b_2 && (a_3 == b_3 && (a_4 == b_4 && (a_5 == b_5 && (a_6 == b_6 && (a_7 == b_7 && (a_8 == b_8 && true))) && true))))))) =
 false →
 R (Ending.returned (Value.bool false)) w21)))
theorem f5_eq (a_0 : Int) (a_1 : Int) (a_2 : Int) (a_3 : Int) (a_4 : Int) (a_5 : Int) (a_6 : Int) (a_7 : Int) (a_8 : Int) (b_0 : Int) (b_1 : Int) (b_2 : Int) (b_3 : Int) (b_4 : Int) (b_5 : Int) (b_6 : Int) (b_7 : Int) (b_8 : Int) (w : World) (R : Ending → World → Prop) : (fnF Go.Proofs.Tryd.prog h5 Go.Proofs.Tryd.f5 [Value.agg
 #[Value.int IntKind.i64 a_0, Value.int IntKind.i64 a_1, Value.int IntKind.i64 a_2, Value.int IntKind.i64 a_3, Value.int IntKind.i64 a_4, Value.int IntKind.i64 a_5, Value.int IntKind.i64 a_6, Value.int IntKind.i64 a_7,
 Value.int IntKind.i64 a_8],
 Value.agg
 #[Value.int IntKind.i64 b_0, Value.int IntKind.i64 b_1, Value.int IntKind.i64 b_2, Value.int IntKind.i64 b_3, Value.int IntKind.i64 b_4, Value.int IntKind.i64 b_5, Value.int IntKind.i64 b_6, Value.int IntKind.i64 b_7,
 Value.int IntKind.i64 b_8]] w R).den = f5_vc a_0 a_1 a_2 a_3 a_4 a_5 a_6 a_7 a_8 b_0 b_1 b_2 b_3 b_4 b_5 b_6 b_7 b_8 w R := by kernel_rfl
theorem f5_calls (a_0 : Int) (a_1 : Int) (a_2 : Int) (a_3 : Int) (a_4 : Int) (a_5 : Int) (a_6 : Int) (a_7 : Int) (a_8 : Int) (b_0 : Int) (b_1 : Int) (b_2 : Int) (b_3 : Int) (b_4 : Int) (b_5 : Int) (b_6 : Int) (b_7 : Int) (b_8 : Int) (w : World) (R : Ending → World → Prop) (h : f5_vc a_0 a_1 a_2 a_3 a_4 a_5 a_6 a_7 a_8 b_0 b_1 b_2 b_3 b_4 b_5 b_6 b_7 b_8 w R) : Calls Go.Proofs.Tryd.prog 5 (List.toArray [Value.agg
 #[Value.int IntKind.i64 a_0, Value.int IntKind.i64 a_1, Value.int IntKind.i64 a_2, Value.int IntKind.i64 a_3, Value.int IntKind.i64 a_4, Value.int IntKind.i64 a_5, Value.int IntKind.i64 a_6, Value.int IntKind.i64 a_7,
 Value.int IntKind.i64 a_8],
 Value.agg
 #[Value.int IntKind.i64 b_0, Value.int IntKind.i64 b_1, Value.int IntKind.i64 b_2, Value.int IntKind.i64 b_3, Value.int IntKind.i64 b_4, Value.int IntKind.i64 b_5, Value.int IntKind.i64 b_6, Value.int IntKind.i64 b_7,
 Value.int IntKind.i64 b_8]]) w R :=
 fn_sound (H := h5) (fn := Go.Proofs.Tryd.f5) (by kernel_rfl) (by kernel_rfl) (by kernel_rfl) ((f5_eq a_0 a_1 a_2 a_3 a_4 a_5 a_6 a_7 a_8 b_0 b_1 b_2 b_3 b_4 b_5 b_6 b_7 b_8 w R).mpr h)

end Vck

/- Configurations: what Text writes, Parse reads; works; the laws. -/
set_option maxRecDepth 20000
set_option maxHeartbeats 1000000
namespace Go.Vc.K
open Go Go.Vc Go.RowKit Go.Proofs Vck

variable {w W W' W2 : World} {M : Nat → Prop} {gs gs' ds : List Nat}

/-! ### One byte looked for -/
theorem idx1 (c : UInt8) : ∀ l : List UInt8, c ∉ l → Lib.index l [c] = -1
  | [], _ => rfl
  | b :: l, h => by
    have ih := idx1 c l fun hm => h (List.mem_cons_of_mem _ hm)
    have hb : b ≠ c := fun e => h (by rw [e]; simp)
    unfold Lib.index
    rw [ih]
    simp [Ne.symm hb]
theorem idx2 (c : UInt8) : ∀ a b : List UInt8, c ∉ a → Lib.index (a ++ c :: b) [c] = (a.length : Int)
  | [], b, _ => by
    show Lib.index (c :: b) [c] = 0
    unfold Lib.index
    simp
  | x :: a, b, h => by
    have ih := idx2 c a b fun hm => h (List.mem_cons_of_mem _ hm)
    have hb : x ≠ c := fun e => h (by rw [e]; simp)
    show Lib.index (x :: (a ++ c :: b)) [c] = _
    unfold Lib.index
    rw [ih]
    simp only [List.isPrefixOf, Bool.and_true, List.length_cons]
    rw [if_neg (by simpa using Ne.symm hb), if_neg (by simp)]
    omega
theorem join_cons2 (c : UInt8) (x y : List UInt8) (r : List (List UInt8)) : Lib.join (x :: y :: r) [c] = x ++ c :: Lib.join (y :: r) [c] := by
  rw [Lib.join_cons, Lib.join_cons]
  simp [Lib.joinTail]
theorem split_join (c : UInt8) : ∀ (x : List UInt8) (r : List (List UInt8)), (∀ w ∈ x :: r, c ∉ w) → Lib.count (Lib.join (x :: r) [c]) [c] = r.length ∧ Lib.splitK [c] 0 r.length (Lib.join (x :: r) [c]) = x :: r
  | x, [], h => by
    rw [Lib.join_one]
    exact ⟨Lib.count_miss (idx1 c x (h x (by simp))), rfl⟩
  | x, y :: r, h => by
    have ih := split_join c y r fun w hw => h w (List.mem_cons_of_mem _ hw)
    have hx := idx2 c x (Lib.join (y :: r) [c]) (h x (by simp))
    rw [join_cons2]
    have hd : (x ++ c :: Lib.join (y :: r) [c]).drop (x.length + [c].length) = Lib.join (y :: r) [c] := by
      rw [← List.drop_drop, List.drop_left]
      rfl
    refine ⟨?_, ?_⟩
    · rw [Lib.count_hit (by simp) hx, hd, ih.1]
      simp only [List.length_cons]
      omega
    · rw [List.length_cons, Lib.splitK, if_neg (by rw [hx]; simp), hx]
      have e : ((x.length : Int)).toNat = x.length := by omega
      rw [e, hd, ih.2]
      simp
theorem data_inj : ∀ {a b : List ByteArray}, a.map (fun b => b.data.toList) = b.map (fun b => b.data.toList) → a = b
  | [], [], _ => rfl
  | [], _ :: _, h => by simp at h
  | _ :: _, [], h => by simp at h
  | x :: a, y :: b, h => by
    rw [List.map_cons, List.map_cons, List.cons.injEq] at h
    rw [data_inj h.2]
    congr 1
    obtain ⟨x⟩ := x
    obtain ⟨y⟩ := y
    congr 1
    exact Array.ext' h.1
theorem dec_bytes {n : Int} (h : 0 ≤ n) : bytesOf (dS n) = decL n 1 := bytesOf_strOfNums fun x hx => by
  have := decL_byte n 1 h x hx
  omega
theorem no_blank {n : Int} (h : 0 ≤ n) : (32 : UInt8) ∉ (dS n).data.toList := fun hm => by
  have h1 : ((32 : UInt8).toNat : Int) ∈ bytesOf (dS n) := List.mem_map.2 ⟨32, hm, rfl⟩
  rw [dec_bytes h] at h1
  have h2 := decL_byte n 1 h _ h1
  have h3 : ((32 : UInt8).toNat : Int) = 32 := rfl
  omega
theorem words_join {x : Int} {r : List Int} (hall : ∀ n ∈ x :: r, 0 ≤ n) : wordsOf (jn (x :: r)) = (x :: r).map dS := by
  have h := split_join 32 (dS x).data.toList (r.map fun n => (dS n).data.toList) fun w hw => by
    rcases List.mem_cons.1 hw with rfl | hw
    · exact no_blank (hall x (by simp))
    · obtain ⟨p, hp, rfl⟩ := List.mem_map.1 hw
      exact no_blank (hall p (by simp [hp]))
  have hd := Lib.splitB_data (ByteArray.mk #[32]) 0 r.length (jn (x :: r))
  have hk : Lib.countB (jn (x :: r)) (ByteArray.mk #[32]) = r.length := by
    have := h.1
    rw [List.length_map] at this
    exact this
  unfold wordsOf
  rw [hk]
  have e2 : Lib.splitK [32] 0 r.length (Lib.join ((x :: r).map fun n => (dS n).data.toList) [32]) = (x :: r).map fun n => (dS n).data.toList := by
    have := h.2
    rw [List.length_map] at this
    exact this
  have e3 : (Lib.splitB (ByteArray.mk #[32]) 0 r.length (jn (x :: r))).map (fun b => b.data.toList) = ((x :: r).map dS).map fun b => b.data.toList := by
    rw [hd]
    show Lib.splitK [32] 0 r.length (Lib.join ((x :: r).map fun n => (dS n).data.toList) [32]) = _
    rw [e2, List.map_map]
    rfl
  exact data_inj e3
theorem num_back {n : Int} (h0 : 0 ≤ n) (h1 : n ≤ 9007199254740992) : numB (dS n) = n := by
  unfold numB
  rw [dec_bytes h0, num_dec n h0 h1]
  rfl
theorem nums_back : ∀ {l : List Int}, (∀ n ∈ l, 0 ≤ n ∧ n ≤ 9007199254740992) → (l.map dS).map numB = l
  | [], _ => rfl
  | x :: l, h => by
    rw [List.map_cons, List.map_cons, num_back (h x (by simp)).1 (h x (by simp)).2, nums_back fun n hn => h n (by simp [hn])]
theorem back_ok {x : Cf} (h : cR x) : parseC (ctext x) = (x, true) := by
  have hall := cR_all h
  have e : ctext x = jn x.l := if_pos h
  have hn : numsOf (ctext x) = x.l := by
    unfold numsOf
    rw [e, show x.l = x.a :: [x.b, x.c, x.d, x.e, x.f, x.g, x.h, x.i] from rfl, words_join fun n hn => (hall n hn).1]
    exact nums_back hall
  unfold parseC
  rw [hn, show toC x.l = some x from rfl]
  simp only
  exact if_pos ⟨h, trivial⟩
theorem parse_none : parseC (ByteArray.mk #[]) = (zC, false) := parse_bad fun c hc => by
  have hx : wordsOf (ByteArray.mk #[]) = [ByteArray.mk #[]] := by
    unfold wordsOf
    have : Lib.countB (ByteArray.mk #[]) (ByteArray.mk #[32]) = 0 := by decide
    rw [this]
    rfl
  unfold numsOf at hc
  rw [hx] at hc
  cases hc
theorem text_wrong {x : Cf} (h : ¬ cR x) : ctext x = ByteArray.mk #[] := if_neg h
theorem parse_text (x : Cf) : parseC (ctext x) = if cR x then (x, true) else (zC, false) := by
  split
  · rename_i h
    exact back_ok h
  · rename_i h
    rw [text_wrong h, parse_none]
theorem parse_right {s : ByteArray} (h : (parseC s).2 = true) : cR (parseC s).1 ∧ ctext (parseC s).1 = s := by
  unfold parseC at h ⊢
  split at h
  · rename_i c hc
    split at h
    · rename_i hh
      rw [if_pos hh]
      exact hh
    · cases h
  · cases h
theorem parse_zero {s : ByteArray} (h : (parseC s).2 = false) : (parseC s).1 = zC := by
  unfold parseC at h ⊢
  split at h
  · rename_i c hc
    split at h
    · cases h
    · rename_i hh
      rw [if_neg hh]
  · rfl
theorem text_small (x : Cf) : (ctext x).size ≤ 180 := by
  by_cases h : cR x
  · rw [show ctext x = jn x.l from if_pos h]
    exact jn_size (cR_all h)
  · rw [text_wrong h]
    show 0 ≤ 180
    omega
theorem text_inj {x y : Cf} (hx : cR x) (h : ctext x = ctext y) : x = y := by
  have h1 := back_ok hx
  rw [h, parse_text] at h1
  split at h1
  · exact ((Prod.mk.inj h1).1).symm
  · have := (Prod.mk.inj h1).2
    cases this
theorem text_ne {x : Cf} (hx : cR x) : ctext x ≠ ByteArray.mk #[] := fun e => by
  have h1 := back_ok hx
  rw [e, parse_none] at h1
  have := (Prod.mk.inj h1).2
  cases this
theorem cf_beq (x y : Cf) : (x.a == y.a && (x.b == y.b && (x.c == y.c && (x.d == y.d && (x.e == y.e && ((x.f == y.f && (x.g == y.g && (x.h == y.h && (x.i == y.i && true)))) && true)))))) = decide (x = y) := by
  obtain ⟨a, b, c, d, e, f, g, h, i⟩ := x
  obtain ⟨a', b', c', d', e', f', g', h', i'⟩ := y
  rw [Bool.eq_iff_iff]
  simp

/-! ### works -/
abbrev smallC : Cf := ⟨1000, 1000000, 1000, 0, 64, 0, 0, 0, 0⟩
theorem small_text : ctext smallC = ByteArray.mk #[49, 48, 48, 48, 32, 49, 48, 48, 48, 48, 48, 48, 32, 49, 48, 48, 48, 32, 48, 32, 54, 52, 32, 48, 32, 48, 32, 48, 32, 48] := by
  have d0 : dS 0 = ByteArray.mk #[48] := by unfold dS; simp [decL, strOfNums]
  have d1 : dS 1000 = ByteArray.mk #[49, 48, 48, 48] := by unfold dS; simp [decL, strOfNums]
  have d2 : dS 1000000 = ByteArray.mk #[49, 48, 48, 48, 48, 48, 48] := by unfold dS; simp [decL, strOfNums]
  have d3 : dS 64 = ByteArray.mk #[54, 52] := by unfold dS; simp [decL, strOfNums]
  rw [show ctext smallC = jn smallC.l from if_pos (by decide)]
  unfold jn
  simp only [Cf.l, List.map_cons, List.map_nil, d0, d1, d2, d3]
  rfl
theorem small_parse : parseC (ByteArray.mk #[49, 48, 48, 48, 32, 49, 48, 48, 48, 48, 48, 48, 32, 49, 48, 48, 48, 32, 48, 32, 54, 52, 32, 48, 32, 48, 32, 48, 32, 48]) = (smallC, true) := by
  rw [← small_text]
  exact back_ok (by decide)
theorem c9 (w : World) (hM : MaxL w) : RetW Tryd.prog 9 #[] w (.bool true) := by
  intro R h
  refine f9_calls w R ?_
  unfold f9_vc
  have hA : AtB w [] w := ⟨Below.refl _ _, fun _ h => by cases h⟩
  have hc := c10 (ByteArray.mk #[49, 48, 48, 48, 32, 49, 48, 48, 48, 48, 48, 48, 32, 49, 48, 48, 48, 32, 48, 32, 54, 52, 32, 48, 32, 48, 32, 48, 32, 48]) w (by decide) hM
  rw [small_parse] at hc
  refine at_callW hA hc fun w2 hA hk hb => ⟨_, _, _, _, _, _, _, _, _, _, rfl, ?_⟩
  have hsz := hA.size
  intro n13 hn13 w14 hev hu
  have hA := hA.evo (by intro d hd; simp at hd; omega) hev hu
  have hc6 := c6 smallC w14
  rw [show startV smallC = .tuple #[bkV smallC, .int .i64 0] from if_pos (by decide)] at hc6
  refine at_callW hA (retW hc6) fun w16 hA hk hb => ⟨_, _, _, _, _, _, _, _, _, _, _, _, _, _, _, _, _, _, _, _, _, _, _, _, _, _, _, rfl, hk, ?_⟩
  have hsz := hA.size
  intro n44 hn44
  refine brB (fun _ w45 hev hu => ?_) (fun e => by cases e)
  have hA := hA.evo (by intro d hd; simp at hd; omega) hev hu
  refine at_callW hA (retW (c15 w45)) fun w47 hA hk hb => ⟨_, _, _, _, _, _, _, _, _, rfl, hk, brB (fun _ => ?_) (fun e => by simp at e)⟩
  refine brB (fun _ => brB (fun _ => ?_) (fun e => by simp at e)) (fun e => by simp at e)
  refine at_callW hA (retW (c8 zC w47)) fun w58 hA hk hb => ⟨_, rfl, hk, ?_⟩
  rw [if_neg (by decide)]
  exact h _ hA.below
theorem law3 (x : Cf) (w : World) (hM : MaxL w) : RetW Tryd.prog 3 #[x.v] w (.bool true) := by
  intro R h
  refine f3_calls _ _ _ _ _ _ _ _ _ w R ?_
  unfold f3_vc
  have hA : AtB w [] w := ⟨Below.refl _ _, fun _ h => by cases h⟩
  intro n1 hn1 w2 hb2 hu2
  have hA := hA.bel hb2 hu2
  by_cases hc : cR x
  · have hc6 := c6 x w2
    rw [show startV x = .tuple #[bkV x, .int .i64 0] from if_pos hc] at hc6
    refine at_callW hA (retW hc6) fun w4 hA hk hb => ⟨_, _, _, _, _, _, _, _, _, _, _, _, _, _, _, _, _, _, _, _, _, _, _, _, _, _, _, rfl, hk, ?_⟩
    have hsz := hA.size
    intro n32 hn32 w33 hev hu
    have hA := hA.evo (by intro d hd; simp at hd; omega) hev hu
    refine at_callW hA (retW (c7 x w33)) fun w35 hA hk hb => ⟨_, rfl, hk, brNB (fun hn => absurd hc (of_decide_eq_false hn)) (fun _ => ?_)⟩
    have hc8 := c8 x w35
    rw [if_pos hc] at hc8
    refine at_callW hA (retW hc8) fun w44 hA hk hb => ⟨_, rfl, hk, brB (fun _ => brB (fun _ => ?_) (fun e => by simp at e)) (fun e => by simp at e)⟩
    refine brB (fun _ => brB (fun _ => brB (fun _ => brB (fun _ => ?_) (fun e => absurd e (by decide))) (fun e => by simp at e)) (fun e => by simp at e)) (fun e => by simp at e)
    exact at_callW hA (c9 w44 (hM.low hA.below)) fun w47 hA hk hb => ⟨_, rfl, hk, h _ hA.below⟩
  · have hc6 := c6 x w2
    rw [show startV x = .tuple #[bkV zC, .int .i64 41] from if_neg hc] at hc6
    refine at_callW hA (retW hc6) fun w4 hA hk hb => ⟨_, _, _, _, _, _, _, _, _, _, _, _, _, _, _, _, _, _, _, _, _, _, _, _, _, _, _, rfl, hk, ?_⟩
    have hsz := hA.size
    intro n32 hn32 w33 hev hu
    have hA := hA.evo (by intro d hd; simp at hd; omega) hev hu
    refine at_callW hA (retW (c7 x w33)) fun w35 hA hk hb => ⟨_, rfl, hk, brNB (fun _ => ?_) (fun hn => absurd (of_decide_eq_true hn) hc)⟩
    have hc8 := c8 x w35
    rw [if_neg hc] at hc8
    refine at_callW hA (retW hc8) fun w38 hA hk hb => ⟨_, rfl, hk, brB (fun _ => brB (fun _ => brB (fun _ => ?_) (fun e => by simp at e)) (fun e => by simp at e)) (fun e => by simp at e)⟩
    exact at_callW hA (c9 w38 (hM.low hA.below)) fun w41 hA hk hb => ⟨_, rfl, hk, h _ hA.below⟩
theorem law5 (x y : Cf) (w : World) (hM : MaxL w) : RetW Tryd.prog 5 #[x.v, y.v] w (.bool true) := by
  intro R h
  refine f5_calls _ _ _ _ _ _ _ _ _ _ _ _ _ _ _ _ _ _ w R ?_
  unfold f5_vc
  have hA : AtB w [] w := ⟨Below.refl _ _, fun _ h => by cases h⟩
  intro n1 hn1 n2 hn2 w3 hb3 hu3
  have hA := hA.bel hb3 hu3
  have fin : ∀ {W}, AtB w [n1, n2] W → Calls Tryd.prog 9 #[] W fun e w' => ∃ b : Bool, e = .returned (.bool b) ∧ Keeps [n1, n2] W w' ∧ R (.returned (.bool b)) w' := fun hA => at_callW hA (c9 _ (hM.low hA.below)) fun w8 hA hk _ => ⟨_, rfl, hk, h _ hA.below⟩
  refine at_callW hA (retW (c8 x w3)) fun w5 hA hk hb => ⟨_, rfl, hk, brN (fun _ => fin hA) (fun hx => ?_)⟩
  have hx : cR x := Classical.byContradiction fun hn => by rw [if_neg hn] at hx; cases hx
  refine at_callW hA (retW (c8 y w5)) fun w11 hA hk hb => ⟨_, rfl, hk, brN (fun _ => fin hA) (fun hy => ?_)⟩
  have hy : cR y := Classical.byContradiction fun hn => by rw [if_neg hn] at hy; cases hy
  intro w16 hb16 hu16
  have hA := hA.bel hb16 hu16
  refine at_callW hA (c11 x w16) fun w18 hA hk hb => ⟨_, rfl, hk, ?_⟩
  refine at_callW hA (c11 y w18) fun w21 hA hk hb => ⟨_, rfl, hk, ?_⟩
  rw [toList_beq, cf_beq x y, show decide (ctext x = ctext y) = decide (x = y) from decide_eq_decide.2 ⟨text_inj hx, fun e => by rw [e]⟩, beq_self_eq_true]
  refine brB (fun _ => ?_) (fun e => by cases e)
  refine at_callW hA (c11 x w21) fun w24 hA hk hb => ⟨_, rfl, hk, ?_⟩
  rw [toList_beq]
  exact brNB (fun _ => fin hA) (fun e => absurd (of_decide_eq_true e) (text_ne hx))
theorem law4 (x : Cf) (s : ByteArray) (w : World) (hM : MaxL w) : RetW Tryd.prog 4 #[x.v, .string s] w (.bool true) := by
  intro R h
  refine f4_calls _ _ _ _ _ _ _ _ _ s w R ?_
  unfold f4_vc
  have hA : AtB w [] w := ⟨Below.refl _ _, fun _ h => by cases h⟩
  intro n1 hn1
  refine brD (fun _ w2 hb2 hu2 => h _ (hA.bel hb2 hu2).below) (fun hs w3 hb3 hu3 => ?_)
  have hA := hA.bel hb3 hu3
  have ht := text_small x
  have hs300 : s.size ≤ 300 := by omega
  refine at_callW hA (c11 x w3) fun w5 hA hk hb => ⟨_, rfl, hk, ?_⟩
  have hp := c10 (ctext x) w5 (by omega) (hM.low hA.below)
  refine at_callW hA hp fun w8 hA hk hb => ⟨_, _, _, _, _, _, _, _, _, _, rfl, hk, ?_⟩
  have hsz := hA.size
  intro n19 hn19 w20 hev hu
  have hA := hA.evo (by intro d hd; simp at hd; omega) hev hu
  refine at_callW hA (c10 s w20 (by omega) (hM.low hA.below)) fun w22 hA hk hb => ⟨_, _, _, _, _, _, _, _, _, _, rfl, hk, ?_⟩
  have hsz := hA.size
  intro n33 hn33
  refine ⟨fun _ W' => AtB w [n1, n19, n33] W', ⟨fun v W' => AtB w [n1, n19, n33] W' ∧ v.1 = false, fun w36 hev hu => ?_, ?_⟩, ?_⟩
  · have hA := hA.evo (by intro d hd; simp at hd; omega) hev hu
    refine at_callW hA (c11 x w36) fun w38 hA hk hb => ⟨_, rfl, hk, ?_⟩
    refine at_callW hA (retW (c12 x w38)) fun w41 hA hk hb => ⟨_, rfl, hk, ?_⟩
    rw [toList_beq]
    refine brNB (fun e => absurd rfl (of_decide_eq_false e)) (fun _ => ?_)
    refine at_callW hA (retW (c7 x w41)) fun w44 hA hk hb => ⟨_, rfl, hk, ?_⟩
    rw [parse_text]
    by_cases hc : cR x
    · rw [if_pos hc, decide_eq_true hc]
      refine brB (fun e => by simp at e) (fun _ => brB (fun _ => ⟨hA, ?_⟩) (fun e => by cases e))
      show (!(x.a == x.a && _)) = false
      rw [cf_beq x x, decide_eq_true rfl]
      rfl
    · rw [if_neg hc, decide_eq_false hc]
      exact brB (fun e => by simp at e) (fun _ => brB (fun e => by cases e) (fun _ => ⟨hA, rfl⟩))
  · rintro b46 w47 ⟨hA, hf⟩
    simp only at hf
    subst hf
    exact brB (fun e => by cases e) (fun _ => hA)
  · intro w48 hA
    have fin : ∀ {W}, AtB w [n1, n19, n33] W → Calls Tryd.prog 9 #[] W fun e w' => ∃ b : Bool, e = .returned (.bool b) ∧ Keeps [n1, n19, n33] W w' ∧ R (.returned (.bool b)) w' := fun hA => at_callW hA (c9 _ (hM.low hA.below)) fun w8 hA hk _ => ⟨_, rfl, hk, h _ hA.below⟩
    refine brB (fun hok => ?_) (fun hno => ?_)
    · obtain ⟨h1, h2⟩ := parse_right hok
      refine at_callW hA (retW (c7 (parseC s).1 w48)) fun w50 hA hk hb => ⟨_, rfl, hk, brB (fun _ => ?_) (fun e => absurd h1 (of_decide_eq_false e))⟩
      refine at_callW hA (retW (c12 (parseC s).1 w50)) fun w53 hA hk hb => ⟨_, rfl, hk, ?_⟩
      rw [toList_beq]
      exact brB (fun _ => fin hA) (fun e => absurd h2 (of_decide_eq_false e))
    · have hz := parse_zero hno
      refine brB (fun _ => ?_) (fun e => by rw [hno] at e; cases e)
      rw [cf_beq (parseC s).1 zC]
      exact brB (fun _ => fin hA) (fun e => absurd hz (of_decide_eq_false e))
end Go.Vc.K

/- Configurations: two listed variables, the library's number, the row's wrap; the arguments read. -/
set_option maxRecDepth 100000
namespace Go
variable {H : Type} {enc : TypeId × Value → H}
/-- As the kit's wrap for a row that lists variables, the world's shape kept besides. -/
theorem returnsInHanded_of_change_and_shaped {a : Assume} {C : Checked} {os : Os} {f : FuncId} {fn : Func} {s : ChangeSpec} {conds : List PathCond} {apart fresh handsOn again : Bool} {X : World → Array Value → Prop}
    (hX : ∀ (w w' : World) (args : Array Value), w.heap = w'.heap → X w args → X w' args)
    (own : ownKnob C.prog.godebug = none) (started : os.Started) (noInit : C.prog.inits.idxOf? f = none) (hfn : C.prog.funcs[f]? = some fn)
    (witness : ∃ (w : World) (tape : Tape) (i : Input), w.os = os ∧ (w.forCall tape i).Shaped C.prog ∧ i.vars = [] ∧ Input.okWide C.prog (w.forCall tape i) .any w.heap.size f i ∧
      ((s.pre enc C.prog fn conds apart (w.forCall tape i).memory i.args ∧ X (w.forCall tape i).memory i.args) ∧ sizedMet enc C.prog fn (OpenSpec.ofChange s) apart (w.forCall tape i).memory i.args) ∧ a.holds C.prog (lone (Frame.enter C.prog f i.args .normal) [] (w.forCall tape i)))
    (contract : ∀ (W : World) (base : Nat) (args : Array Value) (ds gs : List (DataW H)) (before : List MemPlace),
      (∀ (j : Nat) t v, fn.params[j]? = some t → args[j]? = some v → Value.okWide C.prog W .any base t v) →
      DataW.Whole enc C.prog fn.params.toList s.vars apart W args.toList ds gs before → X W args → W.ShapedOpen C.prog →
      Calls C.prog f args W fun e W' => ∃ v, e = .returned v ∧ s.post enc C.prog fn apart fresh handsOn again W args v W') :
    ReturnsInHanded a C os f .any (fun w args => (s.pre enc C.prog fn conds apart w args ∧ X w args) ∧ sizedMet enc C.prog fn (OpenSpec.ofChange s) apart w args) (s.post enc C.prog fn apart fresh handsOn again) := by
  refine returnsInHanded_of_calls own started noInit witness ?_
  intro w tape i _ hsh _ hok hpre _
  obtain ⟨_, _, _, fn', hfn', _, _, _, _, hval⟩ := hok
  have e : fn' = fn := Option.some.inj (hfn'.symm.trans hfn)
  subst e
  obtain ⟨⟨⟨ds, gs, before, hw, _⟩, hx⟩, _⟩ := hpre
  have hw' := DataW.Whole.of_heap (w' := w.forCall tape i) (by rfl) hw
  refine (contract (w.forCall tape i) w.heap.size i.args ds gs before hval hw' (hX _ _ _ (by rfl) hx) hsh).mono fun e W' ⟨v, he, hp⟩ => ?_
  subst he
  exact ChangeSpec.post_blind hp
end Go
namespace Go.Vc.K
open Go Go.Vc Go.RowKit Go.Proofs Go.Proofs.YthpmgbgnlnebbaaDoor
abbrev laidT : List (String × DataW Unit) := [("unicode/utf8.acceptRanges", Rows.laid_unicode_utf8_acceptRanges), ("unicode/utf8.first", Rows.laid_unicode_utf8_first)]
theorem max_of {W : World} (h : W.ShapedOpen Tryd.prog) : MaxL W :=
  Go.Proofs.cell_of_shapedOpen_int (zero := #[.int .i64 0]) (t := 3) (g := 0) h (of_decide_eq_true (by kernel_rfl)) (by kernel_rfl) rfl (by kernel_rfl) (by kernel_rfl) Tryd.underlying3
abbrev iG : GT := .int .i64
abbrev cfgG : GT := .st (.pair iG (.pair iG (.pair iG (.pair iG (.pair iG (.pair (.st (.pair iG (.pair iG (.pair iG (.pair iG .unit))))) .unit))))))
theorem cfg_V {w : World} {x : cfgG.T} {v : Value} (h : GT.V w cfgG x v) : ∃ c : Cf, v = c.v := by
  obtain ⟨cs, rfl, d1, d2, rfl, ⟨rfl, _, _⟩, d3, d4, rfl, ⟨rfl, _, _⟩, d5, d6, rfl, ⟨rfl, _, _⟩, d7, d8, rfl, ⟨rfl, _, _⟩, d9, d10, rfl, ⟨rfl, _, _⟩, d11, d12, rfl, hm, rfl⟩ := h
  obtain ⟨e1, e2, rfl, ⟨rfl, _, _⟩, e3, e4, rfl, ⟨rfl, _, _⟩, e5, e6, rfl, ⟨rfl, _, _⟩, e7, e8, rfl, ⟨rfl, _, _⟩, rfl⟩ := hm
  exact ⟨⟨_, _, _, _, _, _, _, _, _⟩, rfl⟩
end Go.Vc.K

