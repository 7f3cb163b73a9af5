/- Own texts of this claim, laid together: ZTp7, ZTp8, ZTp9, ZTpa, ZTpb, ZTpc, ZTpd, ZTpe, VcPiece, ZFU3, ZTpf, ZTpg, ZTph, ZFU4, ZFS14, ZSr3. -/
import Derived.Test.YtjpcmbaminjafaaGreatMgc6a0944d
import Derived.RangeFuncFrom
import Derived.RangeFuncCalls
import Derived.Test.YtjpcmbaminjafaaGreatProg
import Derived.WalkKit
import Derived.TacticsIn
import Derived.RegionIn
import Derived.Shelf.Abstract

/- Tiers: Give, Take. -/
set_option maxRecDepth 20000
set_option maxHeartbeats 1000000
set_option linter.unusedVariables false
namespace Go.Vc.SZ
open Go Go.Vc Go.RowKit Go.Proofs Go.Vc.T Vcz

variable {w W W' W1 : World} {M N B B0 B' : Nat → Prop} {gs ds : List Nat} {g gr : Nat} {p : TiP} {T Tg Ta n s : Ar4} {To : Int → Ar4} {ma ma' m : List (Int × Cl)} {mo mo' : MO} {mr mr' : MR} {mf mf' : MF} {id r k : Int} {a : Bool} {F : List Fr} {f : Fr} {h : Fr → Fr}

def giveT (F : List Fr) (id : Int) (n : Ar4) : List Fr × Int := match fget F id with
  | none => (F, 43)
  | some f => match addD (sumF F f.role) n with
    | none => (F, 41)
    | some s => if sm4 s then (updF F id (hS (ad4 f.s n)), 0) else (F, 41)
def takeT (F : List Fr) (id : Int) (n : Ar4) : List Fr × Int := match fget F id with
  | none => (F, 43)
  | some f => match subD f.s n with
    | none => (F, 30)
    | some s => (updF F id (hS s), 0)
theorem cnt_s (s : Ar4) (hn : (F.map (·.fid)).Nodup) (hf : fget F id = some f) (r : Int) : cntF (updF F id (hS s)) r = cntF F r := by
  unfold cntF
  rw [agF_upd one1 (keepS s).role _ hn hf]
  have : one1 (hS s f) = one1 f := rfl
  rw [this]
  split <;> omega
theorem sum_s (s : Ar4) (hn : (F.map (·.fid)).Nodup) (hf : fget F id = some f) : sumF (updF F id (hS s)) f.role = ad4 (sumF F f.role) (sb4 s f.s) := by
  unfold sumF
  simp only [agF_upd _ (keepS s).role _ hn hf, if_true]
/-- What is behind a turn of a framework's sums. -/
theorem TiX.ofS (hX : FOk F) (hT : sm4 T) (e : fget F id = some f) (hok : FOk (updF F id (hS s))) (hr : RM F mr) (hm : FM F mf) (h : TiQ W B g T T (fun _ => T) (mset f.role ⟨wF F f.role, sumF (updF F id (hS s)) f.role, decide (0 < cntF F f.role)⟩ (allL F)) (updO (ownL F) f.role (mset id ⟨1, s, f.aw⟩ (ownL F f.role))) mr mf W') : TiX W' (fun b => B b ∨ W.heap.size ≤ b) g T (updF F id (hS s)) := by
  refine TiX.of hok hT h (fun k => ?_) (fun r hr' k => ?_) (fun r => ?_) (fun k => ?_)
  · rw [all_upd hX (keepS s) e]
    by_cases ek : k = f.role
    · rw [ek, mget_mset_self, if_pos rfl]
      unfold rcl
      rw [wF_upd (keepS s), cnt_s s hX.nd e]
    · rw [mget_mset_ne _ ek, if_neg ek]
  · rw [own_upd (keepS s) hX.nd e]
    unfold updO
    by_cases er : r = f.role
    · rw [if_pos er, er]
      by_cases ek : k = id
      · rw [ek, mget_mset_self, if_pos ⟨rfl, rfl⟩]
        rfl
      · rw [mget_mset_ne _ ek, if_neg (fun hh => ek hh.1)]
    · rw [if_neg er, if_neg (fun hh => er hh.2)]
  · rw [hr r, isR_upd (keepS s), cnt_s s hX.nd e]
  · rw [hm k, fget_upd (keepS s).fid]
    cases e3 : fget F k with
    | none => rfl
    | some f' =>
      rw [Option.map_some, Option.map_some, Option.map_some]
      split <;> rfl
theorem TiX.same (hX : FOk F) (hT : sm4 T) (hr : RM F mr) (hm : FM F mf) (h : TiQ W B g T T (fun _ => T) (allL F) (ownL F) mr mf W') : TiX W' (fun b => B b ∨ W.heap.size ≤ b) g T F := TiX.of hX hT h (fun _ => rfl) (fun _ _ _ => rfl) hr hm
theorem sm_sR {a : Ar4} (h : sm4 a) : sR4 a := by
  unfold sm4 at h
  unfold sR4 sumR
  omega
theorem c22x (h : TiX W B g T F) (id : Int) (hl : F.length ≤ 1000) (n : Ar4) : RetF Tryz.prog 22 #[.pointer (pt g), .int .i64 id, arT n] W B (TxQ W B g T (giveT F id n)) := by
  obtain ⟨B', p, mr, mf, hsub, hT, hr, hm⟩ := h.ex
  intro R hR
  refine f22_calls _ _ _ _ _ _ W R ?_
  unfold f22_vc
  intro n1 hn1 w2 hb2 hu2
  have hA : AtF W B [n1] w2 := ⟨((AtF.refl W B).call hb2).chg, hu2⟩
  have hT2 := hT.call hb2
  have hs0 : ∀ b, B' b → B b ∨ W.heap.size ≤ b := fun b hb => .inl (hsub b hb)
  have hg1 : ∀ y ∈ [n1], ¬ B' y := fun y hy hb => by
    have := hT.bd y hb
    simp at hy
    omega
  cases e : fget F id with
  | none =>
    unfold giveT at hR
    rw [e] at hR
    refine at_callb hA (c37n hT2 (by rw [hm, e]; rfl)) fun w4 hA hk hb4 => ⟨_, _, _, _, _, rfl, hk, fun n10 hn10 n11 hn11 => brN (fun _ w12 he hu => ?_) (fun e => by cases e)⟩
    have hsz := hA.size
    have hA := hA.evo (gs' := [n1, n10, n11]) (by simp; omega) he hu
    refine leafF hR hA ⟨rfl, ?_⟩
    have h4 := (h.call hb2).call hb4
    exact ((h4.mono (B0 := fun b => B b ∧ b < w4.heap.size) fun b hl hb => ⟨hb, hl⟩).evo he (by intro d hd hb; simp at hd; omega)).mono fun b _ hb => .inl hb.1
  | some f =>
    have hf := (fget_some e).1
    obtain ⟨gr, hy⟩ := hr.of hf
    have hx := hm.of e
    have hall : mget f.role (allL F) = some (rcl F f.role) := by rw [all_get, if_pos ⟨(h.ok.ok f hf).1, isR_of hf⟩]
    have hown : mget id (ownL F f.role) = some (clF f) := by rw [own_get h.ok.nd, e, Option.bind_some, if_pos rfl]
    have hal := all_len F
    have hol := own_len F f.role
    refine at_callb hA (c37s hT2 hx hy) fun w4 hA hk hb4 => ⟨_, _, _, _, _, rfl, hk, fun n10 hn10 n11 hn11 => brN (fun e => absurd rfl e) (fun _ => ?_)⟩
    have hT4 := hT2.call hb4
    have hsz := hA.size
    have far : ∀ d, w4.heap.size ≤ d → ¬ B' d := fun d hd hb => by have := hT4.bd d hb; omega
    have hg3 : ∀ y ∈ [n1, n10, n11], ¬ B' y := fun y hy => by
      simp at hy
      rcases hy with rfl | rfl | rfl
      · exact hg1 _ (by simp)
      · exact far _ hn10
      · exact far _ hn11
    refine ⟨_, rfl, _, hT4.rdA (fun d hd e => ?_), fun w15 he hu => ?_⟩
    · subst e
      exact hg3 d (by simp at hd; simp; rcases hd with h | h <;> simp [h]) hT4.bg.1
    have hA := hA.evo (gs' := [n1, n10, n11]) (by simp; omega) he hu
    have hT15 := hT4.evo he (fun d hd => hg3 d (by simp at hd; simp; rcases hd with h | h <;> simp [h]))
    refine at_allS (q := turnD (allL F) f.role (giveF n)) hA hs0 hT15 (c43 hT15.all (by omega) f.role n) hg3 fun w17 B2 p2 hA hk hs2 hg2 h17 => ⟨_, rfl, hk, ?_⟩
    have et : turnD (allL F) f.role (giveF n) = match addD (sumF F f.role) n with
        | none => (allL F, 41)
        | some s => if sm4 s then (mset f.role ⟨wF F f.role, s, decide (0 < cntF F f.role)⟩ (allL F), 0) else (allL F, 41) := by
      unfold turnD
      rw [hall]
      unfold giveF rcl
      simp only
      cases addD (sumF F f.role) n with
      | none => rfl
      | some s => by_cases hs : sm4 s <;> simp [hs]
    unfold giveT at hR
    rw [e] at hR
    simp only at hR
    cases ea : addD (sumF F f.role) n with
    | none =>
      rw [ea] at et hR
      simp only at et hR
      rw [et] at h17 ⊢
      exact brE (fun e => by cases e) (fun _ => leafF hR hA ⟨rfl, TiX.same h.ok h.sT hr hm ⟨B2, p2, hs2, h17⟩⟩)
    | some s =>
      rw [ea] at et hR
      simp only at et hR
      by_cases hs : sm4 s
      · rw [if_pos hs] at et hR
        rw [et] at h17 ⊢
        refine brE (fun _ => ?_) (fun e => absurd rfl e)
        unfold addD at ea
        split at ea
        · rename_i hcond
          cases ea
          obtain ⟨q1, q2, q3⟩ := hcond
          have hp := h.ok.part hf
          have hnn := h.ok.nn f hf
          have es : sumF (updF F id (hS (ad4 f.s n))) f.role = ad4 (sumF F f.role) n := by
            rw [sum_s _ h.ok.nd e]
            simp only [Prod.mk.injEq]
            refine ⟨?_, ?_, ?_, ?_⟩ <;> omega
          have hok := h.ok.upd (keepS (ad4 f.s n)) e (by unfold sR4 sumR at q2; simp only; omega) (by rw [es]; exact hs)
          have ge : giveF n (clF f) = (⟨1, ad4 f.s n, f.aw⟩, 0) := by
            unfold giveF
            have : addD (clF f).s n = some (ad4 f.s n) := by
              unfold addD
              rw [if_pos]
              · rfl
              · have e1 : (clF f).s = f.s := rfl
                rw [e1]
                unfold sR4 sumR at *
                unfold sm4 at hs
                simp only at hs q3 ⊢
                omega
            rw [this]
            simp only
            rw [if_pos]
            · rfl
            · unfold sR4 sumR at q2
              unfold sm4 at hs ⊢
              simp only at hs ⊢
              omega
          have eo : turnD (ownL F f.role) id (giveF n) = (mset id ⟨1, ad4 f.s n, f.aw⟩ (ownL F f.role), 0) := by
            unfold turnD
            rw [hown]
            simp only
            rw [ge, if_pos rfl]
          refine at_own (q := turnD (ownL F f.role) id (giveF n)) hA hs2 h17 hy (c43 (h17.own _ _ hy) (by omega) id n) hg2 fun w20 B3 p3 hA hk hs3 hg3 h20 => ⟨_, rfl, hk, leafF hR hA ⟨by rw [eo], ?_⟩⟩
          rw [eo] at h20
          refine TiX.ofS h.ok h.sT e hok hr hm ⟨B3, p3, hs3, ?_⟩
          rw [es]
          exact h20
        · cases ea
      · rw [if_neg hs] at et hR
        rw [et] at h17 ⊢
        exact brE (fun e => by cases e) (fun _ => leafF hR hA ⟨rfl, TiX.same h.ok h.sT hr hm ⟨B2, p2, hs2, h17⟩⟩)
theorem c23x (h : TiX W B g T F) (id : Int) (hl : F.length ≤ 1000) (n : Ar4) : RetF Tryz.prog 23 #[.pointer (pt g), .int .i64 id, arT n] W B (TxQ W B g T (takeT F id n)) := by
  obtain ⟨B', p, mr, mf, hsub, hT, hr, hm⟩ := h.ex
  intro R hR
  refine f23_calls _ _ _ _ _ _ W R ?_
  unfold f23_vc
  intro n1 hn1 w2 hb2 hu2
  have hA : AtF W B [n1] w2 := ⟨((AtF.refl W B).call hb2).chg, hu2⟩
  have hT2 := hT.call hb2
  have hs0 : ∀ b, B' b → B b ∨ W.heap.size ≤ b := fun b hb => .inl (hsub b hb)
  have hg1 : ∀ y ∈ [n1], ¬ B' y := fun y hy hb => by
    have := hT.bd y hb
    simp at hy
    omega
  cases e : fget F id with
  | none =>
    unfold takeT at hR
    rw [e] at hR
    refine at_callb hA (c37n hT2 (by rw [hm, e]; rfl)) fun w4 hA hk hb4 => ⟨_, _, _, _, _, rfl, hk, fun n10 hn10 n11 hn11 => brN (fun _ w12 he hu => ?_) (fun e => by cases e)⟩
    have hsz := hA.size
    have hA := hA.evo (gs' := [n1, n10, n11]) (by simp; omega) he hu
    refine leafF hR hA ⟨rfl, ?_⟩
    have h4 := (h.call hb2).call hb4
    exact ((h4.mono (B0 := fun b => B b ∧ b < w4.heap.size) fun b hl hb => ⟨hb, hl⟩).evo he (by intro d hd hb; simp at hd; omega)).mono fun b _ hb => .inl hb.1
  | some f =>
    have hf := (fget_some e).1
    obtain ⟨gr, hy⟩ := hr.of hf
    have hx := hm.of e
    have hall : mget f.role (allL F) = some (rcl F f.role) := by rw [all_get, if_pos ⟨(h.ok.ok f hf).1, isR_of hf⟩]
    have hown : mget id (ownL F f.role) = some (clF f) := by rw [own_get h.ok.nd, e, Option.bind_some, if_pos rfl]
    have hal := all_len F
    have hol := own_len F f.role
    refine at_callb hA (c37s hT2 hx hy) fun w4 hA hk hb4 => ⟨_, _, _, _, _, rfl, hk, fun n10 hn10 n11 hn11 => brN (fun e => absurd rfl e) (fun _ w13 he hu => ?_)⟩
    have hT4 := hT2.call hb4
    have hsz := hA.size
    have far : ∀ d, w4.heap.size ≤ d → ¬ B' d := fun d hd hb => by have := hT4.bd d hb; omega
    have hg3 : ∀ y ∈ [n1, n10, n11], ¬ B' y := fun y hy => by
      simp at hy
      rcases hy with rfl | rfl | rfl
      · exact hg1 _ (by simp)
      · exact far _ hn10
      · exact far _ hn11
    have hA := hA.evo (gs' := [n1, n10, n11]) (by simp; omega) he hu
    have hT13 := hT4.evo he (fun d hd => hg3 d (by simp at hd; simp; rcases hd with h | h <;> simp [h]))
    refine at_own (q := turnD (ownL F f.role) id (takeF n)) hA hs0 hT13 hy (c39 (hT13.own _ _ hy) (by omega) id n) hg3 fun w15 B2 p2 hA hk hs2 hg2 h15 => ⟨_, rfl, hk, ?_⟩
    have et : turnD (ownL F f.role) id (takeF n) = match subD f.s n with
        | none => (ownL F f.role, 30)
        | some s => (mset id ⟨1, s, f.aw⟩ (ownL F f.role), 0) := by
      unfold turnD
      rw [hown]
      unfold takeF clF
      simp only
      cases subD f.s n with
      | none => rfl
      | some s => rfl
    unfold takeT at hR
    rw [e] at hR
    simp only at hR
    cases ea : subD f.s n with
    | none =>
      rw [ea] at et hR
      simp only at et hR
      rw [et] at h15 ⊢
      refine brE (fun e => by cases e) (fun _ => leafF hR hA ⟨rfl, TiX.same h.ok h.sT hr hm ⟨B2, p2, hs2, ?_⟩⟩)
      have := h15
      rw [show updO (ownL F) f.role (ownL F f.role) = ownL F from updO_self ..] at this
      exact this
    | some s =>
      rw [ea] at et hR
      simp only at et hR
      rw [et] at h15 ⊢
      refine brE (fun _ => ⟨_, rfl, _, h15.rdA nod, fun w19 hb19 hu19 => ?_⟩) (fun e => absurd rfl e)
      have hA : AtF W B [n1, n10, n11] w19 := ⟨(hA.call hb19).chg, hu19⟩
      have h19 := h15.call hb19
      unfold subD at ea
      split at ea
      · rename_i hcond
        cases ea
        obtain ⟨q1, q2, q3⟩ := hcond
        have hp := h.ok.part hf
        have hnn := h.ok.nn f hf
        have hsm := h.ok.sm f.role
        have es : sumF (updF F id (hS (sb4 f.s n))) f.role = sb4 (sumF F f.role) n := by
          rw [sum_s _ h.ok.nd e]
          simp only [Prod.mk.injEq]
          refine ⟨?_, ?_, ?_, ?_⟩ <;> omega
        have hok := h.ok.upd (keepS (sb4 f.s n)) e (by simp only; omega) (by
          rw [es]
          unfold sumR at q3
          unfold sm4 at hsm ⊢
          simp only
          omega)
        have ge : takeF n (rcl F f.role) = (⟨wF F f.role, sb4 (sumF F f.role) n, decide (0 < cntF F f.role)⟩, 0) := by
          unfold takeF
          have : subD (rcl F f.role).s n = some (sb4 (sumF F f.role) n) := by
            unfold subD
            rw [if_pos]
            · rfl
            · have e1 : (rcl F f.role).s = sumF F f.role := rfl
              rw [e1]
              exact ⟨by omega, sm_sR hsm, q3⟩
          rw [this]
          rfl
        have eo : turnD (allL F) f.role (takeF n) = (mset f.role ⟨wF F f.role, sb4 (sumF F f.role) n, decide (0 < cntF F f.role)⟩ (allL F), 0) := by
          unfold turnD
          rw [hall]
          simp only
          rw [ge, if_pos rfl]
        refine at_allS (q := turnD (allL F) f.role (takeF n)) hA hs2 h19 (c39 h19.all (by omega) f.role n) hg2 fun w20 B3 p3 hA hk hs3 hg3 h20 => ⟨_, rfl, hk, leafF hR hA ⟨by rw [eo], ?_⟩⟩
        rw [eo] at h20
        refine TiX.ofS h.ok h.sT e hok hr hm ⟨B3, p3, hs3, ?_⟩
        rw [es]
        exact h20
      · cases ea
end Go.Vc.SZ

/- Tiers: Drop. -/
set_option maxRecDepth 20000
set_option maxHeartbeats 1000000
set_option linter.unusedVariables false
namespace Go.Vc.SZ
open Go Go.Vc Go.RowKit Go.Proofs Go.Vc.T Vcz

variable {w W W' W1 : World} {M N B B0 B' : Nat → Prop} {gs ds : List Nat} {g gr : Nat} {p : TiP} {T Tg Ta n s : Ar4} {To : Int → Ar4} {ma ma' m : List (Int × Cl)} {mo mo' : MO} {mr mr' : MR} {mf mf' : MF} {id r k : Int} {a : Bool} {F : List Fr} {f : Fr} {h : Fr → Fr}

def dropT (F : List Fr) (id : Int) : List Fr × Int := match fget F id with
  | none => (F, 43)
  | some _ => (delF F id, 0)
theorem del_upd (hk : Keep h) : delF (updF F id h) id = delF F id := by
  induction F with
  | nil => rfl
  | cons x F ih =>
    unfold delF updF at *
    rw [List.map_cons, List.filter_cons, List.filter_cons]
    by_cases e : x.fid = id
    · rw [if_pos e, if_neg (by rw [hk.fid]; simp [e]), if_neg (by simp [e]), ih]
    · rw [if_neg e, if_pos (by simp [e]), if_pos (by simp [e]), ih]
theorem own_isR (F : List Fr) (r : Int) : isR F r = true ↔ (ownL F r).length ≠ 0 := by
  unfold ownL
  rw [List.length_map, isR_iff]
  constructor
  · rintro ⟨f, hf, e⟩ h0
    have : f ∈ F.filter fun f => decide (f.role = r) := List.mem_filter.2 ⟨hf, by simpa using e⟩
    rw [List.eq_nil_of_length_eq_zero h0] at this
    cases this
  · intro h0
    cases e : F.filter fun f => decide (f.role = r) with
    | nil => rw [e] at h0; exact absurd rfl h0
    | cons f l =>
      have : f ∈ F.filter fun f => decide (f.role = r) := by rw [e]; exact List.mem_cons_self ..
      have := List.mem_filter.1 this
      exact ⟨f, this.1, by simpa using this.2⟩
theorem Ti.delR {w0 : World} {M0 : Nat → Prop} {gs0 : List Nat} (h : Ti W B g p Tg Ta To ma mo mr mf) (hc : Chg (fun b => b = p.rr) W W') (ho : OwnM w0 M0 gs0 W' p.rr (Value.int .i64) vR (mdel r mr)) : Ti W' B g p Tg Ta To ma mo (mdel r mr) mf :=
  h.sR hc ho (mdel_nodup h.nr) fun r' x' hx' => by
    by_cases e : r' = r
    · rw [e, mget_mdel_self h.nr] at hx'
      cases hx'
    · rw [mget_mdel_ne e] at hx'
      exact h.own r' x' hx'
/-- Behind a drop: the rest. -/
theorem drop_rest (hX : FOk F) (e : fget F id = some f) (r : Int) (k : Int) : mget k (updO (ownL F) f.role (mdel id (ownL F f.role)) r) = mget k (ownL (delF F id) r) := by
  rw [own_del hX.nd]
  unfold updO
  by_cases er : r = f.role
  · rw [if_pos er, er]
    by_cases ek : k = id
    · rw [ek, mget_mdel_self (own_nd hX.nd _), if_pos rfl]
    · rw [mget_mdel_ne ek, if_neg ek]
  · rw [if_neg er]
    by_cases ek : k = id
    · rw [if_pos ek, own_get hX.nd, ek, e, Option.bind_some, if_neg (fun hh => er hh.symm)]
    · rw [if_neg ek]
theorem FM.del (hm : FM F mf) (hn : (mf.map (·.1)).Nodup) : FM (delF F id) (mdel id mf) := fun k => by
  rw [fget_del]
  by_cases ek : k = id
  · rw [ek, mget_mdel_self hn, if_pos rfl]
    rfl
  · rw [mget_mdel_ne ek, if_neg ek, hm k]
theorem cnt_del (hX : FOk F) (e : fget F id = some f) (ha : f.aw = false) (r : Int) : cntF (delF F id) r = cntF F r := by
  unfold cntF
  rw [agF_del one1 r hX.nd e]
  have : one1 f = 0 := by unfold one1; rw [ha]; rfl
  rw [this]
  split <;> omega
theorem sum_del (hX : FOk F) (e : fget F id = some f) : sumF (delF F id) f.role = sb4 (sumF F f.role) f.s := by
  unfold sumF
  simp only [agF_del _ f.role hX.nd e, if_true]
theorem RM.del (hr : RM F mr) (hX : FOk F) (e : fget F id = some f) (ha : f.aw = false) (h2 : isR (delF F id) f.role = true) : RM (delF F id) mr := fun r => by
  rw [hr r, cnt_del hX e ha]
  by_cases er : f.role = r
  · rw [← er, h2, isR_of (fget_some e).1]
  · rw [isR_del hX.nd e er]
theorem RM.del0 (hr : RM F mr) (hn : (mr.map (·.1)).Nodup) (hX : FOk F) (e : fget F id = some f) (ha : f.aw = false) (h2 : ¬ isR (delF F id) f.role = true) : RM (delF F id) (mdel f.role mr) := fun r => by
  by_cases er : f.role = r
  · rw [← er, if_neg h2, mget_mdel_self hn]
    rfl
  · rw [mget_mdel_ne (fun hh => er hh.symm), hr r, cnt_del hX e ha, isR_del hX.nd e er]

theorem c20x (h : TiX W B g T F) (hl : F.length ≤ 1000) (id : Int) : RetF Tryz.prog 20 #[.pointer (pt g), .int .i64 id] W B (TxQ W B g T (dropT F id)) := by
  intro R hR
  refine f20_calls _ _ W R ?_
  unfold f20_vc
  have hA : AtF W B [] W := AtF.refl W B
  refine at_callF hA (c21x h hl id false) (fun b _ hb => .inr hb) (by simp) fun v w2 hA hk hch hq => ?_
  obtain ⟨hv, hX⟩ := hq
  subst hv
  refine ⟨_, rfl, ?_⟩
  unfold wakeT dropT at *
  cases e0 : fget F id with
  | none =>
    rw [e0] at hR hX
    exact brN (fun _ => leafF hR hA ⟨rfl, hX⟩) (fun e => by cases e)
  | some f0 =>
    rw [e0] at hR hX
    simp only at hX hR
    refine brN (fun e => absurd rfl e) (fun _ => ?_)
    have edel : delF (updF F id (hAw false)) id = delF F id := del_upd (keepAw false)
    have e : fget (updF F id (hAw false)) id = some (hAw false f0) := by rw [fget_upd (keepAw false).fid, e0, Option.map_some, if_pos (fget_some e0).2]
    have hl1 : (updF F id (hAw false)).length ≤ 1000 := by rw [len_upd]; exact hl
    rw [← edel] at hR
    generalize updF F id (hAw false) = F1 at hX hR e hl1
    generalize hf1 : hAw false f0 = f at e
    have haw : f.aw = false := by rw [← hf1]
    clear hf1 edel
    obtain ⟨B', p, mr, mf, hsub, hT, hr, hm⟩ := hX.ex
    have hs0 : ∀ b, B' b → B b ∨ W.heap.size ≤ b := hsub
    have hf := (fget_some e).1
    obtain ⟨gr, hy⟩ := hr.of hf
    have hx := hm.of e
    have hall : mget f.role (allL F1) = some (rcl F1 f.role) := by rw [all_get, if_pos ⟨(hX.ok.ok f hf).1, isR_of hf⟩]
    have hown : mget id (ownL F1 f.role) = some (clF f) := by rw [own_get hX.ok.nd, e, Option.bind_some, if_pos rfl]
    have hal := all_len F1
    have hol := own_len F1 f.role
    refine at_callb hA (c37s hT hx hy) fun w5 hA hk hb5 => ⟨_, _, _, _, _, rfl, fun n11 hn11 n12 hn12 w13 he hu => ?_⟩
    have hT5 := hT.call hb5
    have hsz := hA.size
    have far : ∀ d, w5.heap.size ≤ d → ¬ B' d := fun d hd hb => by have := hT5.bd d hb; omega
    have hg2 : ∀ y ∈ [n11, n12], ¬ B' y := fun y hy => by
      simp at hy
      rcases hy with rfl | rfl
      · exact far _ hn11
      · exact far _ hn12
    have hA := hA.evo (gs' := [n11, n12]) (by simp; omega) he hu
    have hT13 := hT5.evo he (fun d hd => hg2 d (by simp at hd; simp; rcases hd with h | h <;> simp [h]))
    have k23 := c38 (hT13.own _ _ hy) id
    rw [hown] at k23
    refine at_callb hA k23 fun w15 hA hk hb15 => ⟨_, _, _, _, _, rfl, hk, fun n21 hn21 => ?_⟩
    have hT15 := hT13.call hb15
    have hg21 : ¬ B' n21 := fun hb => by have := hT15.bd _ hb; omega
    refine ⟨_, rfl, _, hT15.rdA (fun d hd e => ?_), fun w24 he hu => ?_⟩
    · simp at hd
      subst hd e
      exact hg21 hT15.bg.1
    have hsz := hA.size
    have hA := hA.evo (gs' := [n11, n12, n21]) (by simp; omega) he hu
    have hT24 := hT15.evo he (by simpa using hg21)
    have hg3 : ∀ y ∈ [n11, n12, n21], ¬ B' y := fun y hy => by
      simp at hy
      rcases hy with rfl | rfl | rfl
      · exact hg2 _ (by simp)
      · exact hg2 _ (by simp)
      · exact hg21
    have hsm := hX.ok.sm f.role
    have hp := hX.ok.part hf
    have hnn := hX.ok.nn f hf
    have et : turnD (allL F1) f.role (takeF f.s) = (mset f.role ⟨wF F1 f.role, sb4 (sumF F1 f.role) f.s, decide (0 < cntF F1 f.role)⟩ (allL F1), 0) := by
      have ge : takeF f.s (rcl F1 f.role) = (⟨wF F1 f.role, sb4 (sumF F1 f.role) f.s, decide (0 < cntF F1 f.role)⟩, 0) := by
        unfold takeF
        have : subD (rcl F1 f.role).s f.s = some (sb4 (sumF F1 f.role) f.s) := by
          unfold subD
          rw [if_pos]
          · rfl
          · have e1 : (rcl F1 f.role).s = sumF F1 f.role := rfl
            rw [e1]
            refine ⟨by omega, sm_sR hsm, ?_⟩
            unfold sm4 at hsm
            unfold sumR
            omega
        rw [this]
        rfl
      unfold turnD
      rw [hall]
      simp only
      rw [ge, if_pos rfl]
    refine at_allS (q := turnD (allL F1) f.role (takeF f.s)) hA hs0 hT24 (c39 hT24.all (by omega) f.role f.s) hg3 fun w26 B2 p2 hA hk hs2 hg2' h26 => ⟨_, rfl, hk, ?_⟩
    rw [et] at h26
    simp only at h26
    have eo : dropD (ownL F1 f.role) id = (mdel id (ownL F1 f.role), 0) := by
      unfold dropD
      rw [hown]
    refine at_own (q := dropD (ownL F1 f.role) id) hA hs2 h26 hy (c40 (h26.own _ _ hy) (by omega) id) hg2' fun w29 B3 p3 hA hk hs3 hg3' h29 => ⟨_, rfl, hk, _, rfl, _, h29.rdF nod, ?_⟩
    rw [eo] at h29
    simp only at h29
    refine opw_delete (kf := Value.int .i64) (vf := vF) (k := id) KI2 (t := 42) (et := 90) (by kernel_rfl) hA (h29.fmA hs3 hg3') fun w34 hA hk hch34 hM => ⟨rfl, hk, ?_⟩
    have h34 := h29.sF hch34 hM (mdel_nodup h29.nf)
    -- what the role still has
    have hown2 := h34.own _ _ hy
    have hmo : updO (ownL F1) f.role (mdel id (ownL F1 f.role)) f.role = mdel id (ownL F1 f.role) := if_pos rfl
    have hre := hown2.re (same_of_get hown2.good.nd (own_nd (del_nd hX.ok.nd) f.role) (drop_rest hX.ok e f.role)) (own_nd (del_nd hX.ok.nd) f.role)
    have hok := hX.ok.del e
    have hm2 := hm.del hT.nf (id := id)
    have ha2 : isR (delF F1 id) f.role = true → ∀ k, mget k (mset f.role ⟨wF F1 f.role, sb4 (sumF F1 f.role) f.s, decide (0 < cntF F1 f.role)⟩ (allL F1)) = mget k (allL (delF F1 id)) := fun hi k => by
      rw [all_del hX.ok e]
      by_cases ek : k = f.role
      · rw [ek, mget_mset_self, if_pos rfl, if_pos hi]
        unfold rcl
        rw [wF_del hX.ok hi, sum_del hX.ok e, cnt_del hX.ok e haw]
      · rw [mget_mset_ne _ ek, if_neg ek]
    refine at_callb hA (c41 hre) fun w36 hA hk hb36 => ⟨_, rfl, hk, brE (fun h0 => ?_) (fun h0 => ?_)⟩
    · have hi : ¬ isR (delF F1 id) f.role = true := fun hi => (own_isR _ _).1 hi (by omega)
      have h36 := h34.call hb36
      refine ⟨_, rfl, _, h36.rdA nod, fun w40 hb40 hu40 => ?_⟩
      have hA : AtF W B [n11, n12, n21] w40 := ⟨(hA.call hb40).chg, hu40⟩
      have h40 := h36.call hb40
      refine at_allS (q := dropD (mset f.role ⟨wF F1 f.role, sb4 (sumF F1 f.role) f.s, decide (0 < cntF F1 f.role)⟩ (allL F1)) f.role) hA hs3 h40 (c40 h40.all (by
        have := nodup_len (l' := rolesU) h40.all.good.nd fun k hk => by
          by_cases ek : k = f.role
          · rw [ek]; exact mem_roles.2 (hX.ok.ok f hf).1
          · have h1 : mget k (allL F1) ≠ none := fun hn => by
              have := mget_none.1 ((mget_mset_ne (v := (⟨wF F1 f.role, sb4 (sumF F1 f.role) f.s, decide (0 < cntF F1 f.role)⟩ : Cl)) ek (allL F1)).trans hn)
              exact this hk
            rw [all_get] at h1
            by_cases hh : (1 ≤ k ∧ k ≤ 32) ∧ isR F1 k = true
            · exact mem_roles.2 hh.1
            · rw [if_neg hh] at h1; exact absurd rfl h1
        simp only [List.length_map] at this
        have h32 : rolesU.length = 32 := by unfold rolesU; simp
        omega) f.role) hg3' fun w42 B4 p4 hA hk hs4 hg4 h42 => ⟨_, rfl, hk, _, rfl, _, h42.rdR nod, fun w46 hb46 hu46 => ?_⟩
      have ed : dropD (mset f.role ⟨wF F1 f.role, sb4 (sumF F1 f.role) f.s, decide (0 < cntF F1 f.role)⟩ (allL F1)) f.role = (mdel f.role (mset f.role ⟨wF F1 f.role, sb4 (sumF F1 f.role) f.s, decide (0 < cntF F1 f.role)⟩ (allL F1)), 0) := by
        unfold dropD
        rw [mget_mset_self]
      rw [ed] at h42
      have hA : AtF W B [n11, n12, n21] w46 := ⟨(hA.call hb46).chg, hu46⟩
      have h46 := h42.call hb46
      refine opw_delete (kf := Value.int .i64) (vf := vR) (k := f.role) KI3 (t := 41) (et := 88) (by kernel_rfl) hA (h46.rmA hs4 hg4) fun w48 hA hk hch48 hM => ⟨rfl, hk, ?_⟩
      have h48 := h46.delR hch48 hM
      refine leafF hR hA ⟨rfl, TiX.of hok hX.sT ⟨B4, p4, hs4, h48⟩ (fun k => ?_) (fun r _ k => drop_rest hX.ok e r k) (hr.del0 hT.nr hX.ok e haw hi) hm2⟩
      rw [all_del hX.ok e]
      by_cases ek : k = f.role
      · rw [ek, mget_mdel_self (mset_nodup (all_nd F1)), if_pos rfl, if_neg hi]
      · rw [mget_mdel_ne ek, mget_mset_ne _ ek, if_neg ek]
    · have hi : isR (delF F1 id) f.role = true := (own_isR _ _).2 (by omega)
      exact leafF hR hA ⟨rfl, TiX.of hok hX.sT ⟨B3, p3, hs3, h34.call hb36⟩ (ha2 hi) (fun r _ k => drop_rest hX.ok e r k) (hr.del hX.ok e haw hi) hm2⟩
end Go.Vc.SZ

/- Tiers: Put. -/
set_option maxRecDepth 20000
set_option maxHeartbeats 1000000
set_option linter.unusedVariables false
namespace Go.Vc.SZ
open Go Go.Vc Go.RowKit Go.Proofs Go.Vc.T Vcz

variable {w W W' W1 : World} {M N B B0 B' S : Nat → Prop} {gs ds : List Nat} {g gr : Nat} {p : TiP} {T Tg Ta n s T' : Ar4} {To : Int → Ar4} {ma ma' m m' : List (Int × Cl)} {mo mo' : MO} {mr mr' : MR} {mf mf' : MF} {id r k : Int} {a : Bool} {F : List Fr} {f : Fr} {h : Fr → Fr}

/-- Blocks are set aside for a role that has no sorter yet. -/
theorem Ti.addO (h : Ti W B g p Tg Ta To ma mo mr mf) (hx : mget r mr = none) (hS : ∀ b, S b → b < W.heap.size ∧ ¬ B b) :
    Ti W (fun b => B b ∨ S b) g { p with Bo := updO p.Bo r S } Tg Ta (updO To r T') ma (updO mo r m') mr mf := by
  have ne : ∀ b, S b → ¬ (b = g ∨ b = p.rr ∨ b = p.rf) := fun b hb e => by
    rcases e with e | e | e <;> subst e
    · exact (hS _ hb).2 h.bg.1
    · exact (hS _ hb).2 h.bg.2.1
    · exact (hS _ hb).2 h.bg.2.2
  refine ⟨h.tb, h.all, h.rm, h.fm, h.nr, h.nf, fun r' y hy => ?_, ⟨.inl h.bg.1, .inl h.bg.2.1, .inl h.bg.2.2⟩, h.rrf, fun b hb => ⟨.inl (h.ba b hb).1, (h.ba b hb).2⟩, fun r' b hb => ?_, fun r1 r2 b h1 h2 => ?_, fun b hb => hb.elim (h.bd b) fun hb => (hS b hb).1⟩
  · have e : r' ≠ r := fun e => by rw [e, hx] at hy; cases hy
    simp only [updO, if_neg e]
    exact h.own r' y hy
  · simp only [updO] at hb
    split at hb
    · exact ⟨.inr hb, ne b hb, fun e => (hS b hb).2 (h.ba b e).1⟩
    · have hb' := h.bo r' b hb
      exact ⟨.inl hb'.1, hb'.2.1, hb'.2.2⟩
  · simp only [updO] at h1 h2
    split at h1 <;> split at h2
    · rename_i e1 e2; rw [e1, e2]
    · exact absurd (h.bo _ _ h2).1 (hS b h1).2
    · exact absurd (h.bo _ _ h1).1 (hS b h2).2
    · exact h.oo _ _ b h1 h2
def putT (F : List Fr) (id number weight : Int) : List Fr × Int :=
  if number < 1 ∨ number > 32 ∨ weight < 1 ∨ weight > 1000 then (F, 41)
  else match fget F id with
    | some _ => (F, 42)
    | none => if isR F number = true ∧ wF F number ≠ weight then (F, 22) else (F ++ [⟨id, number, weight, (0, 0, 0, 0), true⟩], 0)
theorem sum_put (h0 : f.s = (0, 0, 0, 0)) (r : Int) : sumF (F ++ [f]) r = sumF F r := by
  unfold sumF
  simp only [agF_put, h0, ite_self, Int.add_zero]
theorem sum_none {F : List Fr} {r : Int} (h : ¬ isR F r = true) : sumF F r = (0, 0, 0, 0) ∧ cntF F r = 0 := by
  have e : ∀ φ : Fr → Int, agF φ r F = 0 := fun φ => by
    induction F with
    | nil => rfl
    | cons x F ih =>
      rw [isR_iff] at h
      rw [agF, if_neg (fun hh => h ⟨x, List.mem_cons_self .., hh⟩), ih (fun hh => by
        obtain ⟨y, hy, e⟩ := isR_iff.1 hh
        exact h ⟨y, List.mem_cons_of_mem _ hy, e⟩)]
      rfl
  unfold sumF cntF
  simp [e]
/-- Behind the last steps of Put: a framework that is in the maps, but asleep, is woken. -/
theorem put_end (hX : FOk F) (hT : sm4 T) (hf0 : fget F f.fid = none) (hrng : 1 ≤ f.role ∧ f.role ≤ 32) (hww : 1 ≤ f.w ∧ f.w ≤ 1000) (hw : isR F f.role = true → wF F f.role = f.w) (h0 : f.s = (0, 0, 0, 0)) (haw : f.aw = true) (hl : F.length ≤ 1000) (hr : RM F mr) (hm : FM F mf)
    (h : Ti W B g p T T (fun _ => T) ma mo (mset f.role (gr, cntF F f.role) mr) (mset f.fid (f.role, false) mf)) (hla : ma.length < 100000) (hlo : (mo f.role).length < 100000)
    (hma : ∀ k, mget k ma = if k = f.role then some ⟨f.w, sumF F f.role, a⟩ else mget k (allL F)) (hmo : ∀ r, isR (F ++ [f]) r = true → ∀ k, mget k (mo r) = mget k (ownL (F ++ [f]) r)) :
    RetF Tryz.prog 21 #[.pointer (pt g), .int .i64 f.fid, .bool true] W B fun v W' => v = .int .i64 0 ∧ TiX W' (fun b => B b ∨ W.heap.size ≤ b) g T (F ++ [f]) := by
  have hc := cnt_range f.role F
  have hok := hX.put hf0 hrng hww hw h0
  have hx : mget f.fid (mset f.fid (f.role, false) mf) = some (f.role, false) := mget_mset_self ..
  have hy : mget f.role (mset f.role (gr, cntF F f.role) mr) = some (gr, cntF F f.role) := mget_mset_self ..
  have hisr : isR (F ++ [f]) f.role = true := by rw [isR_put]; simp
  have hkW : kW true false (cntF F f.role) = cntF F f.role + 1 := rfl
  have hof : mget f.fid (mo f.role) = some (clF f) := by rw [hmo _ hisr, own_put hX.nd hf0, if_pos ⟨rfl, rfl⟩]
  refine RetF.mono' (c21 h hx hy (by omega) hla hlo true) (fun _ hb => hb) fun v W' hq => ?_
  obtain ⟨hv, hq⟩ := hq
  subst hv
  have e1 : turnD ma f.role (wakeF (decide (kW true false (cntF F f.role) > 0))) = (mset f.role ⟨f.w, sumF F f.role, true⟩ ma, 0) := by
    unfold turnD
    rw [hma, if_pos rfl, hkW, decide_eq_true (by omega)]
    rfl
  have e2 : turnD (mo f.role) f.fid (wakeF true) = (mset f.fid (clF f) (mo f.role), 0) := by
    unfold turnD
    rw [hof]
    unfold wakeF clF
    simp [haw]
  rw [e1, e2, hkW] at hq
  refine ⟨by rw [e1], TiX.of hok hT hq (fun k => ?_) (fun r hr' k => ?_) (fun r => ?_) (fun k => ?_)⟩
  · rw [all_put hrng hw]
    by_cases ek : k = f.role
    · rw [ek, mget_mset_self, if_pos rfl]
      unfold rcl
      rw [wF_put hw, if_pos rfl, sum_put h0]
      have : cntF (F ++ [f]) f.role = cntF F f.role + 1 := by
        unfold cntF
        rw [agF_put, if_pos rfl]
        unfold one1
        rw [haw]
        rfl
      rw [this, decide_eq_true (by omega)]
    · rw [mget_mset_ne _ ek, hma, if_neg ek, if_neg ek]
  · unfold updO
    by_cases er : r = f.role
    · rw [if_pos er, er]
      by_cases ek : k = f.fid
      · rw [ek, mget_mset_self, own_put hX.nd hf0, if_pos ⟨rfl, rfl⟩]
      · rw [mget_mset_ne _ ek, hmo _ hisr]
    · rw [if_neg er, hmo r hr']
  · have hput : cntF (F ++ [f]) r = cntF F r + if f.role = r then 1 else 0 := by
      unfold cntF
      rw [agF_put]
      have : one1 f = 1 := by unfold one1; rw [haw]; rfl
      rw [this]
    rw [isR_put, hput]
    by_cases er : r = f.role
    · rw [er, mget_mset_self, if_pos rfl]
      simp
    · have hne : ¬ f.role = r := fun hh => er hh.symm
      rw [mget_mset_ne _ er, mget_mset_ne _ er, hr r, if_neg hne, Int.add_zero, decide_eq_false hne, Bool.or_false]
  · rw [fget_append]
    by_cases ek : k = f.fid
    · rw [ek, mget_mset_self, hf0, Option.none_or, if_pos rfl, Option.map_some, haw]
    · rw [mget_mset_ne _ ek, mget_mset_ne _ ek, hm k, if_neg (fun hh : f.fid = k => ek hh.symm), Option.or_none]
end Go.Vc.SZ

/- Tiers: Put. -/
set_option maxRecDepth 20000
set_option maxHeartbeats 1000000
set_option linter.unusedVariables false
namespace Go.Vc.SZ
open Go Go.Vc Go.RowKit Go.Proofs Go.Vc.T Vcz

variable {w W W' W1 : World} {M N B B0 B' S : Nat → Prop} {gs ds : List Nat} {g gr : Nat} {p : TiP} {T Tg Ta n s T' : Ar4} {To : Int → Ar4} {ma ma' m m' : List (Int × Cl)} {mo mo' : MO} {mr mr' : MR} {mf mf' : MF} {id r k : Int} {a : Bool} {F : List Fr} {f : Fr} {h : Fr → Fr}

theorem heavy1 {x : Int} (h : 1 ≤ x ∧ x ≤ 1000) : heavy x = false := by unfold heavy; exact decide_eq_false (by omega)
/-- The steps behind the sorters': both maps are written, the framework is woken. -/
theorem put_maps {R : Ending → World → Prop} {w0 : World} (hX : FOk F) (hT : sm4 T) (hf0 : fget F f.fid = none) (hrng : 1 ≤ f.role ∧ f.role ≤ 32) (hww : 1 ≤ f.w ∧ f.w ≤ 1000) (hw : isR F f.role = true → wF F f.role = f.w) (h0 : f.s = (0, 0, 0, 0)) (haw : f.aw = true) (hl : F.length ≤ 1000) (hr : RM F mr) (hm : FM F mf)
    (hR : ∀ v w', Chg B0 w0 w' → (v = .int .i64 0 ∧ TiX w' (fun b => B0 b ∨ w0.heap.size ≤ b) g T (F ++ [f])) → R (.returned v) w')
    (hA : AtF w0 B0 gs W) (hs : ∀ b, B b → B0 b ∨ w0.heap.size ≤ b) (hg : ∀ y ∈ gs, ¬ B y)
    (h : Ti W B g p T T (fun _ => T) ma mo mr mf) (hSo : SoX W (p.Bo f.role) gr T (mo f.role)) (hla : ma.length < 100000) (hlo : (mo f.role).length < 100000)
    (hma : ∀ k, mget k ma = if k = f.role then some ⟨f.w, sumF F f.role, a⟩ else mget k (allL F)) (hmo : ∀ r, isR (F ++ [f]) r = true → ∀ k, mget k (mo r) = mget k (ownL (F ++ [f]) r)) :
    OpW Tryz.prog (skipS (Instr.mapUpdate 41 (.map (some p.rr)) (.int .i64 f.role) (.agg #[.pointer (pt gr), .int .i64 (cntF F f.role)]))) W fun _ w46 => Keeps gs W w46 ∧ ∃ ad47, pt g = some ad47 ∧ ∃ r48, Reads Tryz.prog [] (Instr.loadAt 42 (.pointer (some (Addr.mk ad47.block (ad47.off + 6) none)))) w46 (.map r48) ∧
      OpW Tryz.prog (skipS (Instr.mapUpdate 42 (.map r48) (.int .i64 f.fid) (.agg #[.int .i64 f.role, .bool false]))) w46 fun _ w50 => Keeps gs w46 w50 ∧
        Calls Tryz.prog 21 #[.pointer (pt g), .int .i64 f.fid, .bool true] w50 fun e51 w52 => ∃ x53 : Int, e51 = .returned (.int .i64 x53) ∧ Keeps gs w50 w52 ∧ R (.returned (.int .i64 x53)) w52 := by
  refine opw_mapUpdate (kf := Value.int .i64) (vf := vR) (k := f.role) (v := (gr, cntF F f.role)) (kt := 3) (et := 88) KI3 t125 hA (h.rmA hs hg) fun w46 hA hk hch hM => ⟨hk, ?_⟩
  have h46 := h.setK hch hM hSo
  refine ⟨_, rfl, _, h46.rdF nod, ?_⟩
  refine opw_mapUpdate (kf := Value.int .i64) (vf := vF) (k := f.fid) (v := ((f.role, false) : Int × Bool)) (kt := 2) (et := 90) KI2 t126 hA (h46.fmA hs hg) fun w50 hA hk hch hM => ⟨hk, ?_⟩
  have h50 := h46.sF hch hM (mset_nodup h46.nf)
  have hsz := hA.size
  refine at_callF hA (put_end hX hT hf0 hrng hww hw h0 haw hl hr hm h50 hla hlo hma hmo) (fun b _ hb => (hs b hb).symm) hg fun v w52 hA hk _ hq => ?_
  obtain ⟨hv, hq⟩ := hq
  subst hv
  refine ⟨_, rfl, hk, hR _ _ hA.chg ⟨rfl, hq.mono fun b _ hb => ?_⟩⟩
  rcases hb with hb | hb
  · exact hs b hb
  · exact .inr (by omega)
theorem c19x (h : TiX W B g T F) (hl : F.length ≤ 1000) (id number weight : Int) : RetF Tryz.prog 19 #[.pointer (pt g), .int .i64 id, .int .i64 number, .int .i64 weight] W B (TxQ W B g T (putT F id number weight)) := by
  obtain ⟨B', p, mr, mf, hsub, hT, hr, hm⟩ := h.ex
  intro R hR
  refine f19_calls _ _ _ _ W R ?_
  unfold f19_vc
  have hA : AtF W B [] W := AtF.refl W B
  have up : ∀ {W'}, Bel W W' → TiX W' (fun b => B b ∨ W.heap.size ≤ b) g T F := fun hb => (h.call hb).mono fun b _ hb => .inl hb
  refine at_callb hA (c33t hT) fun w2 hA hk hb2 => ⟨_, rfl, brB (fun e => by cases e) (fun _ => ?_)⟩
  unfold putT at hR
  have bad : (number < 1 ∨ number > 32 ∨ weight < 1 ∨ weight > 1000) → R (.returned (.int .i64 41)) w2 := fun hb => by
    rw [if_pos hb] at hR
    exact leafF hR hA ⟨rfl, up hb2⟩
  refine brD (fun h1 => bad (.inl h1)) (fun h1 => brD (fun h2 => bad (.inr (.inl h2))) (fun h2 => brD (fun h3 => bad (.inr (.inr (.inl h3)))) (fun h3 => brD (fun h4 => bad (.inr (.inr (.inr h4)))) (fun h4 => ?_))))
  rw [if_neg (fun hh => by rcases hh with hh | hh | hh | hh <;> contradiction)] at hR
  have hrng : 1 ≤ number ∧ number ≤ 32 := by omega
  have hww : 1 ≤ weight ∧ weight ≤ 1000 := by omega
  have hT2 := hT.call hb2
  have hlF := hT2.lkF id (ds := []) (by simp)
  have hlt2 := hT2.lt
  have hsz2 := hA.size
  cases e : fget F id with
  | some f0 =>
    rw [hm.of e] at hlF
    rw [e] at hR
    refine ⟨_, rfl, _, hT2.rdF nod, f0.role, f0.aw, true, hlF, fun n9 hn9 => brB (fun _ w10 he hu => ?_) (fun e => by cases e)⟩
    have hA := hA.evo (gs' := [n9]) (by simp; omega) he hu
    refine leafF hR hA ⟨rfl, up (hb2.trans (he.bel (by simpa using hn9)))⟩
  | none =>
    rw [show mget id mf = none by rw [hm, e]; rfl] at hlF
    rw [e] at hR
    refine ⟨_, rfl, _, hT2.rdF nod, 0, false, false, hlF, fun n9 hn9 => brB (fun e => by cases e) (fun _ => ?_)⟩
    have hs0 : ∀ b, B' b → B b ∨ W.heap.size ≤ b := fun b hb => .inl (hsub b hb)
    have far : ∀ d, w2.heap.size ≤ d → ¬ B' d := fun d hd hb => by have := hT2.bd d hb; omega
    have hlR := hT2.lkR2 number (ds := [n9]) (by simp; omega)
    have main : ∀ {ptr : Option Addr} {k : Int} {there : Bool}, lookV2 vR (.agg #[.pointer none, .int .i64 0]) (mget number mr) = .tuple #[.agg #[.pointer ptr, .int .i64 k], .bool there] → (there = isR F number) → (there = true → ∃ gr, ptr = pt gr ∧ mget number mr = some (gr, cntF F number) ∧ k = cntF F number) → (there = false → mget number mr = none ∧ k = 0) → ∃ a13 x14 b15, Reads Tryz.prog [n9] (Instr.lookup 41 (.map (some p.rr)) (.int .i64 number) true) w2 (.tuple #[.agg #[.pointer a13, .int .i64 x14], .bool b15]) ∧ a13 = ptr ∧ x14 = k ∧ b15 = there := fun e _ _ _ => by
      rw [e] at hlR
      exact ⟨_, _, _, hlR, rfl, rfl, rfl⟩
    clear main
    refine ⟨_, rfl, _, hT2.rdR (by simp; omega), ?_⟩
    have hwg : ∀ {W'}, Bel w2 W' → Ret Tryz.prog 35 #[.pointer (pt g), .int .i64 number] W' (wgtV (mget number (allL F))) := fun hb => c35 (hT2.call hb) number
    by_cases hi : isR F number = true
    · -- the role is there
      have hmr := hr number
      rw [if_pos hi] at hmr
      obtain ⟨gr, hy⟩ : ∃ gr, mget number mr = some (gr, cntF F number) := by
        cases e2 : mget number mr with
        | none => rw [e2] at hmr; cases hmr
        | some x =>
          rw [e2] at hmr
          simp only [Option.map_some, Option.some.injEq] at hmr
          exact ⟨x.1, by rw [← hmr]⟩
      rw [hy] at hlR
      have hall : mget number (allL F) = some (rcl F number) := by rw [all_get, if_pos ⟨hrng, hi⟩]
      rw [hall] at hwg
      refine ⟨pt gr, cntF F number, true, hlR, fun n16 hn16 w17 he hu => ?_⟩
      have hA := hA.evo (gs' := [n9, n16]) (by simp; omega) he hu
      have hb17 := he.bel (by simp; omega)
      refine at_callb hA (hwg hb17) fun w19 hA hk hb19 => ⟨_, _, rfl, hk, brB (fun _ => ?_) (fun e => by cases e)⟩
      have hT19 := (hT2.call hb17).call hb19
      refine brN (fun hne => ?_) (fun heq => brB (fun e => by cases e) (fun _ => ?_))
      · simp only at hR
        rw [if_pos ⟨hi, hne⟩] at hR
        exact leafF hR hA ⟨rfl, up ((hb2.trans hb17).trans hb19)⟩
      have heq : wF F number = weight := heq
      simp only at hR
      rw [if_neg (fun hh => hh.2 heq)] at hR
      have hg2 : ∀ y ∈ [n9, n16], ¬ B' y := fun y hy => by
        simp at hy
        rcases hy with rfl | rfl
        · exact far _ hn9
        · exact far _ hn16
      have hown : mget id (ownL F number) = none := by rw [own_get h.ok.nd, e]; rfl
      have eo : putD (ownL F number) id 1 = (mset id ⟨1, (0, 0, 0, 0), true⟩ (ownL F number), 0) := by
        unfold putD
        rw [heavy1 (by omega), hown]
        rfl
      have hol := own_len F number
      have hal := all_len F
      refine at_own (q := putD (ownL F number) id 1) hA hs0 hT19 hy (c36 (hT19.own _ _ hy) (by omega) id 1) hg2 fun w55 B2 p2 hA hk hs2 hg2' h55 => ⟨_, rfl, hk, _, rfl, _, h55.rdR nod, fun w59 hb59 hu59 => ?_⟩
      rw [eo] at h55
      have hA : AtF W B [n9, n16] w59 := ⟨(hA.call hb59).chg, hu59⟩
      have h59 := h55.call hb59
      have hmo : updO (ownL F) number (mset id ⟨1, (0, 0, 0, 0), true⟩ (ownL F number)) number = mset id ⟨1, (0, 0, 0, 0), true⟩ (ownL F number) := if_pos rfl
      refine put_maps (f := ⟨id, number, weight, (0, 0, 0, 0), true⟩) (a := decide (0 < cntF F number)) h.ok h.sT e hrng hww (fun _ => heq) rfl rfl hl hr hm hR hA hs2 hg2' h59 (h59.own _ _ hy) (by omega) ?_ (fun k => ?_) (fun r hr' k => ?_)
      · show (updO (ownL F) number (mset id ⟨1, (0, 0, 0, 0), true⟩ (ownL F number)) number).length < 100000
        rw [hmo, mset_length]
        split <;> omega
      · show mget k (allL F) = if k = number then some ⟨weight, sumF F number, decide (0 < cntF F number)⟩ else mget k (allL F)
        by_cases ek : k = number
        · rw [if_pos ek, ek, hall]
          unfold rcl
          rw [heq]
        · rw [if_neg ek]
      · rw [own_put h.ok.nd e]
        show mget k (updO (ownL F) number (mset id ⟨1, (0, 0, 0, 0), true⟩ (ownL F number)) r) = if k = id ∧ r = number then some ⟨1, (0, 0, 0, 0), true⟩ else mget k (ownL F r)
        unfold updO
        by_cases er : r = number
        · rw [if_pos er, er]
          by_cases ek : k = id
          · rw [ek, mget_mset_self, if_pos ⟨rfl, rfl⟩]
          · rw [mget_mset_ne _ ek, if_neg (fun hh => ek hh.1)]
        · rw [if_neg er, if_neg (fun hh => er hh.2)]
    · -- the role is new
      have hmr := hr number
      rw [if_neg hi] at hmr
      have hy : mget number mr = none := by
        cases e2 : mget number mr with
        | none => rfl
        | some x => rw [e2] at hmr; cases hmr
      rw [hy] at hlR
      have hall : mget number (allL F) = none := by rw [all_get, if_neg (fun hh => hi hh.2)]
      rw [hall] at hwg
      refine ⟨none, 0, false, hlR, fun n16 hn16 w17 he hu => ?_⟩
      have hA := hA.evo (gs' := [n9, n16]) (by simp; omega) he hu
      have hb17 := he.bel (by simp; omega)
      refine at_callb hA (hwg hb17) fun w19 hA hk hb19 => ⟨_, _, rfl, hk, brB (fun e => by cases e) (fun _ => brB (fun _ => ?_) (fun e => by cases e))⟩
      have hT19 := (hT2.call hb17).call hb19
      simp only at hR
      rw [if_neg (fun hh => hi hh.1)] at hR
      have hg2 : ∀ y ∈ [n9, n16], ¬ B' y := fun y hy => by
        simp at hy
        rcases hy with rfl | rfl
        · exact far _ hn9
        · exact far _ hn16
      have hbd : ∀ b, B' b → b < w19.heap.size := hT19.bd
      have hu19 : ∀ y ∈ [n9, n16], y < w19.heap.size := hA.under
      have hsz19 := hA.size
      refine at_callq hA (c10 w19) fun v w70 hA hk hb70 ⟨gr, hv, hS⟩ => ?_
      subst hv
      have hT70 := hT19.call hb70
      have hS : SoX w70 (fun b => w19.heap.size ≤ b ∧ b < w70.heap.size) gr (0, 0, 0, 0) [] := hS.mono fun b hl hb => ⟨hb, hl⟩
      have ng : ∀ d ∈ [n16], d ≠ g := fun d hd e => by
        simp at hd
        subst hd
        subst e
        exact hg2 _ (by simp) hT70.bg.1
      refine ⟨_, rfl, hk, _, rfl, T.1, T.2.1, T.2.2.1, T.2.2.2, ?_, fun w77 he hu => ?_⟩
      · have el := elt_cells hT70.tb
        have el4 : Elt w70 ⟨g, 0, none⟩ [.int .i64 T.1, .int .i64 T.2.1, .int .i64 T.2.2.1, .int .i64 T.2.2.2] := fun j v hv => el j v (by
          have hj := (List.getElem?_eq_some_iff.1 hv).1
          simp at hj
          have : j = 0 ∨ j = 1 ∨ j = 2 ∨ j = 3 := by omega
          rcases this with rfl | rfl | rfl | rfl <;> simpa using hv)
        exact el4.agg 4 (by kernel_rfl) (by kernel_rfl) (by simp) ng
      have hA := hA.evo (gs' := [n9, n16]) (by simp; omega) he hu
      have hT77 := hT70.evo he (fun d hd => hg2 d (by simp at hd; simp [hd]))
      have hS77 := hS.evo he (fun d hd hb => by
        have := hu19 d (by simp at hd; simp [hd])
        have := hb.1
        omega)
      have hs77 : w70.heap.size ≤ w77.heap.size := he.size
      refine at_callF hA (c34 T hS77 (by simp)) (fun b _ hb => .inl (Nat.le_trans hsz19 hb.1)) (fun y hy hb => by have := hu19 y hy; have := hb.1; omega) fun v w79 hA hk hch79 hq => ?_
      rw [if_pos h.sT] at hq
      obtain ⟨hv, hS79⟩ := hq
      subst hv
      have hT79 := hT77.chg hch79 fun b hb hx => by have := hbd b hb; have := hx.1; omega
      have hS79 : SoX w79 (fun b => w19.heap.size ≤ b ∧ b < w79.heap.size) gr T [] := hS79.mono fun b hl hb => ⟨hb.elim (fun e => e.1) fun e => by have := hb70.size; omega, hl⟩
      refine ⟨_, rfl, hk, _, rfl, _, hT79.rdA nod, ?_⟩
      have hal := all_len F
      have ea : putD (allL F) number weight = (mset number ⟨weight, (0, 0, 0, 0), true⟩ (allL F), 0) := by
        unfold putD
        rw [heavy1 hww, hall]
        rfl
      refine at_callF hA (c36 hT79.all (by omega) number weight) (fun b _ hb => (hs0 b (hT79.ba b hb).1).symm) (fun y hy hb => hg2 y hy (hT79.ba y hb).1) fun v w84 hA hk hch84 hq => ?_
      obtain ⟨hv, hq⟩ := hq
      subst hv
      rw [ea] at hq
      have h84 := hT79.sAll hch84 hq
      have hs79 : w19.heap.size ≤ w79.heap.size := Nat.le_trans hb70.size (Nat.le_trans hs77 hch79.size)
      have hS84 := hS79.chg hch84 fun b hb _ hx => by have := hbd b (hT79.ba b hx).1; have := hb.1; omega
      have hub : ∀ b, upB B' w79 w84 b → ¬ (w19.heap.size ≤ b ∧ b < w79.heap.size) := fun b hb hx => by
        rcases hb.1 with h1 | h1
        · have := hbd b h1; omega
        · omega
      refine ⟨_, rfl, hk, ?_⟩
      refine at_callF hA (c36 hS84 (by simp) id 1) (fun b _ hb => .inl (Nat.le_trans hsz19 hb.1)) (fun y hy hb => by have := hu19 y hy; have := hb.1; omega) fun v w87 hA hk hch87 hq => ?_
      obtain ⟨hv, hq⟩ := hq
      subst hv
      have eo : putD [] id 1 = (mset id ⟨1, (0, 0, 0, 0), true⟩ [], 0) := by
        unfold putD
        rw [heavy1 (by omega)]
        rfl
      rw [eo] at hq
      have h87 := h84.chg hch87 hub
      have hS87 : SoX w87 (fun b => ((w19.heap.size ≤ b ∧ b < w79.heap.size) ∨ w84.heap.size ≤ b) ∧ b < w87.heap.size) gr T (mset id ⟨1, (0, 0, 0, 0), true⟩ []) := hq.mono fun b hl hb => ⟨hb, hl⟩
      have hadd := h87.addO (r := number) (S := fun b => ((w19.heap.size ≤ b ∧ b < w79.heap.size) ∨ w84.heap.size ≤ b) ∧ b < w87.heap.size) (T' := T) (m' := mset id ⟨1, (0, 0, 0, 0), true⟩ []) hy fun b hb => ⟨hb.2, fun hx => by
        rcases hb.1 with h1 | h1
        · exact hub b hx h1
        · have := hx.2; omega⟩
      rw [show updO (fun _ : Int => T) number T = fun _ => T from updO_self (fun _ => T) number] at hadd
      refine ⟨_, rfl, hk, _, rfl, _, hadd.rdR nod, fun w91 hb91 hu91 => ?_⟩
      have hA : AtF W B [n9, n16] w91 := ⟨(hA.call hb91).chg, hu91⟩
      have h91 := hadd.call hb91
      have hsn := sum_none hi
      have hcnt : (0 : Int) = cntF F number := hsn.2.symm
      have hmo : updO (ownL F) number (mset id ⟨1, (0, 0, 0, 0), true⟩ []) number = mset id ⟨1, (0, 0, 0, 0), true⟩ [] := if_pos rfl
      have hfin := put_maps (f := ⟨id, number, weight, (0, 0, 0, 0), true⟩) (a := true) (gr := gr) h.ok h.sT e hrng hww (fun hh => absurd hh hi) rfl rfl hl hr hm hR hA (gs := [n9, n16]) (fun b hb => ?_) (fun y hy hb => ?_) h91 ?_ ?_ ?_ (fun k => ?_) (fun r hr' k => ?_)
      · rw [← hcnt] at hfin
        exact hfin
      · rcases hb with (⟨hb | hb, _⟩ | ⟨⟨hb, _⟩ | hb, _⟩)
        · exact hs0 b hb
        · exact .inr (by omega)
        · exact .inr (by omega)
        · exact .inr (by have := hch84.size; omega)
      · have hy19 := hu19 y hy
        rcases hb with (⟨hb | hb, _⟩ | ⟨⟨hb, _⟩ | hb, _⟩)
        · exact hg2 y hy hb
        · omega
        · omega
        · have := hch84.size; omega
      · show SoX w91 (updO _ number _ number) gr T (updO _ number _ number)
        rw [updO, if_pos rfl, hmo]
        exact hS87.call hb91
      · rw [mset_length]
        split <;> omega
      · show (updO (ownL F) number (mset id ⟨1, (0, 0, 0, 0), true⟩ []) number).length < 100000
        rw [hmo]
        simp [mset]
      · show mget k (mset number ⟨weight, (0, 0, 0, 0), true⟩ (allL F)) = if k = number then some ⟨weight, sumF F number, true⟩ else mget k (allL F)
        by_cases ek : k = number
        · rw [if_pos ek, ek, mget_mset_self, hsn.1]
        · rw [if_neg ek, mget_mset_ne _ ek]
      · rw [own_put h.ok.nd e]
        show mget k (updO (ownL F) number (mset id ⟨1, (0, 0, 0, 0), true⟩ []) r) = if k = id ∧ r = number then some ⟨1, (0, 0, 0, 0), true⟩ else mget k (ownL F r)
        unfold updO
        by_cases er : r = number
        · rw [if_pos er, er]
          by_cases ek : k = id
          · rw [ek, mget_mset_self, if_pos ⟨rfl, rfl⟩]
          · rw [mget_mset_ne _ ek, if_neg (fun hh => ek hh.1)]
            have hne : ownL F number = [] := by
              have := fun hh => hi ((own_isR F number).2 hh)
              exact List.eq_nil_of_length_eq_zero (Classical.not_not.1 this)
            rw [hne]
        · rw [if_neg er, if_neg (fun hh => er hh.2)]
end Go.Vc.SZ

/- Tiers: Total. -/
set_option maxRecDepth 20000
set_option maxHeartbeats 1000000
set_option linter.unusedVariables false
namespace Go.Vc.SZ
open Go Go.Vc Go.RowKit Go.Proofs Go.Vc.T Vcz

variable {w W W' W1 : World} {M N B B0 B' S : Nat → Prop} {gs ds : List Nat} {g gr : Nat} {p : TiP} {T Tg Ta n s T' : Ar4} {To To' : Int → Ar4} {ma ma' m m' : List (Int × Cl)} {mo mo' : MO} {mr mr' : MR} {mf mf' : MF} {id r k : Int} {a : Bool} {F : List Fr} {f : Fr} {h : Fr → Fr}

theorem Ti.toC (h : Ti W B g p Tg Ta To ma mo mr mf) (hc : ∀ r x, mget r mr = some x → To r = To' r) : Ti W B g p Tg Ta To' ma mo mr mf :=
  ⟨h.tb, h.all, h.rm, h.fm, h.nr, h.nf, fun r x hx => hc r x hx ▸ h.own r x hx, h.bg, h.rrf, h.ba, h.bo, h.oo, h.bd⟩
theorem c18x (h : TiX W B g T F) (hl : F.length ≤ 1000) (n : Ar4) : RetF Tryz.prog 18 #[.pointer (pt g), arT n] W B fun v W' => if sm4 n then v = .int .i64 0 ∧ TiX W' (fun b => B b ∨ W.heap.size ≤ b) g n F else v = .int .i64 41 ∧ TiX W' (fun b => B b ∨ W.heap.size ≤ b) g T F := by
  obtain ⟨B', p, mr, mf, hsub, hT, hr, hm⟩ := h.ex
  intro R hR
  refine f18_calls _ _ _ _ _ W R ?_
  unfold f18_vc
  intro n1 hn1 w2 hb2 hu2
  have hA : AtF W B [n1] w2 := ⟨((AtF.refl W B).call hb2).chg, hu2⟩
  have hT2 := hT.call hb2
  have hal := all_len F
  have hs0 : ∀ b, B' b → B b ∨ W.heap.size ≤ b := fun b hb => .inl (hsub b hb)
  have hg0 : ∀ y ∈ [n1], ¬ B' y := fun y hy hb => by
    have := hT.bd y hb
    simp at hy
    omega
  refine at_callb hA (c33t hT2) fun w4 hA hk hb4 => ⟨_, rfl, hk, brB (fun e => by cases e) (fun _ => ?_)⟩
  have hT4 := hT2.call hb4
  refine ⟨_, rfl, _, hT4.rdA nod, fun w8 hb8 hu8 => ?_⟩
  have hA : AtF W B [n1] w8 := ⟨(hA.call hb8).chg, hu8⟩
  have hT8 := hT4.call hb8
  refine at_callF hA (c34 n hT8.all (by omega)) (fun b _ hb => (hs0 b (hT8.ba b hb).1).symm) (fun y hy hb => hg0 y hy (hT8.ba y hb).1) fun v w10 hA10 hk hch hq => ?_
  by_cases hsm : sm4 n
  · rw [if_pos hsm] at hq
    obtain ⟨hv, hq⟩ := hq
    subst hv
    refine ⟨_, rfl, hk, brE (fun _ => ?_) (fun e => absurd rfl e)⟩
    have h10 := hT8.sAll hch hq
    have hs1 := sub_up (W' := w10) hA hs0
    have hg1 := gs_up (W' := w10) hA hg0
    have bg := h10.bg
    refine ⟨_, rfl, ?_⟩
    refine opw_storeF (cells' := tiC n { p with Ba := upB p.Ba w8 w10 }) hA10 h10.tb ((hs1 _ bg.1).symm) (fun hm => hg1 _ hm bg.1) (by kernel_rfl) fun w14 hA14 hk hch14 hgb => ⟨hk, ?_⟩
    have h14 := h10.sT hch14 hgb
    refine ⟨_, rfl, _, h14.rdR nod, ?_⟩
    refine opw_range (kf := Value.int .i64) (vf := vR) (t := 41) (kt := 3) (et := 88) t125 hA14 h14.rm fun q w18 hq18 hA18 hk hb18 hi => ⟨_, rfl, hk, ?_⟩
    have h18 := h14.call hb18
    have hqB : ¬ upB B' w8 w10 q := fun hb => by have := h14.bd q hb; omega
    refine ⟨fun _ W' => AtF W B [n1] W' ∧ ∃ (B2 : Nat → Prop) (Bo : Int → Nat → Prop) (rest : MR) (cur : Option (Int × (Nat × Int))) (To : Int → Ar4), (∀ b, B2 b → B b ∨ W.heap.size ≤ b) ∧ (∀ y ∈ [n1], ¬ B2 y) ∧ ¬ B2 q ∧ q < W'.heap.size ∧ Ti W' B2 g ⟨p.ga, p.rr, p.rf, upB p.Ba w8 w10, Bo⟩ n n To (allL F) (ownL F) mr mf ∧ Itr W B [n1] W' q p.rr (Value.int .i64) vR mr rest cur ∧ (∀ y ∈ rest, y ∈ mr) ∧ ∀ r x, mget r mr = some x → (r, x) ∈ rest ∨ To r = n, fun _ W' => itLeft W' q p.rr, ?_, ?_⟩
    · exact ⟨hA18, _, p.Bo, mr, none, _, hs1, hg1, hqB, hi.lts.1, h18, hi, fun _ hy => hy, fun r x hx => .inl (mem_of_mget hx)⟩
    rintro w22 ⟨hA, B2, Bo, rest, cur, To, hs2, hg2, hq2, hql, hT2, hi, hin, hrest⟩
    have hleft := hi.left
    refine opw_next hA hi (fun hr0 => ⟨.inl rfl, fun _ => ⟨fun _ _ => rfl, ?_⟩, fun _ _ _ e => by simp at e⟩) fun x ra rb w24 hrr hA hk hch hi => ⟨.inr ⟨(x.1, ((pt x.2.1, (x.2.2, ())), ())), rfl⟩, fun e => by simp at e, fun _ _ _ _ => ⟨hk, ?_⟩⟩
    · subst hr0
      refine hR _ w22 hA.chg ?_
      show if sm4 n then _ else _
      rw [if_pos hsm]
      exact ⟨rfl, TiX.same h.ok hsm hr hm ⟨B2, _, hs2, hT2.toC fun r x hx => (hrest r x hx).elim (fun e => by cases e) fun e => e⟩⟩
    · have hT24 := hT2.chg hch fun b hb e => hq2 (e ▸ hb)
      refine opw_entry hi ⟨_, _, _, rfl, fun _ _ => rfl, fun n33 hn33 w34 he hu => ?_⟩
      have hsz := hA.size
      have hlt := hi.lts
      have hb34 := he.bel (by simpa using hn33)
      have hA := hA.evo (gs' := [n1, n33]) (by simp; omega) he hu
      have hT34 := hT24.call hb34
      have hi := hi.call hb34
      have hg3 : ∀ y ∈ [n1, n33], ¬ B2 y := fun y hy hb => by
        simp at hy
        rcases hy with rfl | rfl
        · exact hg2 _ (by simp) hb
        · have := hT24.bd _ hb; omega
      -- the entry at hand is one of the map's
      have hxm : mget x.1 mr = some x.2 := by
        have hx : (x.1, x.2) ∈ mr := hin x (by rw [hrr]; simp)
        exact mget_of_mem hT34.nr hx
      have hol := own_len F x.1
      refine at_callF hA (c34 n (hT34.own _ _ hxm) (by omega)) (fun b _ hb => (hs2 b (hT34.bo _ b hb).1).symm) (fun y hy hb => hg3 y hy (hT34.bo _ y hb).1) fun v w36 hA36 hk hch36 hq => ?_
      rw [if_pos hsm] at hq
      obtain ⟨hv, hq⟩ := hq
      subst hv
      have h36 := hT34.sOwn hxm hch36 hq
      rw [show (fun r' => if r' = x.1 then ownL F x.1 else ownL F r') = ownL F from updO_self (ownL F) x.1] at h36
      have hqo : ¬ Bo x.1 q := fun hb => hq2 (hT34.bo _ q hb).1
      have hro : ¬ Bo x.1 p.rr := fun hb => (hT34.bo _ p.rr hb).2.1 (.inr (.inl rfl))
      have hi := hi.chg hch36 hqo hro
      refine ⟨_, rfl, hk, ⟨⟨hA36.chg, fun y hy => hA36.under y (by simp at hy; simp [hy])⟩, _, _, ra ++ rb, some x, _, sub_up hA hs2, fun y hy => gs_up (W' := w36) hA hg3 y (by simp at hy; simp [hy]), ?_, hi.lts.1, h36, ?_, ?_⟩, ?_⟩
      · rintro ⟨hb | hb, _⟩
        · exact hq2 hb
        · have := hb34.size
          have := hch.size
          omega
      · exact ⟨hi.mine, (fun hm => hi.apart hm), hi.obj⟩
      · refine ⟨fun y hy => hin y (by rw [hrr]; simp only [List.mem_append, List.mem_cons]; rcases List.mem_append.1 hy with h1 | h1 <;> simp [h1]), fun r y hy => ?_⟩
        by_cases e : r = x.1
        · exact .inr (if_pos e)
        · refine (hrest r y hy).imp (fun hin => ?_) (fun ht => by rw [← ht]; exact if_neg e)
          rw [hrr] at hin
          rcases List.mem_append.1 hin with h1 | h1
          · exact List.mem_append_left _ h1
          · rcases List.mem_cons.1 h1 with h2 | h2
            · exact absurd (congrArg Prod.fst h2) e
            · exact List.mem_append_right _ h2
      · show itLeft w36 q p.rr < itLeft w22 q p.rr
        rw [hi.left, hleft, hrr]
        simp
  · rw [if_neg hsm] at hq
    obtain ⟨hv, hq⟩ := hq
    subst hv
    have h10 := hT8.sAll hch hq
    refine ⟨_, rfl, hk, brE (fun e => by cases e) (fun _ => hR _ _ hA10.chg ?_)⟩
    show if sm4 n then _ else _
    rw [if_neg hsm]
    exact ⟨rfl, TiX.same h.ok h.sT hr hm ⟨_, _, sub_up hA hs0, h10⟩⟩
end Go.Vc.SZ

/- Tiers: New, Do, Role, Own. -/
set_option maxRecDepth 20000
set_option maxHeartbeats 1000000
set_option linter.unusedVariables false
namespace Go.Vc.SZ
open Go Go.Vc Go.RowKit Go.Proofs Go.Vc.T Vcz

variable {w W W' W1 : World} {M N B B0 B' S : Nat → Prop} {gs ds : List Nat} {g gr : Nat} {p : TiP} {T n s : Ar4} {id r k : Int} {F : List Fr} {f : Fr}

abbrev TA := Int × Int × Int × Int × Ar4
abbrev taV (a : TA) : Value := .agg #[.int .i64 a.1, .int .i64 a.2.1, .int .i64 a.2.2.1, .int .i64 a.2.2.2.1, .int .i64 a.2.2.2.2.1, .int .i64 a.2.2.2.2.2.1, .int .i64 a.2.2.2.2.2.2.1, .int .i64 a.2.2.2.2.2.2.2]
abbrev TS := Ar4 × List Fr
def doT (s : TS) (a : TA) : TS × Int :=
  if a.1 = 0 then (if sm4 a.2.2.2.2 then ((a.2.2.2.2, s.2), 0) else (s, 41))
  else if a.1 = 1 then ((s.1, (putT s.2 a.2.1 a.2.2.1 a.2.2.2.1).1), (putT s.2 a.2.1 a.2.2.1 a.2.2.2.1).2)
  else if a.1 = 2 then ((s.1, (dropT s.2 a.2.1).1), (dropT s.2 a.2.1).2)
  else if a.1 = 3 then ((s.1, (wakeT s.2 a.2.1 true).1), (wakeT s.2 a.2.1 true).2)
  else if a.1 = 4 then ((s.1, (wakeT s.2 a.2.1 false).1), (wakeT s.2 a.2.1 false).2)
  else if a.1 = 5 then ((s.1, (giveT s.2 a.2.1 a.2.2.2.2).1), (giveT s.2 a.2.1 a.2.2.2.2).2)
  else ((s.1, (takeT s.2 a.2.1 a.2.2.2.2).1), (takeT s.2 a.2.1 a.2.2.2.2).2)
theorem len_del (F : List Fr) (id : Int) : (delF F id).length ≤ F.length := List.length_filter_le ..
theorem doT_len (s : TS) (a : TA) : (doT s a).1.2.length ≤ s.2.length + 1 := by
  have h1 : (putT s.2 a.2.1 a.2.2.1 a.2.2.2.1).1.length ≤ s.2.length + 1 := by
    unfold putT
    split
    · exact Nat.le_succ _
    · split
      · exact Nat.le_succ _
      · split
        · exact Nat.le_succ _
        · simp
  have h2 : (dropT s.2 a.2.1).1.length ≤ s.2.length + 1 := by
    unfold dropT
    split
    · exact Nat.le_succ _
    · exact Nat.le_succ_of_le (len_del ..)
  have h3 : ∀ on, (wakeT s.2 a.2.1 on).1.length ≤ s.2.length + 1 := fun on => by
    unfold wakeT
    split
    · exact Nat.le_succ _
    · rw [len_upd]; exact Nat.le_succ _
  have h4 : (giveT s.2 a.2.1 a.2.2.2.2).1.length ≤ s.2.length + 1 := by
    unfold giveT
    split
    · exact Nat.le_succ _
    · split
      · exact Nat.le_succ _
      · split
        · rw [len_upd]; exact Nat.le_succ _
        · exact Nat.le_succ _
  have h5 : (takeT s.2 a.2.1 a.2.2.2.2).1.length ≤ s.2.length + 1 := by
    unfold takeT
    split
    · exact Nat.le_succ _
    · split
      · exact Nat.le_succ _
      · rw [len_upd]; exact Nat.le_succ _
  unfold doT
  split
  · split <;> exact Nat.le_succ _
  · split
    · exact h1
    · split
      · exact h2
      · split
        · exact h3 _
        · split
          · exact h3 _
          · split
            · exact h4
            · exact h5
theorem c6 (h : TiX W B g T F) (hl : F.length ≤ 1000) (a : TA) : RetF Tryz.prog 6 #[.pointer (pt g), taV a] W B (fun v W' => v = .int .i64 (doT (T, F) a).2 ∧ TiX W' (fun b => B b ∨ W.heap.size ≤ b) g (doT (T, F) a).1.1 (doT (T, F) a).1.2) := by
  intro R hR
  refine f6_calls _ _ _ _ _ _ _ _ _ W R ?_
  unfold f6_vc
  unfold doT at hR
  have hA : AtF W B [] W := AtF.refl W B
  have h' : TiX W (fun b => B b ∧ b < W.heap.size) g T F := h.mono fun b hl hb => ⟨hb, hl⟩
  intro n1 hn1
  have step : ∀ {fn : FuncId} {args : Array Value} {q : TS × Int}, (∀ v w', Chg B W w' → v = .int .i64 q.2 ∧ TiX w' (fun b => B b ∨ W.heap.size ≤ b) g q.1.1 q.1.2 → R (.returned v) w') → (∀ {W1}, TiX W1 (fun b => B b ∧ b < W.heap.size) g T F → RetF Tryz.prog fn args W1 (fun b => B b ∧ b < W.heap.size) fun v W' => v = .int .i64 q.2 ∧ TiX W' (fun b => (B b ∧ b < W.heap.size) ∨ W1.heap.size ≤ b) g q.1.1 q.1.2) →
      ∀ w2, Bel W w2 → Under [n1] w2 → Calls Tryz.prog fn args w2 fun e w' => ∃ x : Int, e = .returned (.int .i64 x) ∧ Keeps [n1] w2 w' ∧ R (.returned (.int .i64 x)) w' := by
    intro fn args q hR hc w2 hb hu
    have hA : AtF W B [n1] w2 := ⟨(hA.call hb).chg, hu⟩
    refine at_callF hA (hc (h'.call hb)) (fun b _ hb => .inr hb.1) (by simp; intro _; omega) fun v w' hA2 hk _ hq => ?_
    obtain ⟨hv, hX⟩ := hq
    subst hv
    exact ⟨_, rfl, hk, hR _ _ hA2.chg ⟨rfl, hX.mono fun b _ hb' => hb'.elim (fun e => .inl e.1) fun e => .inr (Nat.le_trans hb.size e)⟩⟩
  refine brE (fun e => ?_) (fun e0 => ?_)
  · rw [if_pos e] at hR
    refine step hR fun hX => RetF.mono' (c18x hX hl a.2.2.2.2) (fun _ hb => hb) fun v W' hq => ?_
    by_cases hs : sm4 a.2.2.2.2
    · rw [if_pos hs] at hq ⊢; exact hq
    · rw [if_neg hs] at hq ⊢; exact hq
  rw [if_neg e0] at hR
  refine brE (fun e => ?_) (fun e1 => ?_)
  · rw [if_pos e] at hR
    exact step hR fun hX => c19x hX hl _ _ _
  rw [if_neg e1] at hR
  refine brE (fun e => ?_) (fun e2 => ?_)
  · rw [if_pos e] at hR
    exact step hR fun hX => c20x hX hl _
  rw [if_neg e2] at hR
  refine brE (fun e => ?_) (fun e3 => ?_)
  · rw [if_pos e] at hR
    exact step hR fun hX => c21x hX hl _ _
  rw [if_neg e3] at hR
  refine brE (fun e => ?_) (fun e4 => ?_)
  · rw [if_pos e] at hR
    exact step hR fun hX => c21x hX hl _ _
  rw [if_neg e4] at hR
  refine brE (fun e => ?_) (fun e5 => ?_)
  · rw [if_pos e] at hR
    exact step hR fun hX => c22x hX _ hl _
  rw [if_neg e5] at hR
  exact step hR fun hX => c23x hX _ hl _
/-- A tiers made. -/
theorem c4 (W : World) : RetQ Tryz.prog 4 #[] W fun v W' => ∃ g, v = .pointer (pt g) ∧ TiX W' (fun b => W.heap.size ≤ b) g (0, 0, 0, 0) [] := by
  intro R hR
  refine f4_calls W R ?_
  unfold f4_vc
  have hA := At.refl W
  refine at_callq hA (c10 W) fun v w2 hA hk hb2 ⟨ga, hv, hS⟩ => ?_
  subst hv
  refine ⟨_, rfl, ?_⟩
  have hS : SoX w2 (fun b => W.heap.size ≤ b ∧ b < w2.heap.size) ga (0, 0, 0, 0) [] := hS.mono fun b hl hb => ⟨hb, hl⟩
  refine opw_makeMap (kf := Value.int .i64) (vf := vR) (t := 41) hA fun rr w5 hrr hA _ hb5 hM1 => ⟨_, rfl, ?_⟩
  refine opw_makeMap (kf := Value.int .i64) (vf := vF) (t := 42) hA fun rf w8 hrf hA _ hb8 hM2 => ⟨_, rfl, ?_⟩
  refine opw_boxS hA fun g w11 hg hA _ hb11 hblk => ⟨_, rfl, leafq hR hA ⟨g, rfl, FOk.empty, sm0, ?_⟩⟩
  have s2 := hb2.size
  have s5 := hb5.size
  have s8 := hb8.size
  have s11 := hb11.size
  have l1 := hM1.lt
  have l2 := hM2.lt
  have l3 := (Array.getElem?_eq_some_iff.1 hblk).1
  refine ⟨fun b => W.heap.size ≤ b ∧ b < w11.heap.size, ⟨ga, rr, rf, fun b => W.heap.size ≤ b ∧ b < w2.heap.size, fun _ _ => False⟩, [], [], fun b hb => hb.1, ⟨hblk, ((hS.call hb5).call hb8).call hb11, ((hM1.call hb8).call hb11).re0 rfl, (hM2.call hb11).re0 rfl, by simp, by simp, (fun r x hx => by cases hx), ⟨?_, ?_, ?_⟩, ?_, fun b hb => ⟨⟨hb.1, ?_⟩, ?_⟩, fun r b hb => hb.elim, fun r r' b hb => hb.elim, fun b hb => hb.2⟩, fun r => ?_, fun id => rfl⟩
  · constructor <;> omega
  · constructor
    · show W.heap.size ≤ rr; omega
    · show rr < w11.heap.size; omega
  · constructor
    · show W.heap.size ≤ rf; omega
    · show rf < w11.heap.size; omega
  · show rr ≠ rf; omega
  · have := hb.2; omega
  · have h2 := hb.2
    rintro (e | e | e)
    · omega
    · have e : b = rr := e; omega
    · have e : b = rf := e; omega
  · rfl
theorem c28x (h : TiX W B g T F) (r : Int) : Ret Tryz.prog 28 #[.pointer (pt g), .int .i64 r] W (shaV T (mget r (allL F))) := by
  obtain ⟨B', p, mr, mf, hsub, hT, hr, hm⟩ := h.ex
  exact c28 hT r
theorem c35x (h : TiX W B g T F) (r : Int) : Ret Tryz.prog 35 #[.pointer (pt g), .int .i64 r] W (wgtV (mget r (allL F))) := by
  obtain ⟨B', p, mr, mf, hsub, hT, hr, hm⟩ := h.ex
  exact c35 hT r
theorem c19o (W : World) (id number weight : Int) : Ret Tryz.prog 19 #[.pointer none, .int .i64 id, .int .i64 number, .int .i64 weight] W (.int .i64 40) := by
  intro R hR
  refine f19_calls _ _ _ _ W R ?_
  unfold f19_vc
  exact at_callb (At.refl W) (c33n W) fun w2 hA hk hb2 => ⟨_, rfl, brB (fun _ => leaf hR hA rfl) (fun e => by cases e)⟩
end Go.Vc.SZ

/- Tiers: what keeps them; the walk through roles and frameworks, as an iterator. -/
set_option maxRecDepth 20000
set_option maxHeartbeats 1000000
set_option linter.unusedVariables false
namespace Go.Vc.SZ
open Go Go.Vc Go.RowKit Go.Proofs Go.Vc.T Vcz

variable {w W W' W1 : World} {M N B B0 B' S : Nat → Prop} {gs ds : List Nat} {g gr : Nat} {p : TiP} {T Tg Ta n s : Ar4} {To : Int → Ar4} {ma m : List (Int × Cl)} {mo : MO} {mr : MR} {mf : MF} {id r k : Int} {F : List Fr} {f : Fr} {t : Tr Pl} {bs : List Nat}

/-- Cells and maps of these blocks stay. -/
def Stay (B : Nat → Prop) (W W' : World) : Prop := W.heap.size ≤ W'.heap.size ∧ ∀ b o, B b → W.heap[b]? = some o → (o.isCells = true ∨ o.isWalk = true) → W'.heap[b]? = some o
theorem Stay.cell (h : Stay B W W') {b : Nat} {cs : Array Value} {t : TypeId} {fr : Nat × Nat} (hb : B b) (ho : W.heap[b]? = some (.cells cs t fr)) : W'.heap[b]? = W.heap[b]? := (h.2 b _ hb ho (.inl rfl)).trans ho.symm
theorem Stay.map (h : Stay B W W') {b : Nat} {es : Array MapEntry} {cl : Nat} (hb : B b) (ho : W.heap[b]? = some (.map es cl)) : W'.heap[b]? = W.heap[b]? := (h.2 b _ hb ho (.inr rfl)).trans ho.symm
theorem Stay.mono (h : Stay B W W') (hB : ∀ b, B' b → B b) : Stay B' W W' := ⟨h.1, fun b o hb => h.2 b o (hB b hb)⟩
theorem Stay.of (hn : W.heap.size ≤ W'.heap.size) (h : ∀ b, B b → b < W.heap.size → W'.heap[b]? = W.heap[b]?) : Stay B W W' := ⟨hn, fun b o hb ho _ => (h b hb (Array.getElem?_eq_some_iff.1 ho).1).trans ho⟩
theorem SoX.keep (h : SoX W B g T m) (hk : Stay B W W') : SoX W' B g T m := by
  obtain ⟨m0, r, gt, t, bs, h1, h2, h3, h4, h5⟩ := h.ex
  obtain ⟨root, t1, t2⟩ := h3.tr.ex
  obtain ⟨es, cl, m1, m2⟩ := h3.mp.obj
  refine ⟨h.good, m0, r, gt, t, bs, h1, h2, ⟨(hk.cell (h5 g (.inl rfl)) h3.tb).trans h3.tb, ⟨.inr rfl, (fun e => by cases e), es, cl, (hk.map (h5 r (.inr (.inl rfl))) m1).trans m1, m2⟩, ⟨⟨root, (hk.cell (h5 gt (.inr (.inr (.inl rfl)))) t1).trans t1, t2.keep fun q hq => ?_⟩, h3.tr.gn⟩⟩, h4, h5⟩
  obtain ⟨cur, hc⟩ := t2.ty q hq
  exact hk.cell (h5 q (.inr (.inr (.inr hq)))) hc
theorem Ti.keep (h : Ti W B g p Tg Ta To ma mo mr mf) (hk : Stay B W W') : Ti W' B g p Tg Ta To ma mo mr mf := by
  obtain ⟨es, cl, m1, _⟩ := h.rm.obj
  obtain ⟨es2, cl2, m2, _⟩ := h.fm.obj
  exact ⟨(hk.cell h.bg.1 h.tb).trans h.tb, h.all.keep (hk.mono fun b hb => (h.ba b hb).1), h.rm.re0 (hk.map h.bg.2.1 m1), h.fm.re0 (hk.map h.bg.2.2 m2), h.nr, h.nf, fun r x hx => (h.own r x hx).keep (hk.mono fun b hb => (h.bo r b hb).1), h.bg, h.rrf, h.ba, h.bo, h.oo, fun b hb => Nat.lt_of_lt_of_le (h.bd b hb) hk.1⟩
theorem TiX.keep (h : TiX W B g T F) (hk : Stay B W W') : TiX W' B g T F := by
  obtain ⟨B', p, mr, mf, h1, h2, h3⟩ := h.ex
  exact ⟨h.ok, h.sT, B', p, mr, mf, h1, h2.keep (hk.mono h1), h3⟩

/-! ### The pairs, in order -/
noncomputable def RL (T : Ar4) (F : List Fr) : List Int := (ordL T (allL F)).map Pl.d
noncomputable def OL (T : Ar4) (F : List Fr) (r : Int) : List Int := (ordL T (ownL F r)).map Pl.d
abbrev P2 := Int × Int
noncomputable def walkL (T : Ar4) (F : List Fr) : List P2 := (RL T F).flatMap fun r => (OL T F r).map fun id => (r, id)
theorem mem_RL (h : IsOrd T (allL F) (ordL T (allL F))) {r : Int} (hr : r ∈ RL T F) : (1 ≤ r ∧ r ≤ 32) ∧ isR F r = true := by
  obtain ⟨y, hy, rfl⟩ := List.mem_map.1 hr
  obtain ⟨x, hx, _, e⟩ := (h.2 y).1 hy
  obtain ⟨r', hr', rfl⟩ := List.mem_map.1 hx
  have h2 := List.mem_filter.1 hr'
  rw [e]
  exact ⟨mem_roles.1 h2.1, h2.2⟩
/-- A yield: its round. -/
theorem opw_yield {l m : Nat} {args : Array Value} {K : Value → World → Prop} {Q : Ending → World → Prop} (hY : YieldAt Fence.wide m Tryz.prog l args W Q) (hK : ∀ e W', Q e W' → ∃ v, e = .returned v ∧ K v W') : OpW Tryz.prog (invokeS (.func (.yield l) #[] #[]) args) W K := by
  obtain ⟨fn, tmps, assign, body, hr, hR⟩ := hY
  have e : (invokeS (.func (.yield l) #[] #[]) args).run Tryz.prog W = .ok (.round l fn tmps assign body) W := by
    have : invokeS (.func (.yield l) #[] #[]) args = Instr.yield l args := by
      unfold invokeS
      simp [Deferred.ofValue, invoke]
    rw [this]
    exact hr
  unfold OpW
  rw [e]
  exact fun nn => ⟨hR.1, fun c cs _ => let ⟨e, w', r, s⟩ := hR.2 c cs (room_wide _); ⟨e, w', hK e w' r, s⟩⟩
end Go.Vc.SZ

/- Tiers: the walk, as an iterator's contract. -/
set_option maxRecDepth 20000
set_option maxHeartbeats 1000000
set_option linter.unusedVariables false
namespace Go.Vc.SZ
open Go Go.Vc Go.RowKit Go.Proofs Go.Vc.T Vcz

variable {w W W' W1 : World} {M N B B0 B' S : Nat → Prop} {gs ds : List Nat} {g gr q : Nat} {p : TiP} {T Tg Ta n s : Ar4} {id r k : Int} {F : List Fr} {f : Fr}

abbrev enc2 (x : P2) : Array Value := #[.int .i64 x.1, .int .i64 x.2]
/-- What a round keeps: cells and maps but for those of N. -/
def KpN (N : Nat → Prop) (A B : World) : Prop := Stay (fun b => ¬ N b) A B
theorem KpN.trans {A B C : World} (h : KpN N A B) (k : KpN N B C) : KpN N A C := ⟨Nat.le_trans h.1 k.1, fun b o hb ho hw => k.2 b o hb (h.2 b o hb ho hw) hw⟩
/-- A row of numbers that lies in a block of its own, which no round writes. -/
def RowK (N : Nat → Prop) (W : World) (a : Option Addr) (n c : Nat) (l : List Int) : Prop := OwnF W anyB [] W 2 1 i1E (.slice a n c) l ∧ ∀ k, (Value.slice a n c).ownBlock = some k → ¬ N k
theorem RowK.keep {a : Option Addr} {n c : Nat} {l : List Int} (h : RowK N W a n c l) (hk : KpN N W W') : RowK N W' a n c l :=
  ⟨(h.1.keep fun k hk' => by
    obtain ⟨cur, hc⟩ := h.1.blk hk'
    exact Stay.cell hk (h.2 k hk') hc).base (fun _ _ => .inr trivial) (fun _ h => by cases h), h.2⟩
theorem KpN.bel (h : Bel W W') : KpN N W W' := Stay.of h.size fun _ _ hb => h.block hb
theorem RowK.sl {a : Option Addr} {n c : Nat} {l : List Int} (h : RowK N W a n c l) : SlE W 1 i1E l a n c := h.1.sl fun _ _ => rfl

/-- The iterator of a walk, where its tiers lie apart from what the rounds write. -/
theorem seq97 (h : TiX w B g T F) (hl : F.length ≤ 1000) (hcap : w.heap[q]? = some (.cells ([.pointer (pt g)] : List Value).toArray 23 (0, 0))) (hN : ∀ b, N b → b < w.heap.size ∧ ¬ B b ∧ b ≠ q) (nn : Nat) :
    SeqStopsK Fence.wide nn Tryz.prog 44 #[.pointer (pt q)] enc2 (KpN N) (fun xs => xs = walkL T F) (fun pre => pre ≠ [] ∧ pre <+: walkL T F) (walkL T F).length w := by
  intro l J Jx W hbel hab habx hY h0
  refine callsIn_wide.2 ?_
  refine f44_calls _ _ W _ ?_
  unfold f44_vc
  -- what is there at the start
  have hX : TiX W B g T F := by
    obtain ⟨B', p, mr, mf, h1, h2, h3⟩ := h.ex
    have h4 : TiX w (fun b => B b ∧ b < w.heap.size) g T F := h.mono fun b hl hb => ⟨hb, hl⟩
    exact (h4.keep (Stay.of hbel.size fun b hb _ => hbel.block b hb.2)).mono fun b _ hb => hb.1
  have hcap : W.heap[q]? = some (.cells ([.pointer (pt g)] : List Value).toArray 23 (0, 0)) := (hbel.block q (Array.getElem?_eq_some_iff.1 hcap).1).trans hcap
  have hqN : ¬ N q := fun hh => (hN q hh).2.2 rfl
  have hNB : ∀ b, B b → ¬ N b := fun b hb hh => (hN b hh).2.1 hb
  have hNl : ∀ b, N b → b < W.heap.size := fun b hb => Nat.lt_of_lt_of_le (hN b hb).1 hbel.size
  -- the state between: tiers, and the captured cell
  let St : World → Prop := fun W' => TiX W' B g T F ∧ W'.heap[q]? = some (.cells ([.pointer (pt g)] : List Value).toArray 23 (0, 0)) ∧ W.heap.size ≤ W'.heap.size
  have stK : ∀ {A C : World}, St A → KpN N A C → St C := fun {A C} ⟨s1, s2, s3⟩ hk => ⟨s1.keep (hk.mono hNB), (Stay.cell hk hqN s2).trans s2, Nat.le_trans s3 hk.1⟩
  have jB : ∀ {pre : List P2} {A C : World}, J pre A → Bel A C → J pre C := fun hj hb => hab _ _ _ none hj (grown_below hb none) (fun r e => by cases e)
  have mkRow : ∀ {A C : World} {a : Option Addr} {n c : Nat} {l : List Int}, W.heap.size ≤ A.heap.size → OwnL A [] C 2 1 i1E (.slice a n c) l → RowK N C a n c l := fun hs ho => ⟨ho.base (fun _ _ => .inr trivial) (fun _ h => by cases h), fun k hk hh => by
    have := (ho.mine k hk).resolve_right id
    have := hNl k hh
    omega⟩
  obtain ⟨B', p, mr, mf, hsub, hT, hr, hm⟩ := hX.ex
  have hordA := hT.all.is
  have hRlen : (RL T F).length ≤ 32 := by unfold RL; rw [List.length_map]; exact Nat.le_trans hordA.2 (all_len F)
  have hRe : (List.map Pl.d (ordL T (allL F))).length = (RL T F).length := rfl
  refine ⟨_, rd_f0 hcap (by kernel_rfl) nod, ?_⟩
  refine at_callb (At.refl W) (c33t hT) fun w3 hA3 _ hb3 => ⟨_, rfl, brB (fun e => by cases e) (fun _ => ?_)⟩
  have st3 : St w3 := stK ⟨hX, hcap, Nat.le_refl _⟩ (KpN.bel hb3)
  have hT3 := hT.call hb3
  refine ⟨_, rd_f0 st3.2.1 (by kernel_rfl) nod, _, rfl, _, hT3.rdA nod, ?_⟩
  refine at_calll (At.refl w3) (c45 hT3.all (by have := all_len F; omega)) (fun _ _ => rfl) fun a10 c49 w9 _ _ hb9 ho _ => ⟨_, _, _, rfl, ?_⟩
  have row9 : RowK N w9 a10 (RL T F).length c49 (RL T F) := mkRow st3.2.2 ho
  refine ⟨fun v W' => St W' ∧ RowK N W' a10 (RL T F).length c49 (RL T F) ∧ ∃ i : Nat, v.1 = i ∧ i ≤ (RL T F).length ∧ J (((RL T F).take i).flatMap fun r => (OL T F r).map fun id => (r, id)) W', fun v _ => (32 - v.1).toNat, ⟨stK st3 (KpN.bel hb9), row9, 0, rfl, Nat.zero_le _, by simpa using jB (jB h0 hb3) hb9⟩, ?_⟩
  rintro x15 w16 ⟨st, row, i, hi, hil, hj⟩
  simp only at hi
  subst hi
  have hfin : ∀ {pre : List P2} {v : Value} {W' : World}, pre = walkL T F → J pre W' → (∃ v', Ending.returned v = Ending.returned v') ∧ ((∃ xs, xs = walkL T F ∧ J xs W') ∨ ∃ pre, (pre ≠ [] ∧ pre <+: walkL T F) ∧ Jx pre W') := fun e hj => ⟨⟨_, rfl⟩, .inl ⟨_, e, hj⟩⟩
  refine brD (fun hlt => ?_) (fun hge => hfin ?_ hj)
  · obtain ⟨r, hr'⟩ : ∃ r, (RL T F)[i]? = some r := ⟨_, List.getElem?_eq_getElem (by omega)⟩
    have hrm := mem_RL hordA.1 (List.mem_of_getElem? hr')
    obtain ⟨ad, g1, el, _⟩ := elt_at (P := Tryz.prog) (k := .i64) (t := 66) row.sl hr' (e := 2) (by kernel_rfl) (by kernel_rfl)
    obtain ⟨B2, p2, mr2, mf2, hsub2, hT16, hr2, hm2⟩ := st.1.ex
    have hmr := hr2 r
    rw [if_pos hrm.2] at hmr
    obtain ⟨gr, hy⟩ : ∃ gr, mget r mr2 = some (gr, cntF F r) := by
      cases e2 : mget r mr2 with
      | none => rw [e2] at hmr; cases hmr
      | some x =>
        rw [e2] at hmr
        simp only [Option.map_some, Option.some.injEq] at hmr
        exact ⟨x.1, by rw [← hmr]⟩
    have hlk := hT16.lkR1 r (ds := []) (by simp)
    rw [hy] at hlk
    refine ⟨ad, g1, _, el.one (by kernel_rfl) nod, _, rd_f0 st.2.1 (by kernel_rfl) nod, _, rfl, _, hT16.rdR nod, _, _, hlk, ?_⟩
    have hso := hT16.own r _ hy
    have hol := own_len F r
    have hOlen : (OL T F r).length ≤ 1000 := by unfold OL; rw [List.length_map]; exact Nat.le_trans hso.is.2 (by omega)
    have hOe : (List.map Pl.d (ordL T (ownL F r))).length = (OL T F r).length := rfl
    refine at_calll (At.refl w16) (c45 hso (by omega)) (fun _ _ => rfl) fun a26 c6 w25 _ _ hb25 ho2 _ => ⟨_, _, _, rfl, ?_⟩
    have row2 : RowK N w25 a26 (OL T F r).length c6 (OL T F r) := mkRow st.2.2 ho2
    refine ⟨fun v W' => St W' ∧ RowK N W' a10 (RL T F).length c49 (RL T F) ∧ RowK N W' a26 (OL T F r).length c6 (OL T F r) ∧ ∃ j : Nat, v.1 = j ∧ j ≤ (OL T F r).length ∧ J ((((RL T F).take i).flatMap fun r => (OL T F r).map fun id => (r, id)) ++ ((OL T F r).take j).map fun id => (r, id)) W', fun v _ => (1000 - v.1).toNat, ⟨stK st (KpN.bel hb25), row.keep (KpN.bel hb25), row2, 0, rfl, Nat.zero_le _, by simpa using jB hj hb25⟩, ?_⟩
    rintro x31 w32 ⟨st, row, row2, j, hj', hjl, hJ⟩
    simp only at hj'
    subst hj'
    have htake : ((RL T F).take (i + 1)).flatMap (fun r => (OL T F r).map fun id => (r, id)) = (((RL T F).take i).flatMap fun r => (OL T F r).map fun id => (r, id)) ++ (OL T F r).map fun id => (r, id) := by
      rw [List.take_add_one, hr', Option.toList_some, List.flatMap_append, List.flatMap_cons, List.flatMap_nil, List.append_nil]
    refine brD (fun hlt2 => ?_) (fun hge2 => ?_)
    · obtain ⟨id, hid⟩ : ∃ id, (OL T F r)[j]? = some id := ⟨_, List.getElem?_eq_getElem (by omega)⟩
      obtain ⟨ad2, g2, el2, _⟩ := elt_at (P := Tryz.prog) (k := .i64) (t := 66) row2.sl hid (e := 2) (by kernel_rfl) (by kernel_rfl)
      refine ⟨ad2, g2, _, el2.one (by kernel_rfl) nod, ?_⟩
      have hpre : (((((RL T F).take i).flatMap fun r => (OL T F r).map fun id => (r, id)) ++ ((OL T F r).take j).map fun id => (r, id)) ++ [(r, id)]) <+: walkL T F := by
        have e1 : (((OL T F r).take j).map fun id => (r, id)) ++ [(r, id)] = ((OL T F r).take (j + 1)).map fun id => (r, id) := by
          rw [List.take_add_one, hid, Option.toList_some, List.map_append]
          rfl
        rw [List.append_assoc, e1]
        have h1 : (((RL T F).take (i + 1)).flatMap fun r => (OL T F r).map fun id => (r, id)) <+: walkL T F := by
          unfold walkL
          conv => rhs; rw [← List.take_append_drop (i + 1) (RL T F), List.flatMap_append]
          exact List.prefix_append ..
        rw [htake] at h1
        refine List.IsPrefix.trans ?_ h1
        rw [List.prefix_append_right_inj]
        exact (List.take_prefix _ _).map _
      have hlen := hpre.length_le
      rw [List.length_append, List.length_singleton] at hlen
      refine opw_yield (hY _ (r, id) w32 hJ (by omega)) fun e W' hq => ?_
      rcases hq with ⟨rfl, hJ', hK⟩ | ⟨rfl, hx⟩
      · refine ⟨_, rfl, _, rfl, brB (fun e => by cases e) (fun _ => ?_)⟩
        have hw : IntKind.i64.wrap ((j : Int) + 1) = ((j + 1 : Nat) : Int) := by rw [wrap_i64 (by omega) (by omega)]; omega
        rw [hw]
        refine ⟨⟨stK st hK, row.keep hK, row2.keep hK, j + 1, rfl, by omega, ?_⟩, by simp only; omega⟩
        rw [List.take_add_one, hid, Option.toList_some, List.map_append, ← List.append_assoc]
        exact hJ'
      · refine ⟨_, rfl, _, rfl, brB (fun _ => ⟨⟨_, rfl⟩, .inr ⟨_, ⟨by simp, hpre⟩, hx⟩⟩) (fun e => by cases e)⟩
    · have hw : IntKind.i64.wrap ((i : Int) + 1) = ((i + 1 : Nat) : Int) := by rw [wrap_i64 (by omega) (by omega)]; omega
      rw [hw]
      refine ⟨⟨st, row, i + 1, rfl, by omega, ?_⟩, by simp only; omega⟩
      rw [htake]
      rw [show j = (OL T F r).length by omega, List.take_length] at hJ
      exact hJ
  · rw [show i = (RL T F).length by omega, List.take_length]
    rfl
end Go.Vc.SZ

/- The body of a range over a function, in a round's frame: its formula, and what it gives. -/
namespace Go.Vc
open Go Go.RowKit

/-- The body of the first range over a function. -/
def rfBody : Code → Option Code
  | .rangeFunc _ _ _ b => some b
  | .seq a b => match rfBody a with
    | some c => some c
    | none => rfBody b
  | .cond _ a b => match rfBody a with
    | some c => some c
    | none => rfBody b
  | .block _ b => rfBody b
  | .loop b => rfBody b
  | .scope b => rfBody b
  | _ => none
def rfOf (fn : Func) : Option Code := match fn.body with
  | some c => rfBody c
  | none => none

/-- The formula of a round's body, out of its frame's slots. -/
def pieceF (P : Program) (H : Hints) (fn : Func) (args : List Value) (w : World) (R : Ex → World → Prop) : Fm :=
  match rfOf fn with
  | some c => wpC P H c (fun e st => withW st fun W => .atom (R e W)) { env := initEnv 0 args, boxes := [], gs := [], ro := [], w := w, clean := true, dirty := [], pend := [] }
  | none => .bad 71
def pieceOk (P : Program) (H : Hints) (fn : Func) (m : Nat) : Bool := match rfOf fn with
  | some c => codeOk P H fn.ntmps c && Nat.ble m fn.ntmps
  | none => false

theorem piece_sound {P : Program} {H : Hints} {fn : Func} {c : Code} {args : List Value} {w : World} {R : Ex → World → Prop} (hm : P.follows .mixedOrders = true) (hc : rfOf fn = some c) (hok : pieceOk P H fn args.length = true) (h : (pieceF P H fn args w R).den)
    {a : Act} (hd : a.defers = []) (hs : a.tmps.size = fn.ntmps) (ha : ∀ (t : Nat) (v : Value), args[t]? = some v → a.tmps[t]? = some v) {Q : Exit → Act → World → Prop} (hQ : ∀ e a' w', R e w' → Q (toExit e) a' w') {l : Option Nat} {nn : Nat} : c.wpIn (FW l) nn P Q a w := by
  unfold pieceOk at hok
  unfold pieceF at h
  rw [hc] at hok h
  simp only [Bool.and_eq_true] at hok h
  refine wpC_sound (ro := l) (nn := nn) (n := fn.ntmps) hm c _ { env := initEnv 0 args, boxes := [], gs := [], ro := [], w := w, clean := true, dirty := [], pend := [] } a w _ hok.1 rfl h ?_ ?_
  · refine ⟨hd, hs, fun t s ht hs' => ?_, fun t s ht => ?_, fun j cells ty hj => by simp at hj, rfl, List.Pairwise.nil, fun g hg => (by simp at hg), Evo.refl _, fun _ => rfl⟩
    · obtain ⟨v, rfl, _, hv⟩ := look_initEnv _ _ _ _ ht
      simp only [Nat.sub_zero] at hv
      exact ha t v hv
    · obtain ⟨v, rfl, _, _⟩ := look_initEnv _ _ _ _ ht
      trivial
  · intro e st' a' W' hd' hr' hx' hp'
    exact hQ e a' W' (withW_den hd' hr')
end Go.Vc

/- The formulas of functions, printed by a program (VcTool.lean): each is what the generator's formula comes to, by the kernel's reckoning; whoever proves one has the function's contract. -/
set_option maxRecDepth 100000
set_option maxHeartbeats 1000000
set_option linter.unusedVariables false
namespace Vczb
open Go Go.Vc Go.RowKit
/-! (*manciple/tiers.Tiers).Pick, a round -/
def h27 : Hints := ⟨[], [], [14], [], [], [], [], [], []⟩
def f27_vc (t0 : Value) (t1 : Value) (t2 : Value) (t3 : Value) (t4 : Value) (t5 : Value) (t6 : Value) (t7 : Int) (w : World) (R : Ex → World → Prop) : Prop :=
 ∃ (a1 : Option Addr),
 ∃ (n2 : Nat),
 ∃ (n3 : Nat),
 Reads Proofs.Tryz.prog [] (Instr.loadAt 66 t3) w (Value.slice a1 n2 n3) ∧
 Calls Proofs.Tryz.prog 47 #[Value.slice a1 n2 n3, Value.int IntKind.i64 t7] w fun (e4 : Ending) (w5 : World) =>
 ∃ (b6 : Bool),
 e4 = Ending.returned (Value.bool b6) ∧
 (b6 = true →
 OpW Proofs.Tryz.prog (skipS (Instr.storeAt 2 t4 (Value.int IntKind.i64 t7))) w5 fun (v7 : Value) (w8 : World) =>
 OpW Proofs.Tryz.prog (skipS (Instr.storeAt 4 t5 (Value.bool true))) w8 fun (v9 : Value) (w10 : World) => R Ex.ret w10) ∧
 (b6 = false → R Ex.normal w5)
theorem f27_eq (t0 : Value) (t1 : Value) (t2 : Value) (t3 : Value) (t4 : Value) (t5 : Value) (t6 : Value) (t7 : Int) (w : World) (R : Ex → World → Prop) : (pieceF Go.Proofs.Tryz.prog h27 Go.Proofs.Tryz.f27 [t0, t1, t2, t3, t4, t5, t6, Value.int IntKind.i64 t7] w R).den = f27_vc t0 t1 t2 t3 t4 t5 t6 t7 w R := by kernel_rfl
theorem f27_ok : pieceOk Go.Proofs.Tryz.prog h27 Go.Proofs.Tryz.f27 8 = true := by kernel_rfl

/-! manciple/manciplelaw10.Walks, a round -/
def h7 : Hints := ⟨[], [27], [18, 24], [], [], [], [], [], []⟩
def f7_vc (t0 : Value) (t1 : Value) (t2 : Value) (t3 : Value) (t4 : Value) (t5 : Value) (t6 : Value) (t7 : Value) (t8 : Int) (t9 : Int) (w : World) (R : Ex → World → Prop) : Prop :=
 ∃ (b1 : Bool),
 Reads Proofs.Tryz.prog [] (Instr.loadAt 4 t6) w (Value.bool b1) ∧
 (b1 = true →
 ∃ (x2 : Int),
 Reads Proofs.Tryz.prog [] (Instr.loadAt 3 t5) w (Value.int IntKind.i64 x2) ∧
 ∃ (a3 : Option Addr),
 ∃ (n4 : Nat),
 ∃ (n5 : Nat),
 Reads Proofs.Tryz.prog [] (Instr.loadAt 35 t3) w (Value.slice a3 n4 n5) ∧
 (decide (x2 < (↑n4 : Int)) = true →
 ∃ (a6 : Option Addr),
 ∃ (n7 : Nat),
 ∃ (n8 : Nat),
 Reads Proofs.Tryz.prog [] (Instr.loadAt 35 t3) w (Value.slice a6 n7 n8) ∧
 ∃ (x9 : Int),
 Reads Proofs.Tryz.prog [] (Instr.loadAt 3 t5) w (Value.int IntKind.i64 x9) ∧
 ∃ (ad10 : Addr),
 Gives Proofs.Tryz.prog (Instr.indexAt 35 (Value.slice a6 n7 n8) (Value.int IntKind.i64 x9)) (Value.pointer (some ad10)) ∧
 ∃ (x11 : Int),
 ∃ (x12 : Int),
 Reads Proofs.Tryz.prog [] (Instr.loadAt 65 (Value.pointer (some ad10))) w (Value.agg #[Value.int IntKind.i64 x11, Value.int IntKind.i64 x12]) ∧
 OpW Proofs.Tryz.prog (skipS (Instr.storeAt 4 t6 (Value.bool (x11 == t8 && (x12 == t9 && true))))) w fun (v13 : Value) (w14 : World) =>
 ∃ (x15 : Int),
 Reads Proofs.Tryz.prog [] (Instr.loadAt 3 t5) w14 (Value.int IntKind.i64 x15) ∧
 OpW Proofs.Tryz.prog (skipS (Instr.storeAt 3 t5 (Value.int IntKind.i64 (IntKind.i64.wrap (x15 + 1))))) w14 fun (v16 : Value) (w17 : World) => R Ex.normal w17) ∧
 (decide (x2 < (↑n4 : Int)) = false →
 OpW Proofs.Tryz.prog (skipS (Instr.storeAt 4 t6 (Value.bool false))) w fun (v18 : Value) (w19 : World) =>
 ∃ (x20 : Int),
 Reads Proofs.Tryz.prog [] (Instr.loadAt 3 t5) w19 (Value.int IntKind.i64 x20) ∧
 OpW Proofs.Tryz.prog (skipS (Instr.storeAt 3 t5 (Value.int IntKind.i64 (IntKind.i64.wrap (x20 + 1))))) w19 fun (v21 : Value) (w22 : World) => R Ex.normal w22)) ∧
 (b1 = false →
 OpW Proofs.Tryz.prog (skipS (Instr.storeAt 4 t6 (Value.bool false))) w fun (v23 : Value) (w24 : World) =>
 ∃ (x25 : Int),
 Reads Proofs.Tryz.prog [] (Instr.loadAt 3 t5) w24 (Value.int IntKind.i64 x25) ∧
 OpW Proofs.Tryz.prog (skipS (Instr.storeAt 3 t5 (Value.int IntKind.i64 (IntKind.i64.wrap (x25 + 1))))) w24 fun (v26 : Value) (w27 : World) => R Ex.normal w27)
theorem f7_eq (t0 : Value) (t1 : Value) (t2 : Value) (t3 : Value) (t4 : Value) (t5 : Value) (t6 : Value) (t7 : Value) (t8 : Int) (t9 : Int) (w : World) (R : Ex → World → Prop) : (pieceF Go.Proofs.Tryz.prog h7 Go.Proofs.Tryz.f7 [t0, t1, t2, t3, t4, t5, t6, t7, Value.int IntKind.i64 t8, Value.int IntKind.i64 t9] w R).den = f7_vc t0 t1 t2 t3 t4 t5 t6 t7 t8 t9 w R := by kernel_rfl
theorem f7_ok : pieceOk Go.Proofs.Tryz.prog h7 Go.Proofs.Tryz.f7 10 = true := by kernel_rfl

end Vczb

/- Tiers: the law's walk (a range over the iterator). -/
set_option maxRecDepth 100000
set_option maxHeartbeats 2000000
set_option linter.unusedVariables false
namespace Go.Vc.SZ
open Go Go.Vc Go.RowKit Go.Proofs Go.Vc.T Vcz Go.Shelf
attribute [local go_sem] Oper.semAt_some

variable {w W W' W0 W1 : World} {M N B B0 B' S : Nat → Prop} {gs ds : List Nat} {g gr q p3 p5 p6 : Nat} {p : TiP} {T Tg Ta n s : Ar4} {id r k : Int} {F : List Fr} {f : Fr}

theorem c24 (t : Option Addr) (W : World) : RetQ Tryz.prog 24 #[.pointer t] W fun v W' => ∃ q, v = .func (.func 44) #[] #[.pointer (pt q)] ∧ W.heap.size ≤ q ∧ W'.heap[q]? = some (.cells ([.pointer t] : List Value).toArray 23 (0, 0)) := by
  intro R hR
  refine f24_calls _ W R ?_
  unfold f24_vc
  exact opw_boxS (At.refl W) fun q w2 hq hA _ hb hblk => ⟨_, rfl, leafq hR hA ⟨q, rfl, by omega, hblk⟩⟩
abbrev prE (x : P2) : List Value := [.int .i64 x.1, .int .i64 x.2]
/-- The law's own cells: the list, how many were seen, whether they were right. -/
structure Wk (W0 W : World) (p3 p5 p6 : Nat) (la : Option Addr) (ln lc : Nat) (l : List P2) (i : Nat) (good : Bool) : Prop where
  cc3 : W.heap[p3]? = some (.cells ([.slice la ln lc] : List Value).toArray 35 (0, 0))
  cc5 : W.heap[p5]? = some (.cells ([.int .i64 (i : Int)] : List Value).toArray 3 (0, 0))
  cc6 : W.heap[p6]? = some (.cells ([.bool good] : List Value).toArray 4 (0, 0))
  sl0 : SlE W0 2 prE l la ln lc
  bel : Below W0.heap.size W0 W
  new : W0.heap.size ≤ p3 ∧ W0.heap.size ≤ p5 ∧ W0.heap.size ≤ p6
theorem Wk.sl {la : Option Addr} {ln lc : Nat} {l : List P2} {i : Nat} {good : Bool} (h : Wk W0 W p3 p5 p6 la ln lc l i good) : SlE W 2 prE l la ln lc := h.sl0.mono (cell_below h.bel) fun _ _ h => h
def ok2 (l : List P2) (good : Bool) (i : Nat) (x : P2) : Bool := good && decide (l[i]? = some x)
theorem body39 {la : Option Addr} {ln lc : Nat} {l : List P2} {i : Nat} {good : Bool} {t0 t1 t2 t4 t7 : Value} (h : Wk W0 W p3 p5 p6 la ln lc l i good) (hi : i < 9223372036854775807) (x : P2) {R : Ex → World → Prop}
    (hR : ∀ W', Chg (fun b => b = p5 ∨ b = p6) W W' → Wk W0 W' p3 p5 p6 la ln lc l (i + 1) (ok2 l good i x) → R .normal W') : Vczb.f7_vc t0 t1 t2 (.pointer (pt p3)) t4 (.pointer (pt p5)) (.pointer (pt p6)) t7 x.1 x.2 W R := by
  unfold Vczb.f7_vc
  have hA : AtF W (fun b => b = p5 ∨ b = p6) [] W := AtF.refl W _
  have h35 : p3 ≠ p5 := cells_ne h.cc3 h.cc5 (by decide)
  have h36 : p3 ≠ p6 := cells_ne h.cc3 h.cc6 (by decide)
  have h56 : p5 ≠ p6 := cells_ne h.cc5 h.cc6 (by decide)
  have hn := h.sl.len_le
  have e1 : IntKind.i64.wrap ((i : Int) + 1) = ((i + 1 : Nat) : Int) := by rw [wrap_i64 (by omega) (by omega)]; omega
  have fin : ∀ (b : Bool), b = ok2 l good i x → OpW Tryz.prog (skipS (Instr.storeAt 4 (.pointer (pt p6)) (.bool b))) W fun _ w14 => ∃ x15 : Int, Reads Tryz.prog [] (Instr.loadAt 3 (.pointer (pt p5))) w14 (.int .i64 x15) ∧ OpW Tryz.prog (skipS (Instr.storeAt 3 (.pointer (pt p5)) (.int .i64 (IntKind.i64.wrap (x15 + 1))))) w14 fun _ w17 => R .normal w17 := by
    intro b hb
    refine opw_storeF hA h.cc6 (.inr (.inr rfl)) (by simp) (cells' := [.bool b]) (by kernel_rfl) fun w14 hA14 _ hch14 h6 => ?_
    have h5 : w14.heap[p5]? = some (.cells ([.int .i64 (i : Int)] : List Value).toArray 3 (0, 0)) := (hch14.block p5 (Array.getElem?_eq_some_iff.1 h.cc5).1 h56).trans h.cc5
    refine ⟨_, rd_f0 h5 (by kernel_rfl) nod, ?_⟩
    rw [e1]
    refine opw_storeF hA14 h5 (.inr (.inl rfl)) (by simp) (cells' := [.int .i64 ((i + 1 : Nat) : Int)]) (by kernel_rfl) fun w17 hA17 _ hch17 h5 => ?_
    have hch : Chg (fun b => b = p5 ∨ b = p6) W w17 := hA17.chg
    refine hR w17 hch ⟨(hch.block p3 (Array.getElem?_eq_some_iff.1 h.cc3).1 (fun e => e.elim h35 h36)).trans h.cc3, h5, ?_, h.sl0, ⟨hch.os.trans h.bel.os, hch.tape.trans h.bel.tape, hch.output.trans h.bel.output, Nat.le_trans h.bel.size hch.size, fun b hb => (hch.block b (Nat.lt_of_lt_of_le hb h.bel.size) (fun e => by have := h.new; omega)).trans (h.bel.block b hb)⟩, h.new⟩
    · rw [← hb]
      exact (hch17.block p6 (Array.getElem?_eq_some_iff.1 h6).1 (Ne.symm h56)).trans h6
  refine ⟨good, rd_f0 h.cc6 (by kernel_rfl) nod, brB (fun hg => ⟨_, rd_f0 h.cc5 (by kernel_rfl) nod, _, _, _, rd_f0 h.cc3 (by kernel_rfl) nod, brD (fun hlt => ?_) (fun hge => fin _ ?_)⟩) (fun hg => fin _ ?_)⟩
  · obtain ⟨y, hy⟩ : ∃ y, l[i]? = some y := ⟨_, List.getElem?_eq_getElem (by omega)⟩
    obtain ⟨ad, g1, el, _⟩ := elt_at (P := Tryz.prog) (k := .i64) (t := 35) h.sl hy (e := 65) (by kernel_rfl) (by kernel_rfl)
    refine ⟨_, _, _, rd_f0 h.cc3 (by kernel_rfl) nod, _, rd_f0 h.cc5 (by kernel_rfl) nod, ad, g1, _, _, el.agg 2 (by kernel_rfl) (by kernel_rfl) (by simp) no_ds, fin _ ?_⟩
    unfold ok2
    rw [hy, hg]
    rw [Bool.and_true, Bool.true_and, Bool.eq_iff_iff]
    simp [Prod.ext_iff]
  · unfold ok2
    rw [List.getElem?_eq_none (by omega)]
    simp
  · unfold ok2
    rw [hg]
    rfl
abbrev good2 (l pre : List P2) : Bool := decide (pre <+: l)
theorem good_step (l pre : List P2) (x : P2) : ok2 l (good2 l pre) pre.length x = good2 l (pre ++ [x]) := by
  unfold ok2 good2
  rw [Bool.eq_iff_iff, Bool.and_eq_true, decide_eq_true_eq, decide_eq_true_eq, decide_eq_true_eq]
  constructor
  · rintro ⟨⟨t, rfl⟩, h2⟩
    rw [List.getElem?_append_right (Nat.le_refl _), Nat.sub_self] at h2
    cases t with
    | nil => simp at h2
    | cons y t =>
      simp at h2
      subst h2
      exact ⟨t, by simp⟩
  · rintro ⟨t, rfl⟩
    exact ⟨⟨x :: t, by simp⟩, by simp⟩
theorem good_end (l pre : List P2) : (good2 l pre && decide (pre.length = l.length)) = decide (l = pre) := by
  unfold good2
  rw [Bool.eq_iff_iff, Bool.and_eq_true, decide_eq_true_eq, decide_eq_true_eq, decide_eq_true_eq]
  constructor
  · rintro ⟨h1, h2⟩
    exact (h1.eq_of_length h2).symm
  · rintro rfl
    exact ⟨List.prefix_rfl, rfl⟩
/-- What the rounds hold. -/
def I39 (W0 : World) (p3 p5 p6 : Nat) (la : Option Addr) (ln lc : Nat) (l : List P2) (pre : List P2) (W : World) : Prop := Wk W0 W p3 p5 p6 la ln lc l pre.length (good2 l pre)
theorem own39 {la : Option Addr} {ln lc : Nat} {l : List P2} {b : Nat} (hb : W0.heap.size ≤ b) : OwnFrom b (I39 W0 p3 p5 p6 la ln lc l) := by
  intro s A C row h hg hr
  have kc : ∀ {k : Nat} {cs : Array Value} {t : TypeId} {fr : Nat × Nat}, A.heap[k]? = some (.cells cs t fr) → C.heap[k]? = A.heap[k]? := fun {k cs t fr} hk => hg.block k (Array.getElem?_eq_some_iff.1 hk).1 fun e => by
    obtain ⟨_, o, ho, hno⟩ := hr k e.symm
    rw [hk] at ho
    cases ho
    cases hno
  exact ⟨(kc h.cc3).trans h.cc3, (kc h.cc5).trans h.cc5, (kc h.cc6).trans h.cc6, h.sl0, ⟨hg.os.trans h.bel.os, hg.tape.trans h.bel.tape, hg.output.trans h.bel.output, Nat.le_trans h.bel.size hg.size, fun k hk => (hg.block k (Nat.lt_of_lt_of_le hk h.bel.size) (fun e => by have := (hr k e.symm).1; omega)).trans (h.bel.block k hk)⟩, h.new⟩
theorem eqf (q : Nat) (W : World) : Sem.run Tryz.prog (binOp BinOp.eql 62 (Value.func (Fn.func 44) #[] #[Value.pointer (pt q)]) Value.nilFunc) W = .ok (.bool false) W := rfl

/-- The law's walk, over any iterator's contract: is it through just these pairs? -/
theorem walks_of {t : Option Addr} {la : Option Addr} {ln lc : Nat} {l L : List P2} (W : World) (hs : SlE W 2 prE l la ln lc) (hl : L.length < 1000000)
    (hseq : ∀ (w : World) (q : Nat) (N : Nat → Prop), Bel W w → w.heap[q]? = some (.cells ([.pointer t] : List Value).toArray 23 (0, 0)) → (∀ b, N b → b < w.heap.size ∧ W.heap.size ≤ b ∧ b ≠ q) → SeqStopsK Fence.wide 2 Tryz.prog 44 #[.pointer (pt q)] enc2 (KpN N) (fun xs => xs = L) (fun pre => pre ≠ [] ∧ pre <+: L) L.length w)
    (R : Ending → World → Prop) (hR : ∀ w', Below W.heap.size W w' → R (.returned (.bool (decide (l = L)))) w') : Calls Tryz.prog 7 #[.pointer t, .slice la ln lc] W R := by
  refine (callsIn_wide (n := 3)).1 ?_
  refine callsIn_of_wp_marks Tryz.func7 rfl trivial ?_ rfl
  simp only [Tryz.ntmps7, List.size_toArray, List.length_cons, List.length_nil, Nat.reduceAdd, Nat.reduceSub, Array.replicate_succ, Array.replicate_zero, List.push_toArray, List.append_toArray, List.nil_append, List.cons_append]
  gi_wp2
  refine ⟨trivial, callsIn_wide.2 (c24 t _ _ fun v w' hb hq => ?_)⟩
  obtain ⟨q, hv, hql, hq⟩ := hq
  subst hv
  gi_wp2
  rw [eqf q w']
  gi_wp2
  have hsz : ((W.alloc (Obj.cells #[Value.slice la ln lc] 35)).alloc (Obj.cells #[Value.int IntKind.i64 0] 3)).heap.size = W.heap.size + 2 := by simp [World.size_alloc]
  have hsz3 : (((W.alloc (Obj.cells #[Value.slice la ln lc] 35)).alloc (Obj.cells #[Value.int IntKind.i64 0] 3)).alloc (Obj.cells #[Value.bool true] 4)).heap.size = W.heap.size + 3 := by simp [World.size_alloc]
  have hb0 : Bel W (((W.alloc (Obj.cells #[Value.slice la ln lc] 35)).alloc (Obj.cells #[Value.int IntKind.i64 0] 3)).alloc (Obj.cells #[Value.bool true] 4)) := ((below_alloc _).trans (below_alloc _)).trans (below_alloc _)
  generalize hW3 : (((W.alloc (Obj.cells #[Value.slice la ln lc] 35)).alloc (Obj.cells #[Value.int IntKind.i64 0] 3)).alloc (Obj.cells #[Value.bool true] 4)) = W3 at *
  have cc3 : W3.heap[W.heap.size]? = some (.cells ([.slice la ln lc] : List Value).toArray 35 (0, 0)) := by
    rw [← hW3]
    exact (heap_alloc_old _ _ (by simp only [World.size_alloc]; omega)).trans ((heap_alloc_old _ _ (by simp only [World.size_alloc]; omega)).trans (heap_alloc_new W _))
  have cc5 : W3.heap[W.heap.size + 1]? = some (.cells ([.int .i64 0] : List Value).toArray 3 (0, 0)) := by
    rw [← hW3]
    refine (heap_alloc_old _ _ (by simp only [World.size_alloc]; omega)).trans ?_
    have := heap_alloc_new (W.alloc (Obj.cells #[Value.slice la ln lc] 35)) (Obj.cells #[Value.int IntKind.i64 0] 3)
    rw [World.size_alloc] at this
    exact this
  have cc6 : W3.heap[W.heap.size + 1 + 1]? = some (.cells ([.bool true] : List Value).toArray 4 (0, 0)) := by
    rw [← hW3]
    have := heap_alloc_new ((W.alloc (Obj.cells #[Value.slice la ln lc] 35)).alloc (Obj.cells #[Value.int IntKind.i64 0] 3)) (Obj.cells #[Value.bool true] 4)
    rw [World.size_alloc, World.size_alloc] at this
    exact this
  have hI0 : I39 W W.heap.size (W.heap.size + 1) (W.heap.size + 1 + 1) la ln lc l [] w' := by
    have hs3 := hb.size
    refine ⟨(hb.block (by omega)).trans cc3, (hb.block (by omega)).trans cc5, ?_, hs, (hb0.trans hb).below, by omega⟩
    rw [show good2 l [] = true by unfold good2; simp]
    exact (hb.block (by omega)).trans cc6
  refine wpIn_rangeFunc_ownF rfl (by omega) (gf := 44) (lb := #[.pointer (pt q)]) rfl trivial (enters_of Tryz.func44 (by kernel_rfl) rfl) (hseq w' q (fun b => b = W.heap.size + 1 ∨ b = W.heap.size + 1 + 1) (hb0.trans hb) hq fun b hb' => ?_) (fun h k => h.trans k) (fun A l o o' hl' ho hc hw => ?_) (Below.refl _ _) (fun x => rfl)
    (I39 W W.heap.size (W.heap.size + 1) (W.heap.size + 1 + 1) la ln lc l) (fun _ _ _ => False) (own39 (by have := hb.size; omega)) (fun _ _ _ _ _ h _ _ => h) hI0
    (fun x => { tmps := #[.pointer t, .slice la ln lc, undef, .pointer (pt W.heap.size), .bool false, .pointer (pt (W.heap.size + 1)), .pointer (pt (W.heap.size + 1 + 1)), .func (.func 44) #[] #[.pointer (pt q)], .int .i64 x.1, .int .i64 x.2, .pointer t, .func (.func 44) #[] #[.pointer (pt q)], .func (.func 44) #[] #[.pointer (pt q)], .bool false, .func (.func 44) #[] #[.pointer (pt q)], .int .i64 x.1, .int .i64 x.2, undef, undef, undef, undef, undef, undef, undef, undef, undef, undef, undef, undef, undef, undef, undef, undef, undef, undef, undef, undef, undef, undef, undef, undef, undef, undef], defers := [] }) ?assign ?body ?done ?stop
  · have := hb.size
    omega
  · refine ⟨by simp, fun k o2 hk ho2 hw2 => ?_⟩
    by_cases e : k = l
    · subst e
      rw [ho] at ho2
      cases ho2
      rcases hw2 with h | h
      · rw [hc] at h; cases h
      · rw [hw] at h; cases h
    · exact (World.putObj_heap_other e).trans ho2
  case assign =>
    intro l x W K hK
    gi_wp2
    exact hK
  case body =>
    intro j pre x W2 hI hlen
    refine piece_sound (P := Tryz.prog) (H := Vczb.h7) (fn := Tryz.f7) (args := [.pointer t, .slice la ln lc, undef, .pointer (pt W.heap.size), .bool false, .pointer (pt (W.heap.size + 1)), .pointer (pt (W.heap.size + 1 + 1)), .func (.func 44) #[] #[.pointer (pt q)], .int .i64 x.1, .int .i64 x.2]) (w := W2) (R := fun e W' => ownPostK (KpN fun b => b = W.heap.size + 1 ∨ b = W.heap.size + 1 + 1) (I39 W W.heap.size (W.heap.size + 1) (W.heap.size + 1 + 1) la ln lc l) (fun _ _ _ => False) (pre ++ [x]) W2 (toExit e) { tmps := #[], defers := [] } W') (l := some j) (by kernel_rfl) (by kernel_rfl) Vczb.f7_ok ?_ rfl rfl (fun t v hv => ?_) (fun e a' w' hR' => ?_)
    · rw [Vczb.f7_eq]
      refine body39 hI (by omega) x fun W' hch hWk => ⟨⟨hch.size, fun k o hk ho => ?_⟩, ⟨hch.size, fun k o hk ho _ => ?_⟩, ?_⟩
      · refine (hch.block k (Array.getElem?_eq_some_iff.1 hk).1 fun e => ?_).trans hk
        rcases e with e | e <;> subst e
        · rw [hI.cc5] at hk; cases hk; cases ho
        · rw [hI.cc6] at hk; cases hk; cases ho
      · exact (hch.block k (Array.getElem?_eq_some_iff.1 ho).1 hk).trans ho
      · have := hWk
        rw [good_step] at this
        unfold I39
        rw [List.length_append, List.length_singleton]
        exact this
    · have ht := (List.getElem?_eq_some_iff.1 hv).1
      simp only [List.length_cons, List.length_nil] at ht
      have : t = 0 ∨ t = 1 ∨ t = 2 ∨ t = 3 ∨ t = 4 ∨ t = 5 ∨ t = 6 ∨ t = 7 ∨ t = 8 ∨ t = 9 := by omega
      rcases this with rfl | rfl | rfl | rfl | rfl | rfl | rfl | rfl | rfl | rfl <;> exact hv
    · cases e <;> exact hR'
  case done =>
    rintro D xs W2 hD rfl hI hK
    have k3 : W2.cell? { block := W.heap.size, off := 0 } = some (.slice la ln lc) := by simpa [Addr.add] using elt_cells hI.cc3 0 _ rfl
    have k5 : W2.cell? { block := W.heap.size + 1, off := 0 } = some (.int .i64 (xs.length : Int)) := by simpa [Addr.add] using elt_cells hI.cc5 0 _ rfl
    have k6 : W2.cell? { block := W.heap.size + 1 + 1, off := 0 } = some (.bool (good2 l xs)) := by simpa [Addr.add] using elt_cells hI.cc6 0 _ rfl
    have he := good_end l xs
    have hln := hI.sl0.len_le
    have hbl := hI.bel
    clear hI hW3
    generalize good2 l xs = gd at k6 he
    have hDW : ∀ o : Obj, Below W.heap.size W (W2.putObj D o) := fun o => hbl.trans ((Below.refl _ W2).grown (grownBy_putObj' W2 D o) hbl.size fun k e => by
      cases e
      have := hb.size
      omega)
    cases gd
    · gi_wp2
      refine ⟨by simp, .inl ⟨_, _, rfl, run_takeDeferred hK, ?_⟩⟩
      refine ⟨_, results_tmp rfl _ _ _, ?_⟩
      have := hR _ (hDW (.deferred none))
      rw [← he] at this
      exact this
    · gi_wp2
      refine ⟨by simp, .inl ⟨_, _, rfl, run_takeDeferred hK, ?_⟩⟩
      refine ⟨_, results_tmp rfl _ _ _, ?_⟩
      have := hR _ (hDW (.deferred none))
      rw [← he] at this
      have e2 : ((xs.length : Int) == (l.length : Int)) = (true && decide (xs.length = l.length)) := by
        rw [Bool.true_and, Bool.eq_iff_iff]
        simp only [beq_iff_eq, decide_eq_true_eq]
        omega
      simp only [Array.getD_eq_getD_getElem?]
      rw [← e2] at this
      exact this
  case stop =>
    intro D c pre W hD _ h _
    exact h.elim
end Go.Vc.SZ

/- Tiers: the law's walk and Pick, with what they are. -/
set_option maxRecDepth 100000
set_option maxHeartbeats 2000000
set_option linter.unusedVariables false
namespace Go.Vc.SZ
open Go Go.Vc Go.RowKit Go.Proofs Go.Vc.T Vcz Go.Shelf
attribute [local go_sem] Oper.semAt_some

variable {w W W' W0 W1 : World} {M N B B0 B' S : Nat → Prop} {gs ds : List Nat} {g gr q p3 p5 p6 : Nat} {p : TiP} {T Tg Ta n s : Ar4} {id r k : Int} {F : List Fr} {f : Fr}

/-- Blocks at hand, of which none is one of N. -/
theorem seq97B (h : TiX W B g T F) (hl : F.length ≤ 1000) (w : World) (q : Nat) (N : Nat → Prop) (hb : Bel W w) (hq : w.heap[q]? = some (.cells ([.pointer (pt g)] : List Value).toArray 23 (0, 0))) (hN : ∀ b, N b → b < w.heap.size ∧ W.heap.size ≤ b ∧ b ≠ q) :
    SeqStopsK Fence.wide 2 Tryz.prog 44 #[.pointer (pt q)] enc2 (KpN N) (fun xs => xs = walkL T F) (fun pre => pre ≠ [] ∧ pre <+: walkL T F) (walkL T F).length w :=
  seq97 (((h.mono (B0 := fun b => B b ∧ b < W.heap.size) fun b hl hb => ⟨hb, hl⟩)).call hb) hl hq (fun b hb => ⟨(hN b hb).1, fun hh => by have := hh.2; have := (hN b hb).2.1; omega, (hN b hb).2.2⟩) 2
/-- None at all. -/
theorem seq97n (w : World) (q : Nat) (N : Nat → Prop) (hq : w.heap[q]? = some (.cells ([.pointer none] : List Value).toArray 23 (0, 0))) :
    SeqStopsK Fence.wide 2 Tryz.prog 44 #[.pointer (pt q)] enc2 (KpN N) (fun xs => xs = []) (fun pre => pre ≠ [] ∧ pre <+: ([] : List P2)) 0 w := by
  intro l J Jx W hbel hab habx hY h0
  refine callsIn_wide.2 ?_
  refine f44_calls _ _ W _ ?_
  unfold f44_vc
  have hq : W.heap[q]? = some (.cells ([.pointer none] : List Value).toArray 23 (0, 0)) := (hbel.block q (Array.getElem?_eq_some_iff.1 hq).1).trans hq
  refine ⟨_, rd_f0 hq (by kernel_rfl) nod, ?_⟩
  refine at_callb (At.refl W) (c33n W) fun w3 hA3 _ hb3 => ⟨_, rfl, brB (fun _ => ⟨⟨_, rfl⟩, .inl ⟨[], rfl, hab _ _ _ none h0 (grown_below hb3 none) (fun r e => by cases e)⟩⟩) (fun e => by cases e)⟩
theorem walk_len (h : TiX W B g T F) (hl : F.length ≤ 1000) : (walkL T F).length < 1000000 := by
  obtain ⟨B', p, mr, mf, hsub, hT, hr, hm⟩ := h.ex
  have hordA := hT.all.is
  have hR : (RL T F).length ≤ 32 := by unfold RL; rw [List.length_map]; exact Nat.le_trans hordA.2 (all_len F)
  have hO : ∀ r ∈ RL T F, ((OL T F r).map fun id => (r, id)).length ≤ 1000 := fun r hr' => by
    have hrm := mem_RL hordA.1 hr'
    obtain ⟨f, hf, rfl⟩ := isR_iff.1 hrm.2
    obtain ⟨gr, hy⟩ := hr.of hf
    have hol := own_len F f.role
    rw [List.length_map]
    unfold OL
    rw [List.length_map]
    exact Nat.le_trans (hT.own _ _ hy).is.2 (by omega)
  unfold walkL
  generalize RL T F = L at *
  have : ∀ (L : List Int), (∀ r ∈ L, ((OL T F r).map fun id => (r, id)).length ≤ 1000) → (L.flatMap fun r => (OL T F r).map fun id => (r, id)).length ≤ 1000 * L.length := by
    intro L hL
    induction L with
    | nil => simp
    | cons r L ih =>
      rw [List.flatMap_cons, List.length_append, List.length_cons]
      have h1 := hL r (by simp)
      have h2 := ih fun r' hr' => hL r' (by simp [hr'])
      omega
  have := this L hO
  omega
theorem c7x (h : TiX W B g T F) (hl : F.length ≤ 1000) {la : Option Addr} {ln lc : Nat} {l : List P2} (hs : SlE W 2 prE l la ln lc) (R : Ending → World → Prop) (hR : ∀ w', Below W.heap.size W w' → R (.returned (.bool (decide (l = walkL T F)))) w') : Calls Tryz.prog 7 #[.pointer (pt g), .slice la ln lc] W R :=
  walks_of W hs (walk_len h hl) (seq97B h hl) R hR

/-! ### Pick -/
theorem c65 {l : List Int} {a : Option Addr} {n c : Nat} (W : World) (hs : SlE W 1 i1E l a n c) (v : Int) (hl : l.length < 9223372036854775807) : RetQ Tryz.prog 65 #[.slice a n c, .int .i64 v] W fun r W' => ∃ x : Int, r = .int .i64 x ∧ (0 ≤ x ↔ v ∈ l) := by
  intro R hR
  refine f65_calls _ _ _ _ W R ?_
  unfold f65_vc
  have hn := hs.len_le
  have hA := At.refl W
  refine ⟨fun s W' => At W [] W' ∧ ∃ i : Nat, s.1 = i ∧ i ≤ l.length ∧ v ∉ l.take i, fun s _ => n - s.1.toNat, ⟨hA, 0, rfl, Nat.zero_le _, by simp⟩, ?_⟩
  rintro x3 w4 ⟨hA, i, hi, hle, hno⟩
  simp only at hi
  subst hi
  have e1 := hs.1
  refine brD (fun hlt => ?_) fun hge => ?_
  · have hi1 : i < l.length := by omega
    obtain ⟨ad1, g1, el1, _⟩ := elt_at (P := Tryz.prog) (k := .i64) (t := 66) (hs.call hA.below) (List.getElem?_eq_getElem hi1) (e := 2) (by kernel_rfl) (by kernel_rfl)
    refine ⟨ad1, g1, _, el1.one (by kernel_rfl) no_ds, brE (fun he => leafq hR hA ⟨_, rfl, ?_⟩) fun he => ?_⟩
    · exact ⟨fun _ => he ▸ List.getElem_mem hi1, fun _ => by omega⟩
    · have hw : IntKind.i64.wrap ((i : Int) + 1) = ((i + 1 : Nat) : Int) := by rw [wrap_i64 (by omega) (by omega)]; omega
      rw [hw]
      refine ⟨⟨hA, i + 1, rfl, by omega, ?_⟩, by simp only; omega⟩
      rw [List.take_add_one, List.getElem?_eq_getElem hi1, List.mem_append]
      intro h
      rcases h with h | h
      · exact hno h
      · simp at h
        exact he h
  · refine leafq hR hA ⟨_, rfl, ?_⟩
    rw [List.take_of_length_le (by omega)] at hno
    exact ⟨fun h => by omega, fun h => absurd h hno⟩
theorem c47 {l : List Int} {a : Option Addr} {n c : Nat} (W : World) (hs : SlE W 1 i1E l a n c) (v : Int) (hl : l.length < 9223372036854775807) : Ret Tryz.prog 47 #[.slice a n c, .int .i64 v] W (.bool (decide (v ∈ l))) := by
  intro R hR
  refine f47_calls _ _ _ _ W R ?_
  unfold f47_vc
  refine at_callq (At.refl W) (c65 W hs v hl) fun r w2 hA _ _ ⟨x, hr, hx⟩ => ?_
  subst hr
  refine ⟨_, rfl, leaf hR hA ?_⟩
  simp only [ge_iff_le, hx]
end Go.Vc.SZ

/- Tiers: Pick. -/
set_option maxRecDepth 100000
set_option maxHeartbeats 2000000
namespace Go.Vc.SZ
open Go Go.Vc Go.RowKit Go.Proofs Go.Vc.T Vcz Go.Shelf
attribute [local go_sem] Oper.semAt_some

variable {w W W' W0 W1 : World} {M N B B0 B' S : Nat → Prop} {gs ds : List Nat} {g gr q p3 p4 p5 p6 : Nat} {p : TiP} {T Tg Ta n s : Ar4} {id r k : Int} {F : List Fr} {f : Fr}

def pickL (l : List Int) (L : List P2) : Option Int := (L.map (·.2)).find? fun id => decide (id ∈ l)
def pickV (o : Option Int) : Value := .tuple #[.int .i64 (o.getD 0), .bool o.isSome]
/-- Pick's own cells. -/
structure Pk (W0 W : World) (p3 p4 p5 : Nat) (la : Option Addr) (ln lc : Nat) (l : List Int) (v : Int) (b : Bool) : Prop where
  cc3 : W.heap[p3]? = some (.cells ([.slice la ln lc] : List Value).toArray 66 (0, 0))
  cc4 : W.heap[p4]? = some (.cells ([.int .i64 v] : List Value).toArray 2 (0, 0))
  cc5 : W.heap[p5]? = some (.cells ([.bool b] : List Value).toArray 4 (0, 0))
  sl0 : SlE W0 1 i1E l la ln lc
  bel : Below W0.heap.size W0 W
  new : W0.heap.size ≤ p3 ∧ W0.heap.size ≤ p4 ∧ W0.heap.size ≤ p5
theorem Pk.sl {la : Option Addr} {ln lc : Nat} {l : List Int} {v : Int} {b : Bool} (h : Pk W0 W p3 p4 p5 la ln lc l v b) : SlE W 1 i1E l la ln lc := h.sl0.mono (cell_below h.bel) fun _ _ h => h
theorem Pk.call {la : Option Addr} {ln lc : Nat} {l : List Int} {v : Int} {b : Bool} (h : Pk W0 W p3 p4 p5 la ln lc l v b) (hb : Bel W W') : Pk W0 W' p3 p4 p5 la ln lc l v b := by
  have k : ∀ {q : Nat} {o : Obj}, W.heap[q]? = some o → W'.heap[q]? = some o := fun hq => (hb.block (Array.getElem?_eq_some_iff.1 hq).1).trans hq
  exact ⟨k h.cc3, k h.cc4, k h.cc5, h.sl0, h.bel.trans (hb.below.mono h.bel.size), h.new⟩
theorem body37 {la : Option Addr} {ln lc : Nat} {l : List Int} {t0 t1 t2 t6 : Value} (h : Pk W0 W p3 p4 p5 la ln lc l 0 false) (hl : l.length < 9223372036854775807) (x : Int) {R : Ex → World → Prop}
    (hn : ∀ W', Bel W W' → Pk W0 W' p3 p4 p5 la ln lc l 0 false → x ∉ l → R .normal W')
    (hr : ∀ W', Chg (fun b => b = p4 ∨ b = p5) W W' → Pk W0 W' p3 p4 p5 la ln lc l x true → x ∈ l → R .ret W') : Vczb.f27_vc t0 t1 t2 (.pointer (pt p3)) (.pointer (pt p4)) (.pointer (pt p5)) t6 x W R := by
  unfold Vczb.f27_vc
  have hA : AtF W (fun b => b = p4 ∨ b = p5) [] W := AtF.refl W _
  refine ⟨_, _, _, rd_f0 h.cc3 (by kernel_rfl) nod, ?_⟩
  refine c47 W h.sl x hl _ fun w5 hb => ⟨_, rfl, brD (fun hx => ?_) (fun hx => ?_)⟩
  · have h5 := h.call hb
    have hA := hA.call hb
    have h34 : p3 ≠ p4 := cells_ne h5.cc3 h5.cc4 (by decide)
    have h35 : p3 ≠ p5 := cells_ne h5.cc3 h5.cc5 (by decide)
    have h45 : p4 ≠ p5 := cells_ne h5.cc4 h5.cc5 (by decide)
    refine opw_storeF hA h5.cc4 (.inr (.inl rfl)) (by simp) (cells' := [.int .i64 x]) (by kernel_rfl) fun w8 hA8 _ hch8 h4 => ?_
    have h55 : w8.heap[p5]? = some (.cells ([.bool false] : List Value).toArray 4 (0, 0)) := (hch8.block p5 (Array.getElem?_eq_some_iff.1 h5.cc5).1 (Ne.symm h45)).trans h5.cc5
    refine opw_storeF hA8 h55 (.inr (.inr rfl)) (by simp) (cells' := [.bool true]) (by kernel_rfl) fun w10 hA10 _ hch10 h5' => ?_
    have hch : Chg (fun b => b = p4 ∨ b = p5) W w10 := hA10.chg
    refine hr w10 hch ⟨(hch.block p3 (Array.getElem?_eq_some_iff.1 h.cc3).1 (fun e => e.elim h34 h35)).trans h.cc3, ?_, h5', h.sl0, ⟨hch.os.trans h.bel.os, hch.tape.trans h.bel.tape, hch.output.trans h.bel.output, Nat.le_trans h.bel.size hch.size, fun b hb => (hch.block b (Nat.lt_of_lt_of_le hb h.bel.size) (fun e => by have := h.new; omega)).trans (h.bel.block b hb)⟩, h.new⟩ hx
    exact (hch10.block p4 (Array.getElem?_eq_some_iff.1 h4).1 h45).trans h4
  · exact hn w5 hb (h.call hb) hx
def I37 (W0 : World) (p3 p4 p5 : Nat) (la : Option Addr) (ln lc : Nat) (l : List Int) (pre : List P2) (W : World) : Prop := Pk W0 W p3 p4 p5 la ln lc l 0 false ∧ ∀ y ∈ pre, y.2 ∉ l
def X37 (W0 : World) (p3 p4 p5 : Nat) (la : Option Addr) (ln lc : Nat) (l : List Int) (c : Code) (pre : List P2) (W : World) : Prop := c = .ret ∧ ∃ pre' x, pre = pre' ++ [x] ∧ Pk W0 W p3 p4 p5 la ln lc l x.2 true ∧ (∀ y ∈ pre', y.2 ∉ l) ∧ x.2 ∈ l
theorem pick_none {l : List Int} {L : List P2} (h : ∀ y ∈ L, y.2 ∉ l) : pickL l L = none := by
  unfold pickL
  rw [List.find?_eq_none]
  intro x hx
  obtain ⟨y, hy, rfl⟩ := List.mem_map.1 hx
  simpa using h y hy
theorem pick_some {l : List Int} {L pre' : List P2} {x : P2} (hp : pre' ++ [x] <+: L) (h : ∀ y ∈ pre', y.2 ∉ l) (hx : x.2 ∈ l) : pickL l L = some x.2 := by
  obtain ⟨t, rfl⟩ := hp
  have := pick_none h
  unfold pickL at this ⊢
  rw [List.map_append, List.map_append, List.find?_append, List.find?_append, this]
  simp [hx]
theorem pk_own {la : Option Addr} {ln lc : Nat} {l : List Int} {v : Int} {bb : Bool} {b : Nat} (hb : W0.heap.size ≤ b) {A C : World} {row : Option Nat} (h : Pk W0 A p3 p4 p5 la ln lc l v bb) (hg : A.grownBy C row) (hr : ∀ r, row = some r → b ≤ r ∧ ∃ o : Obj, A.heap[r]? = some o ∧ o.isCells = false) : Pk W0 C p3 p4 p5 la ln lc l v bb := by
  have kc : ∀ {k : Nat} {cs : Array Value} {t : TypeId} {fr : Nat × Nat}, A.heap[k]? = some (.cells cs t fr) → C.heap[k]? = A.heap[k]? := fun {k cs t fr} hk => hg.block k (Array.getElem?_eq_some_iff.1 hk).1 fun e => by
    obtain ⟨_, o, ho, hno⟩ := hr k e.symm
    rw [hk] at ho
    cases ho
    cases hno
  exact ⟨(kc h.cc3).trans h.cc3, (kc h.cc4).trans h.cc4, (kc h.cc5).trans h.cc5, h.sl0, ⟨hg.os.trans h.bel.os, hg.tape.trans h.bel.tape, hg.output.trans h.bel.output, Nat.le_trans h.bel.size hg.size, fun k hk => (hg.block k (Nat.lt_of_lt_of_le hk h.bel.size) (fun e => by have := (hr k e.symm).1; omega)).trans (h.bel.block k hk)⟩, h.new⟩
theorem own37 {la : Option Addr} {ln lc : Nat} {l : List Int} {b : Nat} (hb : W0.heap.size ≤ b) : OwnFrom b (I37 W0 p3 p4 p5 la ln lc l) := fun _ _ _ _ h hg hr => ⟨pk_own hb h.1 hg hr, h.2⟩
theorem ownX37 {la : Option Addr} {ln lc : Nat} {l : List Int} {b : Nat} (hb : W0.heap.size ≤ b) (c : Code) : OwnFrom b (X37 W0 p3 p4 p5 la ln lc l c) := fun _ _ _ _ ⟨e, pre', x, e2, h, h2, h3⟩ hg hr => ⟨e, pre', x, e2, pk_own hb h hg hr, h2, h3⟩

set_option linter.unusedVariables false
theorem setCell_same {b : Nat} {v : Value} {t : TypeId} {fr : Nat × Nat} (h : W.heap[b]? = some (.cells ([v] : List Value).toArray t fr)) : W.setCell { block := b, off := 0 } v = W := by
  unfold World.setCell
  have : W.heap.modify b (fun
      | .cells c elem frozen => .cells (if (none : Option Nat).isSome then c else c.setIfInBounds 0 v) elem frozen
      | o => o) = W.heap := by
    apply Array.ext_getElem?
    intro k
    rw [Array.getElem?_modify]
    split
    · rename_i e
      subst e
      rw [h]
      rfl
    · rfl
  exact congrArg (fun hp => { W with heap := hp }) this
theorem run_get {ty : TypeId} {a : Addr} {v : Value} (hn : ∀ w, (isAgg ty).run Tryz.prog w = .ok false w) (hc : W.cell? a = some v) : (loadVar ty a).run Tryz.prog W = .ok v W := by
  unfold loadVar
  rw [Sem.run_bind, hn]
  simp [Result.andThen, load, Sem.run, hc]
theorem res37 {tmps : Array Value} {a b : Addr} {v u : Value} (h4 : tmps.getD 4 undef = .pointer (some a)) (h5 : tmps.getD 5 undef = .pointer (some b)) (k4 : W.cell? a = some v) (k5 : W.cell? b = some u) : (results Tryz.f27 tmps).run Tryz.prog W = .ok (.tuple #[v, u]) W := by
  have h4' : tmps[4]?.getD undef = .pointer (some a) := by simpa using h4
  have h5' : tmps[5]?.getD undef = .pointer (some b) := by simpa using h5
  simp [results, h4', h5', asAddr, Sem.run_bind, Result.andThen, run_get (ty := 2) (fun _ => rfl) k4, run_get (ty := 4) (fun _ => rfl) k5]
/-- Leaving: the results, out of their cells. -/
theorem leave37 {R : Ending → World → Prop} {la : Option Addr} {ln lc : Nat} {l : List Int} {v : Int} {bb : Bool} {D : Nat} {W2 w' : World} {t0 t1 t2 t3 t6 t7 t8 t9 t10 t11 t12 t13 t14 t15 : Value} (hD : w'.heap.size ≤ D) (hw : W0.heap.size ≤ w'.heap.size) (hI : Pk W0 W2 p3 p4 p5 la ln lc l v bb) (hK : W2.heap[D]? = some (.deferred (some [])))
    (hR : ∀ w3, Below W0.heap.size W0 w3 → R (.returned (.tuple #[.int .i64 v, .bool bb])) w3) :
    bodyPostM Fence.wide 3 Tryz.prog Tryz.f27 R .ret { tmps := #[t0, t1, t2, t3, .pointer (some { block := p4, off := 0 }), .pointer (some { block := p5, off := 0 }), t6, t7, t8, t9, t10, t11, t12, t13, t14, t15], defers := [{ target := Target.collected D, args := #[] }] } W2 := by
  refine ⟨by simp, .inl ⟨_, _, rfl, run_takeDeferred hK, ?_⟩⟩
  have d4 : p4 ≠ D := fun e => by subst e; rw [hI.cc4] at hK; cases hK
  have d5 : p5 ≠ D := fun e => by subst e; rw [hI.cc5] at hK; cases hK
  have k4 : (W2.putObj D (.deferred none)).heap[p4]? = _ := (World.putObj_heap_other d4).trans hI.cc4
  have k5 : (W2.putObj D (.deferred none)).heap[p5]? = _ := (World.putObj_heap_other d5).trans hI.cc5
  refine ⟨_, res37 (v := .int .i64 v) (u := .bool bb) rfl rfl (by simpa [Addr.add] using elt_cells k4 0 _ rfl) (by simpa [Addr.add] using elt_cells k5 0 _ rfl), ?_⟩
  exact hR _ (hI.bel.trans ((Below.refl _ W2).grown (grownBy_putObj' W2 D _) hI.bel.size fun k e => by
    cases e
    omega))
theorem pick_of {t : Option Addr} {la : Option Addr} {ln lc : Nat} {l : List Int} {L : List P2} (W : World) (hs : SlE W 1 i1E l la ln lc) (hl : l.length < 9223372036854775807)
    (hseq : ∀ (w : World) (q : Nat) (N : Nat → Prop), Bel W w → w.heap[q]? = some (.cells ([.pointer t] : List Value).toArray 23 (0, 0)) → (∀ b, N b → b < w.heap.size ∧ W.heap.size ≤ b ∧ b ≠ q) → SeqStopsK Fence.wide 2 Tryz.prog 44 #[.pointer (pt q)] enc2 (KpN N) (fun xs => xs = L) (fun pre => pre ≠ [] ∧ pre <+: L) L.length w)
    (R : Ending → World → Prop) (hR : ∀ w', Below W.heap.size W w' → R (.returned (pickV (pickL l L))) w') : Calls Tryz.prog 27 #[.pointer t, .slice la ln lc] W R := by
  refine (callsIn_wide (n := 3)).1 ?_
  refine callsIn_of_wp_marks Tryz.func27 rfl trivial ?_ rfl
  simp only [Tryz.ntmps27, List.size_toArray, List.length_cons, List.length_nil, Nat.reduceAdd, Nat.reduceSub, Array.replicate_succ, Array.replicate_zero, List.push_toArray, List.append_toArray, List.nil_append, List.cons_append]
  gi_wp2
  have hsz : ((W.alloc (Obj.cells #[Value.slice la ln lc] 66)).alloc (Obj.cells #[Value.int IntKind.i64 0] 2)).heap.size = W.heap.size + 2 := by simp [World.size_alloc]
  have hsz3 : (((W.alloc (Obj.cells #[Value.slice la ln lc] 66)).alloc (Obj.cells #[Value.int IntKind.i64 0] 2)).alloc (Obj.cells #[Value.bool false] 4)).heap.size = W.heap.size + 3 := by simp [World.size_alloc]
  have hb0 : Bel W (((W.alloc (Obj.cells #[Value.slice la ln lc] 66)).alloc (Obj.cells #[Value.int IntKind.i64 0] 2)).alloc (Obj.cells #[Value.bool false] 4)) := ((below_alloc _).trans (below_alloc _)).trans (below_alloc _)
  generalize hW3 : (((W.alloc (Obj.cells #[Value.slice la ln lc] 66)).alloc (Obj.cells #[Value.int IntKind.i64 0] 2)).alloc (Obj.cells #[Value.bool false] 4)) = W3 at *
  refine ⟨trivial, callsIn_wide.2 (c24 t _ _ fun v w' hb hq => ?_)⟩
  obtain ⟨q, hv, hql, hq⟩ := hq
  subst hv
  gi_wp2
  have cc3 : W3.heap[W.heap.size]? = some (.cells ([.slice la ln lc] : List Value).toArray 66 (0, 0)) := by
    rw [← hW3]
    exact (heap_alloc_old _ _ (by simp only [World.size_alloc]; omega)).trans ((heap_alloc_old _ _ (by simp only [World.size_alloc]; omega)).trans (heap_alloc_new W _))
  have cc4 : W3.heap[W.heap.size + 1]? = some (.cells ([.int .i64 0] : List Value).toArray 2 (0, 0)) := by
    rw [← hW3]
    refine (heap_alloc_old _ _ (by simp only [World.size_alloc]; omega)).trans ?_
    have := heap_alloc_new (W.alloc (Obj.cells #[Value.slice la ln lc] 66)) (Obj.cells #[Value.int IntKind.i64 0] 2)
    rw [World.size_alloc] at this
    exact this
  have cc5 : W3.heap[W.heap.size + 1 + 1]? = some (.cells ([.bool false] : List Value).toArray 4 (0, 0)) := by
    rw [← hW3]
    have := heap_alloc_new ((W.alloc (Obj.cells #[Value.slice la ln lc] 66)).alloc (Obj.cells #[Value.int IntKind.i64 0] 2)) (Obj.cells #[Value.bool false] 4)
    rw [World.size_alloc, World.size_alloc] at this
    exact this
  have hI0 : I37 W W.heap.size (W.heap.size + 1) (W.heap.size + 1 + 1) la ln lc l [] w' := by
    have hs3 := hb.size
    exact ⟨⟨(hb.block (by omega)).trans cc3, (hb.block (by omega)).trans cc4, (hb.block (by omega)).trans cc5, hs, (hb0.trans hb).below, by omega⟩, by simp⟩
  refine wpIn_rangeFunc_ownF rfl (by omega) (gf := 44) (lb := #[.pointer (pt q)]) rfl trivial (enters_of Tryz.func44 (by kernel_rfl) rfl) (hseq w' q (fun b => b = W.heap.size + 1 ∨ b = W.heap.size + 1 + 1) (hb0.trans hb) hq fun b hb' => ?_) (fun h k => h.trans k) (fun A l o o' hl' ho hc hw => ?_) (Below.refl _ _) (fun x => rfl)
    (I37 W W.heap.size (W.heap.size + 1) (W.heap.size + 1 + 1) la ln lc l) (X37 W W.heap.size (W.heap.size + 1) (W.heap.size + 1 + 1) la ln lc l) (own37 (by have := hb.size; omega)) (fun c => ownX37 (by have := hb.size; omega) c) hI0
    (fun x => { tmps := #[.pointer t, .slice la ln lc, undef, .pointer (pt W.heap.size), .pointer (pt (W.heap.size + 1)), .pointer (pt (W.heap.size + 1 + 1)), undef, .int .i64 x.2, .pointer t, .func (.func 44) #[] #[.pointer (pt q)], .int .i64 x.1, .int .i64 x.2, undef, undef, undef, undef], defers := [] }) ?assign ?body ?done ?stop
  · have := hb.size
    omega
  · refine ⟨by simp, fun k o2 hk ho2 hw2 => ?_⟩
    by_cases e : k = l
    · subst e
      rw [ho] at ho2
      cases ho2
      rcases hw2 with h | h
      · rw [hc] at h; cases h
      · rw [hw] at h; cases h
    · exact (World.putObj_heap_other e).trans ho2
  case assign =>
    intro l x W K hK
    gi_wp2
    exact hK
  case body =>
    intro j pre x W2 hI hlen
    refine piece_sound (P := Tryz.prog) (H := Vczb.h27) (fn := Tryz.f27) (args := [.pointer t, .slice la ln lc, undef, .pointer (pt W.heap.size), .pointer (pt (W.heap.size + 1)), .pointer (pt (W.heap.size + 1 + 1)), undef, .int .i64 x.2]) (w := W2) (R := fun e W' => ownPostK (KpN fun b => b = W.heap.size + 1 ∨ b = W.heap.size + 1 + 1) (I37 W W.heap.size (W.heap.size + 1) (W.heap.size + 1 + 1) la ln lc l) (X37 W W.heap.size (W.heap.size + 1) (W.heap.size + 1 + 1) la ln lc l) (pre ++ [x]) W2 (toExit e) { tmps := #[], defers := [] } W') (l := some j) (by kernel_rfl) (by kernel_rfl) Vczb.f27_ok ?_ rfl rfl (fun t v hv => ?_) (fun e a' w' hR' => ?_)
    · rw [Vczb.f27_eq]
      refine body37 hI.1 hl x.2 (fun W' hb2 hp hx => ⟨⟨hb2.size, fun k o hk _ => (hb2.block (Array.getElem?_eq_some_iff.1 hk).1).trans hk⟩, KpN.bel hb2, hp, fun y hy => ?_⟩) (fun W' hch hp hx => ⟨⟨hch.size, fun k o hk ho => ?_⟩, rfl, pre, x, rfl, hp, hI.2, hx⟩)
      · rcases List.mem_append.1 hy with h | h
        · exact hI.2 y h
        · rw [List.mem_singleton.1 h]
          exact hx
      · refine (hch.block k (Array.getElem?_eq_some_iff.1 hk).1 fun e => ?_).trans hk
        rcases e with e | e <;> subst e
        · rw [hI.1.cc4] at hk; cases hk; cases ho
        · rw [hI.1.cc5] at hk; cases hk; cases ho
    · have ht := (List.getElem?_eq_some_iff.1 hv).1
      simp only [List.length_cons, List.length_nil] at ht
      have : t = 0 ∨ t = 1 ∨ t = 2 ∨ t = 3 ∨ t = 4 ∨ t = 5 ∨ t = 6 ∨ t = 7 := by omega
      rcases this with rfl | rfl | rfl | rfl | rfl | rfl | rfl | rfl <;> exact hv
    · cases e <;> exact hR'
  case done =>
    rintro D xs W2 hD rfl ⟨hI, hno⟩ hK
    have k4 : W2.cell? { block := W.heap.size + 1, off := 0 } = some (.int .i64 0) := by simpa [Addr.add] using elt_cells hI.cc4 0 _ rfl
    have k5 : W2.cell? { block := W.heap.size + 1 + 1, off := 0 } = some (.bool false) := by simpa [Addr.add] using elt_cells hI.cc5 0 _ rfl
    have f4 : W2.frozen? { block := W.heap.size + 1, off := 0 } = false := by simp [World.frozen?, hI.cc4]
    have f5 : W2.frozen? { block := W.heap.size + 1 + 1, off := 0 } = false := by simp [World.frozen?, hI.cc5]
    have s4 := setCell_same hI.cc4
    have s5 := setCell_same hI.cc5
    gi_wp2
    refine leave37 hD (by have := hb.size; omega) hI hK fun w3 h3 => ?_
    have := hR w3 h3
    rw [pick_none hno] at this
    exact this
  case stop =>
    rintro D c pre W2 hD ⟨hne, hpre⟩ ⟨rfl, pre', x, rfl, hI, hno, hx⟩ hK
    gi_wp2
    refine leave37 hD (by have := hb.size; omega) hI hK fun w3 h3 => ?_
    have := hR w3 h3
    rw [pick_some hpre hno hx] at this
    exact this
theorem c27x (h : TiX W B g T F) (hl : F.length ≤ 1000) {la : Option Addr} {ln lc : Nat} {l : List Int} (hs : SlE W 1 i1E l la ln lc) (hln : l.length < 9223372036854775807) (R : Ending → World → Prop) (hR : ∀ w', Below W.heap.size W w' → R (.returned (pickV (pickL l (walkL T F)))) w') : Calls Tryz.prog 27 #[.pointer (pt g), .slice la ln lc] W R :=
  pick_of W hs hln (seq97B h hl) R hR
theorem c27n (W : World) {la : Option Addr} {ln lc : Nat} {l : List Int} (hs : SlE W 1 i1E l la ln lc) (hln : l.length < 9223372036854775807) (R : Ending → World → Prop) (hR : ∀ w', Below W.heap.size W w' → R (.returned (pickV none)) w') : Calls Tryz.prog 27 #[.pointer none, .slice la ln lc] W R :=
  pick_of (L := []) W hs hln (fun w q N _ hq _ => seq97n w q N hq) R fun w' hb => by
    have := hR w' hb
    rwa [← pick_none (l := l) (L := []) (by simp)] at this
end Go.Vc.SZ

/- The formulas of functions, printed by a program (VcTool.lean): each is what the generator's formula comes to, by the kernel's reckoning; whoever proves one has the function's contract. -/
set_option maxRecDepth 100000
set_option maxHeartbeats 1000000
set_option linter.unusedVariables false
namespace Vcz
open Go Go.Vc Go.RowKit
/-! (manciple/mancipleref10.M).Do -/
def h5 : Hints := ⟨[2, 3, 4, 7, 8, 11, 13, 15, 17], [50, 87], [21, 25, 34, 45, 67, 76, 81, 93, 96, 99, 139, 63, 126, 130, 135], [(22, [0, 1, 2, 3, 4, 5, 6, 7, 8, 9, 10])], [], [(19, ⟨[(9, .int .i64)], [(8, .cons (.int .i64) (.cons (.int .i64) (.cons (.int .i64) (.cons (.int .i64) (.cons (.sl) (.nil))))))]⟩)], [], [], []⟩
def f5_vc (m_0 : Int) (m_1 : Int) (m_2 : Int) (m_3 : Int) (m_4a : Option Addr) (m_4n : Nat) (m_4c : Nat) (a_0 : Int) (a_1 : Int) (a_2 : Int) (a_3 : Int) (a_4 : Int) (a_5 : Int) (a_6 : Int) (a_7 : Int) (w : World) (R : Ending → World → Prop) : Prop :=
 ∀ (n1 : Nat),
 w.heap.size ≤ n1 →
 ∀ (n2 : Nat),
 w.heap.size ≤ n2 →
 ∀ (n3 : Nat),
 w.heap.size ≤ n3 →
 ((a_0 == 0) = true →
 ∀ (w4 : World),
 Bel w w4 →
 Under [n1, n2, n3] w4 →
 Calls Proofs.Tryz.prog 11 #[Value.agg #[Value.int IntKind.i64 a_4, Value.int IntKind.i64 a_5, Value.int IntKind.i64 a_6, Value.int IntKind.i64 a_7]] w4 fun (e5 : Ending) (w6 : World) =>
 ∃ (b7 : Bool),
 e5 = Ending.returned (Value.bool b7) ∧
 Keeps [n1, n2, n3] w4 w6 ∧
 ((!b7) = true →
 ∀ (w8 : World),
 Evo [n3] w6 w8 →
 Under [n1, n2, n3] w8 →
 R
 (Ending.returned
 (Value.tuple #[Value.agg #[Value.int IntKind.i64 m_0, Value.int IntKind.i64 m_1, Value.int IntKind.i64 m_2, Value.int IntKind.i64 m_3, Value.slice m_4a m_4n m_4c], Value.int IntKind.i64 41]))
 w8) ∧
 ((!b7) = false →
 ∀ (w9 : World),
 Evo [n3] w6 w9 →
 Under [n1, n2, n3] w9 →
 R
 (Ending.returned
 (Value.tuple #[Value.agg #[Value.int IntKind.i64 a_4, Value.int IntKind.i64 a_5, Value.int IntKind.i64 a_6, Value.int IntKind.i64 a_7, Value.slice m_4a m_4n m_4c], Value.int IntKind.i64 0]))
 w9)) ∧
 ((a_0 == 0) = false →
 ((a_0 == 1) = true →
 ∀ (w10 : World),
 Bel w w10 →
 Under [n1, n2, n3] w10 →
 Calls Proofs.Tryz.prog 12
 #[Value.agg #[Value.int IntKind.i64 m_0, Value.int IntKind.i64 m_1, Value.int IntKind.i64 m_2, Value.int IntKind.i64 m_3, Value.slice m_4a m_4n m_4c],
 Value.agg
 #[Value.int IntKind.i64 a_0, Value.int IntKind.i64 a_1, Value.int IntKind.i64 a_2, Value.int IntKind.i64 a_3, Value.int IntKind.i64 a_4, Value.int IntKind.i64 a_5, Value.int IntKind.i64 a_6,
 Value.int IntKind.i64 a_7]]
 w10 fun (e11 : Ending) (w12 : World) =>
 ∃ (x13 : Int),
 ∃ (x14 : Int),
 ∃ (x15 : Int),
 ∃ (x16 : Int),
 ∃ (a17 : Option Addr),
 ∃ (n18 : Nat),
 ∃ (n19 : Nat),
 ∃ (x20 : Int),
 e11 =
 Ending.returned
 (Value.tuple #[Value.agg #[Value.int IntKind.i64 x13, Value.int IntKind.i64 x14, Value.int IntKind.i64 x15, Value.int IntKind.i64 x16, Value.slice a17 n18 n19], Value.int IntKind.i64 x20]) ∧
 Keeps [n1, n2, n3] w10 w12 ∧
 ∀ (w21 : World),
 Evo [n3] w12 w21 →
 Under [n1, n2, n3] w21 →
 R
 (Ending.returned
 (Value.tuple
 #[Value.agg #[Value.int IntKind.i64 x13, Value.int IntKind.i64 x14, Value.int IntKind.i64 x15, Value.int IntKind.i64 x16, Value.slice a17 n18 n19], Value.int IntKind.i64 x20]))
 w21) ∧
 ((a_0 == 1) = false →
 ∀ (w22 : World),
 Bel w w22 →
 Under [n1, n2, n3] w22 →
 Calls Proofs.Tryz.prog 13 #[Value.agg #[Value.int IntKind.i64 m_0, Value.int IntKind.i64 m_1, Value.int IntKind.i64 m_2, Value.int IntKind.i64 m_3, Value.slice m_4a m_4n m_4c], Value.int IntKind.i64 a_1] w22
 fun (e23 : Ending) (w24 : World) =>
 ∃ (x25 : Int),
 e23 = Ending.returned (Value.int IntKind.i64 x25) ∧
 Keeps [n1, n2, n3] w22 w24 ∧
 (decide (x25 < 0) = true →
 ∀ (w26 : World),
 Evo [n3] w24 w26 →
 Under [n1, n2, n3] w26 →
 R
 (Ending.returned
 (Value.tuple #[Value.agg #[Value.int IntKind.i64 m_0, Value.int IntKind.i64 m_1, Value.int IntKind.i64 m_2, Value.int IntKind.i64 m_3, Value.slice m_4a m_4n m_4c], Value.int IntKind.i64 43]))
 w26) ∧
 (decide (x25 < 0) = false →
 ∃ (ad27 : Addr),
 Gives Proofs.Tryz.prog (Instr.indexAt 26 (Value.slice m_4a m_4n m_4c) (Value.int IntKind.i64 x25)) (Value.pointer (some ad27)) ∧
 ∃ (x28 : Int),
 ∃ (x29 : Int),
 ∃ (x30 : Int),
 ∃ (x31 : Int),
 ∃ (x32 : Int),
 ∃ (x33 : Int),
 ∃ (x34 : Int),
 ∃ (b35 : Bool),
 Reads Proofs.Tryz.prog [] (Instr.loadAt 49 (Value.pointer (some ad27))) w24
 (Value.agg
 #[Value.int IntKind.i64 x28, Value.int IntKind.i64 x29, Value.int IntKind.i64 x30, Value.int IntKind.i64 x31, Value.int IntKind.i64 x32, Value.int IntKind.i64 x33,
 Value.int IntKind.i64 x34, Value.bool b35]) ∧
 ∀ (n36 : Nat),
 w24.heap.size ≤ n36 →
 ((a_0 == 2) = true →
 ∀ (n37 : Nat),
 w24.heap.size ≤ n37 →
 ∃ (J38 : Int × Int × Int × Int × Int × (Option Addr × Nat × Nat) × Unit → World → Prop),
 ∃ (J39 : Int × Int × Int × Int × Int × (Option Addr × Nat × Nat) × Unit → World → Nat),
 (∀ (w40 : World), Evo [n37, n36] w24 w40 → Under [n1, n2, n3, n36, n37] w40 → J38 (0, m_0, m_1, m_2, m_3, (none, 0, 0), ()) w40) ∧
 ∀ (x41 x42 x43 x44 x45 : Int) (a46 : Option Addr) (n47 n48 : Nat) (w49 : World),
 J38 (x41, x42, x43, x44, x45, (a46, n47, n48), ()) w49 →
 (decide (x41 < (↑m_4n : Int)) = true →
 ((x41 != x25) = true →
 ∃ (ad50 : Addr),
 Gives Proofs.Tryz.prog (Instr.indexAt 26 (Value.slice m_4a m_4n m_4c) (Value.int IntKind.i64 x41)) (Value.pointer (some ad50)) ∧
 ∃ (x51 : Int),
 ∃ (x52 : Int),
 ∃ (x53 : Int),
 ∃ (x54 : Int),
 ∃ (x55 : Int),
 ∃ (x56 : Int),
 ∃ (x57 : Int),
 ∃ (b58 : Bool),
 Reads Proofs.Tryz.prog [] (Instr.loadAt 49 (Value.pointer (some ad50))) w49
 (Value.agg
 #[Value.int IntKind.i64 x51, Value.int IntKind.i64 x52, Value.int IntKind.i64 x53, Value.int IntKind.i64 x54,
 Value.int IntKind.i64 x55, Value.int IntKind.i64 x56, Value.int IntKind.i64 x57, Value.bool b58]) ∧
 ∀ (w59 : World),
 Bel w49 w59 →
 Under [n1, n2, n3, n36, n37] w59 →
 OpW Proofs.Tryz.prog
 (valueS
 (Instr.buildSlice 26 1
 #[(0,
 Value.agg
 #[Value.int IntKind.i64 x51, Value.int IntKind.i64 x52, Value.int IntKind.i64 x53, Value.int IntKind.i64 x54,
 Value.int IntKind.i64 x55, Value.int IntKind.i64 x56, Value.int IntKind.i64 x57, Value.bool b58])]))
 w59 fun (v60 : Value) (w61 : World) =>
 ∃ (a62 : Option Addr),
 ∃ (n63 : Nat),
 ∃ (n64 : Nat),
 v60 = Value.slice a62 n63 n64 ∧
 Keeps [n1, n2, n3, n36, n37] w59 w61 ∧
 OpW Proofs.Tryz.prog
 (builtin Builtin.append #[26, 26] 26 #[false, false] #[Value.slice a46 n47 n48, Value.slice a62 n63 n64])
 w61 fun (v65 : Value) (w66 : World) =>
 ∃ (a67 : Option Addr),
 ∃ (n68 : Nat),
 ∃ (n69 : Nat),
 v65 = Value.slice a67 n68 n69 ∧
 Keeps [n1, n2, n3, n36, n37] w61 w66 ∧
 ∀ (w70 : World),
 Evo [n37] w66 w70 →
 Under [n1, n2, n3, n36, n37] w70 →
 J38 (IntKind.i64.wrap (x41 + 1), x42, x43, x44, x45, (a67, n68, n69), ()) w70 ∧
 J39 (IntKind.i64.wrap (x41 + 1), x42, x43, x44, x45, (a67, n68, n69), ()) w70 <
 J39 (x41, x42, x43, x44, x45, (a46, n47, n48), ()) w49) ∧
 ((x41 != x25) = false →
 J38 (IntKind.i64.wrap (x41 + 1), x42, x43, x44, x45, (a46, n47, n48), ()) w49 ∧
 J39 (IntKind.i64.wrap (x41 + 1), x42, x43, x44, x45, (a46, n47, n48), ()) w49 < J39 (x41, x42, x43, x44, x45, (a46, n47, n48), ()) w49)) ∧
 (decide (x41 < (↑m_4n : Int)) = false →
 ∀ (w71 : World),
 Evo [n3] w49 w71 →
 Under [n1, n2, n3, n36, n37] w71 →
 R
 (Ending.returned
 (Value.tuple
 #[Value.agg
 #[Value.int IntKind.i64 x42, Value.int IntKind.i64 x43, Value.int IntKind.i64 x44, Value.int IntKind.i64 x45, Value.slice a46 n47 n48],
 Value.int IntKind.i64 0]))
 w71)) ∧
 ((a_0 == 2) = false →
 ((a_0 == 3) = true →
 ∀ (w72 : World),
 Evo [n36, n36] w24 w72 →
 Under [n1, n2, n3, n36] w72 →
 Calls Proofs.Tryz.prog 17
 #[Value.agg #[Value.int IntKind.i64 m_0, Value.int IntKind.i64 m_1, Value.int IntKind.i64 m_2, Value.int IntKind.i64 m_3, Value.slice m_4a m_4n m_4c],
 Value.int IntKind.i64 x25,
 Value.agg
 #[Value.int IntKind.i64 x28, Value.int IntKind.i64 x29, Value.int IntKind.i64 x30, Value.int IntKind.i64 x31, Value.int IntKind.i64 x32,
 Value.int IntKind.i64 x33, Value.int IntKind.i64 x34, Value.bool true]]
 w72 fun (e73 : Ending) (w74 : World) =>
 ∃ (x75 : Int),
 ∃ (x76 : Int),
 ∃ (x77 : Int),
 ∃ (x78 : Int),
 ∃ (a79 : Option Addr),
 ∃ (n80 : Nat),
 ∃ (n81 : Nat),
 e73 =
 Ending.returned
 (Value.agg
 #[Value.int IntKind.i64 x75, Value.int IntKind.i64 x76, Value.int IntKind.i64 x77, Value.int IntKind.i64 x78, Value.slice a79 n80 n81]) ∧
 Keeps [n1, n2, n3, n36] w72 w74 ∧
 ∀ (w82 : World),
 Evo [n3] w74 w82 →
 Under [n1, n2, n3, n36] w82 →
 R
 (Ending.returned
 (Value.tuple
 #[Value.agg
 #[Value.int IntKind.i64 x75, Value.int IntKind.i64 x76, Value.int IntKind.i64 x77, Value.int IntKind.i64 x78,
 Value.slice a79 n80 n81],
 Value.int IntKind.i64 0]))
 w82) ∧
 ((a_0 == 3) = false →
 ((a_0 == 4) = true →
 ∀ (w83 : World),
 Evo [n36, n36] w24 w83 →
 Under [n1, n2, n3, n36] w83 →
 Calls Proofs.Tryz.prog 17
 #[Value.agg #[Value.int IntKind.i64 m_0, Value.int IntKind.i64 m_1, Value.int IntKind.i64 m_2, Value.int IntKind.i64 m_3, Value.slice m_4a m_4n m_4c],
 Value.int IntKind.i64 x25,
 Value.agg
 #[Value.int IntKind.i64 x28, Value.int IntKind.i64 x29, Value.int IntKind.i64 x30, Value.int IntKind.i64 x31, Value.int IntKind.i64 x32,
 Value.int IntKind.i64 x33, Value.int IntKind.i64 x34, Value.bool false]]
 w83 fun (e84 : Ending) (w85 : World) =>
 ∃ (x86 : Int),
 ∃ (x87 : Int),
 ∃ (x88 : Int),
 ∃ (x89 : Int),
 ∃ (a90 : Option Addr),
 ∃ (n91 : Nat),
 ∃ (n92 : Nat),
 e84 =
 Ending.returned
 (Value.agg
 #[Value.int IntKind.i64 x86, Value.int IntKind.i64 x87, Value.int IntKind.i64 x88, Value.int IntKind.i64 x89,
 Value.slice a90 n91 n92]) ∧
 Keeps [n1, n2, n3, n36] w83 w85 ∧
 ∀ (w93 : World),
 Evo [n3] w85 w93 →
 Under [n1, n2, n3, n36] w93 →
 R
 (Ending.returned
 (Value.tuple
 #[Value.agg
 #[Value.int IntKind.i64 x86, Value.int IntKind.i64 x87, Value.int IntKind.i64 x88, Value.int IntKind.i64 x89,
 Value.slice a90 n91 n92],
 Value.int IntKind.i64 0]))
 w93) ∧
 ((a_0 == 4) = false →
 ((a_0 == 5) = true →
 ∀ (w94 : World),
 Evo [n36] w24 w94 →
 Under [n1, n2, n3, n36] w94 →
 Calls Proofs.Tryz.prog 14
 #[Value.agg #[Value.int IntKind.i64 m_0, Value.int IntKind.i64 m_1, Value.int IntKind.i64 m_2, Value.int IntKind.i64 m_3, Value.slice m_4a m_4n m_4c],
 Value.int IntKind.i64 x30]
 w94 fun (e95 : Ending) (w96 : World) =>
 ∃ (x97 : Int),
 ∃ (x98 : Int),
 ∃ (x99 : Int),
 ∃ (x100 : Int),
 ∃ (x101 : Int),
 ∃ (b102 : Bool),
 e95 =
 Ending.returned
 (Value.tuple
 #[Value.int IntKind.i64 x97,
 Value.agg #[Value.int IntKind.i64 x98, Value.int IntKind.i64 x99, Value.int IntKind.i64 x100, Value.int IntKind.i64 x101],
 Value.bool b102]) ∧
 Keeps [n1, n2, n3, n36] w94 w96 ∧
 ∀ (n103 : Nat),
 w96.heap.size ≤ n103 →
 ∀ (w104 : World),
 Evo [n103] w96 w104 →
 Under [n1, n2, n3, n36, n103] w104 →
 Calls Proofs.Tryz.prog 15
 #[Value.agg #[Value.int IntKind.i64 x31, Value.int IntKind.i64 x32, Value.int IntKind.i64 x33, Value.int IntKind.i64 x34],
 Value.agg #[Value.int IntKind.i64 a_4, Value.int IntKind.i64 a_5, Value.int IntKind.i64 a_6, Value.int IntKind.i64 a_7]]
 w104 fun (e105 : Ending) (w106 : World) =>
 ∃ (x107 : Int),
 ∃ (x108 : Int),
 ∃ (x109 : Int),
 ∃ (x110 : Int),
 ∃ (b111 : Bool),
 e105 =
 Ending.returned
 (Value.tuple
 #[Value.agg
 #[Value.int IntKind.i64 x107, Value.int IntKind.i64 x108, Value.int IntKind.i64 x109,
 Value.int IntKind.i64 x110],
 Value.bool b111]) ∧
 Keeps [n1, n2, n3, n36, n103] w104 w106 ∧
 ∀ (n112 : Nat),
 w106.heap.size ≤ n112 →
 ∀ (w113 : World),
 Evo [n112] w106 w113 →
 Under [n1, n2, n3, n36, n103, n112] w113 →
 Calls Proofs.Tryz.prog 15
 #[Value.agg
 #[Value.int IntKind.i64 x98, Value.int IntKind.i64 x99, Value.int IntKind.i64 x100,
 Value.int IntKind.i64 x101],
 Value.agg
 #[Value.int IntKind.i64 a_4, Value.int IntKind.i64 a_5, Value.int IntKind.i64 a_6,
 Value.int IntKind.i64 a_7]]
 w113 fun (e114 : Ending) (w115 : World) =>
 ∃ (x116 : Int),
 ∃ (x117 : Int),
 ∃ (x118 : Int),
 ∃ (x119 : Int),
 ∃ (b120 : Bool),
 e114 =
 Ending.returned
 (Value.tuple
 #[Value.agg
 #[Value.int IntKind.i64 x116, Value.int IntKind.i64 x117,
 Value.int IntKind.i64 x118, Value.int IntKind.i64 x119],
 Value.bool b120]) ∧
 Keeps [n1, n2, n3, n36, n103, n112] w113 w115 ∧
 ∀ (n121 : Nat),
 w115.heap.size ≤ n121 →
 ((!b111) = true →
 ∀ (w122 : World),
 Evo [n3, n121] w115 w122 →
 Under [n1, n2, n3, n36, n103, n112, n121] w122 →
 R
 (Ending.returned
 (Value.tuple
 #[Value.agg
 #[Value.int IntKind.i64 m_0, Value.int IntKind.i64 m_1,
 Value.int IntKind.i64 m_2, Value.int IntKind.i64 m_3,
 Value.slice m_4a m_4n m_4c],
 Value.int IntKind.i64 41]))
 w122) ∧
 ((!b111) = false →
 ((!b120) = true →
 ∀ (w123 : World),
 Evo [n3, n121] w115 w123 →
 Under [n1, n2, n3, n36, n103, n112, n121] w123 →
 R
 (Ending.returned
 (Value.tuple
 #[Value.agg
 #[Value.int IntKind.i64 m_0, Value.int IntKind.i64 m_1,
 Value.int IntKind.i64 m_2, Value.int IntKind.i64 m_3,
 Value.slice m_4a m_4n m_4c],
 Value.int IntKind.i64 41]))
 w123) ∧
 ((!b120) = false →
 ∀ (w124 : World),
 Evo [n121] w115 w124 →
 Under [n1, n2, n3, n36, n103, n112, n121] w124 →
 Calls Proofs.Tryz.prog 11
 #[Value.agg
 #[Value.int IntKind.i64 x107, Value.int IntKind.i64 x108,
 Value.int IntKind.i64 x109, Value.int IntKind.i64 x110]]
 w124 fun (e125 : Ending) (w126 : World) =>
 ∃ (b127 : Bool),
 e125 = Ending.returned (Value.bool b127) ∧
 Keeps [n1, n2, n3, n36, n103, n112, n121] w124 w126 ∧
 ((!b127) = true →
 ∀ (w128 : World),
 Evo [n3] w126 w128 →
 Under [n1, n2, n3, n36, n103, n112, n121] w128 →
 R
 (Ending.returned
 (Value.tuple
 #[Value.agg
 #[Value.int IntKind.i64 m_0,
 Value.int IntKind.i64 m_1,
 Value.int IntKind.i64 m_2,
 Value.int IntKind.i64 m_3,
 Value.slice m_4a m_4n m_4c],
 Value.int IntKind.i64 41]))
 w128) ∧
 ((!b127) = false →
 Calls Proofs.Tryz.prog 11
 #[Value.agg
 #[Value.int IntKind.i64 x116,
 Value.int IntKind.i64 x117,
 Value.int IntKind.i64 x118,
 Value.int IntKind.i64 x119]]
 w126 fun (e129 : Ending) (w130 : World) =>
 ∃ (b131 : Bool),
 e129 = Ending.returned (Value.bool b131) ∧
 Keeps [n1, n2, n3, n36, n103, n112, n121] w126
 w130 ∧
 ((!b131) = true →
 ∀ (w132 : World),
 Evo [n3] w130 w132 →
 Under
 [n1, n2, n3, n36, n103, n112,
 n121]
 w132 →
 R
 (Ending.returned
 (Value.tuple
 #[Value.agg
 #[Value.int IntKind.i64
 m_0,
 Value.int IntKind.i64
 m_1,
 Value.int IntKind.i64
 m_2,
 Value.int IntKind.i64
 m_3,
 Value.slice m_4a m_4n
 m_4c],
 Value.int IntKind.i64 41]))
 w132) ∧
 ((!b131) = false →
 ∀ (w133 : World),
 Evo [n36] w130 w133 →
 Under
 [n1, n2, n3, n36, n103, n112,
 n121]
 w133 →
 Calls Proofs.Tryz.prog 17
 #[Value.agg
 #[Value.int IntKind.i64 m_0,
 Value.int IntKind.i64 m_1,
 Value.int IntKind.i64 m_2,
 Value.int IntKind.i64 m_3,
 Value.slice m_4a m_4n m_4c],
 Value.int IntKind.i64 x25,
 Value.agg
 #[Value.int IntKind.i64 x28,
 Value.int IntKind.i64 x29,
 Value.int IntKind.i64 x30,
 Value.int IntKind.i64 x107,
 Value.int IntKind.i64 x108,
 Value.int IntKind.i64 x109,
 Value.int IntKind.i64 x110,
 Value.bool b35]]
 w133
 fun (e134 : Ending)
 (w135 : World) =>
 ∃ (x136 : Int),
 ∃ (x137 : Int),
 ∃ (x138 : Int),
 ∃ (x139 : Int),
 ∃ (a140 : Option Addr),
 ∃ (n141 : Nat),
 ∃ (n142 : Nat),
 e134 =
 Ending.returned
 (Value.agg
 #[Value.int
 IntKind.i64
 x136,
 Value.int
 IntKind.i64
 x137,
 Value.int
 IntKind.i64
 x138,
 Value.int
 IntKind.i64
 x139,
 Value.slice
 a140
 n141
 n142]) ∧
 Keeps
 [n1, n2, n3,
 n36, n103,
 n112, n121]
 w133 w135 ∧
 ∀
 (w143 :
 World),
 Evo [n3] w135
 w143 →
 Under
 [n1, n2,
 n3,
 n36,
 n103,
 n112,
 n121]
 w143 →
 R
 (Ending.returned
 (Value.tuple
 #[Value.agg
 #[Value.int
 IntKind.i64
 x136,
 Value.int
 IntKind.i64
 x137,
 Value.int
 IntKind.i64
 x138,
 Value.int
 IntKind.i64
 x139,
 Value.slice
 a140
 n141
 n142],
 Value.int
 IntKind.i64
 0]))
 w143))))) ∧
 ((a_0 == 5) = false →
 ∀ (w144 : World),
 Evo [n36] w24 w144 →
 Under [n1, n2, n3, n36] w144 →
 Calls Proofs.Tryz.prog 16
 #[Value.agg #[Value.int IntKind.i64 x31, Value.int IntKind.i64 x32, Value.int IntKind.i64 x33, Value.int IntKind.i64 x34],
 Value.agg #[Value.int IntKind.i64 a_4, Value.int IntKind.i64 a_5, Value.int IntKind.i64 a_6, Value.int IntKind.i64 a_7]]
 w144 fun (e145 : Ending) (w146 : World) =>
 ∃ (x147 : Int),
 ∃ (x148 : Int),
 ∃ (x149 : Int),
 ∃ (x150 : Int),
 ∃ (b151 : Bool),
 e145 =
 Ending.returned
 (Value.tuple
 #[Value.agg #[Value.int IntKind.i64 x147, Value.int IntKind.i64 x148, Value.int IntKind.i64 x149, Value.int IntKind.i64 x150],
 Value.bool b151]) ∧
 Keeps [n1, n2, n3, n36] w144 w146 ∧
 ∀ (n152 : Nat),
 w146.heap.size ≤ n152 →
 ((!b151) = true →
 ∀ (w153 : World),
 Evo [n3, n152] w146 w153 →
 Under [n1, n2, n3, n36, n152] w153 →
 R
 (Ending.returned
 (Value.tuple
 #[Value.agg
 #[Value.int IntKind.i64 m_0, Value.int IntKind.i64 m_1, Value.int IntKind.i64 m_2, Value.int IntKind.i64 m_3,
 Value.slice m_4a m_4n m_4c],
 Value.int IntKind.i64 30]))
 w153) ∧
 ((!b151) = false →
 ∀ (w154 : World),
 Evo [n36, n152] w146 w154 →
 Under [n1, n2, n3, n36, n152] w154 →
 Calls Proofs.Tryz.prog 17
 #[Value.agg
 #[Value.int IntKind.i64 m_0, Value.int IntKind.i64 m_1, Value.int IntKind.i64 m_2, Value.int IntKind.i64 m_3,
 Value.slice m_4a m_4n m_4c],
 Value.int IntKind.i64 x25,
 Value.agg
 #[Value.int IntKind.i64 x28, Value.int IntKind.i64 x29, Value.int IntKind.i64 x30, Value.int IntKind.i64 x147,
 Value.int IntKind.i64 x148, Value.int IntKind.i64 x149, Value.int IntKind.i64 x150, Value.bool b35]]
 w154 fun (e155 : Ending) (w156 : World) =>
 ∃ (x157 : Int),
 ∃ (x158 : Int),
 ∃ (x159 : Int),
 ∃ (x160 : Int),
 ∃ (a161 : Option Addr),
 ∃ (n162 : Nat),
 ∃ (n163 : Nat),
 e155 =
 Ending.returned
 (Value.agg
 #[Value.int IntKind.i64 x157, Value.int IntKind.i64 x158, Value.int IntKind.i64 x159,
 Value.int IntKind.i64 x160, Value.slice a161 n162 n163]) ∧
 Keeps [n1, n2, n3, n36, n152] w154 w156 ∧
 ∀ (w164 : World),
 Evo [n3] w156 w164 →
 Under [n1, n2, n3, n36, n152] w164 →
 R
 (Ending.returned
 (Value.tuple
 #[Value.agg
 #[Value.int IntKind.i64 x157, Value.int IntKind.i64 x158, Value.int IntKind.i64 x159,
 Value.int IntKind.i64 x160, Value.slice a161 n162 n163],
 Value.int IntKind.i64 0]))
 w164))))))))
theorem f5_eq (m_0 : Int) (m_1 : Int) (m_2 : Int) (m_3 : Int) (m_4a : Option Addr) (m_4n : Nat) (m_4c : Nat) (a_0 : Int) (a_1 : Int) (a_2 : Int) (a_3 : Int) (a_4 : Int) (a_5 : Int) (a_6 : Int) (a_7 : Int) (w : World) (R : Ending → World → Prop) : (fnF Go.Proofs.Tryz.prog h5 Go.Proofs.Tryz.f5 [Value.agg #[Value.int IntKind.i64 m_0, Value.int IntKind.i64 m_1, Value.int IntKind.i64 m_2, Value.int IntKind.i64 m_3, Value.slice m_4a m_4n m_4c],
 Value.agg #[Value.int IntKind.i64 a_0, Value.int IntKind.i64 a_1, Value.int IntKind.i64 a_2, Value.int IntKind.i64 a_3, Value.int IntKind.i64 a_4, Value.int IntKind.i64 a_5, Value.int IntKind.i64 a_6, Value.int IntKind.i64 a_7]] w R).den = f5_vc m_0 m_1 m_2 m_3 m_4a m_4n m_4c a_0 a_1 a_2 a_3 a_4 a_5 a_6 a_7 w R := by kernel_rfl
theorem f5_calls (m_0 : Int) (m_1 : Int) (m_2 : Int) (m_3 : Int) (m_4a : Option Addr) (m_4n : Nat) (m_4c : Nat) (a_0 : Int) (a_1 : Int) (a_2 : Int) (a_3 : Int) (a_4 : Int) (a_5 : Int) (a_6 : Int) (a_7 : Int) (w : World) (R : Ending → World → Prop) (h : f5_vc m_0 m_1 m_2 m_3 m_4a m_4n m_4c a_0 a_1 a_2 a_3 a_4 a_5 a_6 a_7 w R) : Calls Go.Proofs.Tryz.prog 5 (List.toArray [Value.agg #[Value.int IntKind.i64 m_0, Value.int IntKind.i64 m_1, Value.int IntKind.i64 m_2, Value.int IntKind.i64 m_3, Value.slice m_4a m_4n m_4c],
 Value.agg #[Value.int IntKind.i64 a_0, Value.int IntKind.i64 a_1, Value.int IntKind.i64 a_2, Value.int IntKind.i64 a_3, Value.int IntKind.i64 a_4, Value.int IntKind.i64 a_5, Value.int IntKind.i64 a_6, Value.int IntKind.i64 a_7]]) w R :=
 fn_sound (H := h5) (fn := Go.Proofs.Tryz.f5) (by kernel_rfl) (by kernel_rfl) (by kernel_rfl) ((f5_eq m_0 m_1 m_2 m_3 m_4a m_4n m_4c a_0 a_1 a_2 a_3 a_4 a_5 a_6 a_7 w R).mpr h)

/-! (manciple/mancipleref10.M).At -/
def h13 : Hints := ⟨[2], [16], [10, 20], [], [], [(2, ⟨[(5, .int .i64)], []⟩)], [], [], []⟩
def f13_vc (m_0 : Int) (m_1 : Int) (m_2 : Int) (m_3 : Int) (m_4a : Option Addr) (m_4n : Nat) (m_4c : Nat) (id : Int) (w : World) (R : Ending → World → Prop) : Prop :=
 ∀ (n1 : Nat),
 w.heap.size ≤ n1 →
 ∃ (J2 : Int × Unit → World → Prop),
 ∃ (J3 : Int × Unit → World → Nat),
 (∀ (w4 : World), Bel w w4 → Under [n1] w4 → J2 (0, ()) w4) ∧
 ∀ (x5 : Int) (w6 : World),
 J2 (x5, ()) w6 →
 (decide (x5 < (↑m_4n : Int)) = true →
 ∃ (ad7 : Addr),
 Gives Proofs.Tryz.prog (Instr.indexAt 26 (Value.slice m_4a m_4n m_4c) (Value.int IntKind.i64 x5)) (Value.pointer (some ad7)) ∧
 ∃ (x8 : Int),
 Reads Proofs.Tryz.prog [] (Instr.loadAt 2 (Value.pointer (some ad7))) w6 (Value.int IntKind.i64 x8) ∧
 ((x8 == id) = true → R (Ending.returned (Value.int IntKind.i64 x5)) w6) ∧ ((x8 == id) = false → J2 (IntKind.i64.wrap (x5 + 1), ()) w6 ∧ J3 (IntKind.i64.wrap (x5 + 1), ()) w6 < J3 (x5, ()) w6)) ∧
 (decide (x5 < (↑m_4n : Int)) = false → R (Ending.returned (Value.int IntKind.i64 (-1))) w6)
theorem f13_eq (m_0 : Int) (m_1 : Int) (m_2 : Int) (m_3 : Int) (m_4a : Option Addr) (m_4n : Nat) (m_4c : Nat) (id : Int) (w : World) (R : Ending → World → Prop) : (fnF Go.Proofs.Tryz.prog h13 Go.Proofs.Tryz.f13 [Value.agg #[Value.int IntKind.i64 m_0, Value.int IntKind.i64 m_1, Value.int IntKind.i64 m_2, Value.int IntKind.i64 m_3, Value.slice m_4a m_4n m_4c], Value.int IntKind.i64 id] w R).den = f13_vc m_0 m_1 m_2 m_3 m_4a m_4n m_4c id w R := by kernel_rfl
theorem f13_calls (m_0 : Int) (m_1 : Int) (m_2 : Int) (m_3 : Int) (m_4a : Option Addr) (m_4n : Nat) (m_4c : Nat) (id : Int) (w : World) (R : Ending → World → Prop) (h : f13_vc m_0 m_1 m_2 m_3 m_4a m_4n m_4c id w R) : Calls Go.Proofs.Tryz.prog 13 (List.toArray [Value.agg #[Value.int IntKind.i64 m_0, Value.int IntKind.i64 m_1, Value.int IntKind.i64 m_2, Value.int IntKind.i64 m_3, Value.slice m_4a m_4n m_4c], Value.int IntKind.i64 id]) w R :=
 fn_sound (H := h13) (fn := Go.Proofs.Tryz.f13) (by kernel_rfl) (by kernel_rfl) (by kernel_rfl) ((f13_eq m_0 m_1 m_2 m_3 m_4a m_4n m_4c id w R).mpr h)

/-! (manciple/mancipleref10.M).Role -/
def h14 : Hints := ⟨[2, 5, 7], [21, 31, 40], [15, 25], [(7, [0, 1, 2, 3, 4, 5, 6, 7, 8, 9, 10, 11]), (9, [0, 1, 2, 3, 4, 5])], [], [(4, ⟨[(8, .int .i64), (9, .bool), (10, .int .i64)], [(7, .cons (.int .i64) (.cons (.int .i64) (.cons (.int .i64) (.cons (.int .i64) (.nil)))))]⟩)], [], [], []⟩
def f14_vc (m_0 : Int) (m_1 : Int) (m_2 : Int) (m_3 : Int) (m_4a : Option Addr) (m_4n : Nat) (m_4c : Nat) (role : Int) (w : World) (R : Ending → World → Prop) : Prop :=
 ∀ (n1 : Nat),
 w.heap.size ≤ n1 →
 ∀ (n2 : Nat),
 w.heap.size ≤ n2 →
 ∀ (n3 : Nat),
 w.heap.size ≤ n3 →
 ∃ (J4 : Int × Bool × Int × Int × Int × Int × Int × Unit → World → Prop),
 ∃ (J5 : Int × Bool × Int × Int × Int × Int × Int × Unit → World → Nat),
 (∀ (w6 : World), Bel w w6 → Under [n1, n2, n3] w6 → J4 (0, false, 0, 0, 0, 0, 0, ()) w6) ∧
 ∀ (x7 : Int) (b8 : Bool) (x9 x10 x11 x12 x13 : Int) (w14 : World),
 J4 (x7, b8, x9, x10, x11, x12, x13, ()) w14 →
 (decide (x9 < (↑m_4n : Int)) = true →
 ∃ (ad15 : Addr),
 Gives Proofs.Tryz.prog (Instr.indexAt 26 (Value.slice m_4a m_4n m_4c) (Value.int IntKind.i64 x9)) (Value.pointer (some ad15)) ∧
 ∃ (x16 : Int),
 Reads Proofs.Tryz.prog [] (Instr.loadAt 3 (Value.pointer (some (Addr.mk ad15.block (ad15.off + 2) none)))) w14 (Value.int IntKind.i64 x16) ∧
 ((x16 == role) = true →
 ∃ (ad17 : Addr),
 Gives Proofs.Tryz.prog (Instr.indexAt 26 (Value.slice m_4a m_4n m_4c) (Value.int IntKind.i64 x9)) (Value.pointer (some ad17)) ∧
 ∃ (x18 : Int),
 ∃ (x19 : Int),
 ∃ (x20 : Int),
 ∃ (x21 : Int),
 Reads Proofs.Tryz.prog [] (Instr.loadAt 25 (Value.pointer (some (Addr.mk ad17.block (ad17.off + 3) none)))) w14
 (Value.agg #[Value.int IntKind.i64 x18, Value.int IntKind.i64 x19, Value.int IntKind.i64 x20, Value.int IntKind.i64 x21]) ∧
 ∀ (w22 : World),
 Bel w14 w22 →
 Under [n1, n2, n3] w22 →
 Calls Proofs.Tryz.prog 15
 #[Value.agg #[Value.int IntKind.i64 x10, Value.int IntKind.i64 x11, Value.int IntKind.i64 x12, Value.int IntKind.i64 x13],
 Value.agg #[Value.int IntKind.i64 x18, Value.int IntKind.i64 x19, Value.int IntKind.i64 x20, Value.int IntKind.i64 x21]]
 w22 fun (e23 : Ending) (w24 : World) =>
 ∃ (x25 : Int),
 ∃ (x26 : Int),
 ∃ (x27 : Int),
 ∃ (x28 : Int),
 ∃ (b29 : Bool),
 e23 =
 Ending.returned
 (Value.tuple #[Value.agg #[Value.int IntKind.i64 x25, Value.int IntKind.i64 x26, Value.int IntKind.i64 x27, Value.int IntKind.i64 x28], Value.bool b29]) ∧
 Keeps [n1, n2, n3] w22 w24 ∧
 ∃ (ad30 : Addr),
 Gives Proofs.Tryz.prog (Instr.indexAt 26 (Value.slice m_4a m_4n m_4c) (Value.int IntKind.i64 x9)) (Value.pointer (some ad30)) ∧
 ∃ (x31 : Int),
 Reads Proofs.Tryz.prog [n3] (Instr.loadAt 2 (Value.pointer (some (Addr.mk ad30.block (ad30.off + 1) none)))) w24 (Value.int IntKind.i64 x31) ∧
 ∀ (w32 : World),
 Evo [n3] w24 w32 →
 Under [n1, n2, n3] w32 →
 J4 (x31, true, IntKind.i64.wrap (x9 + 1), x25, x26, x27, x28, ()) w32 ∧
 J5 (x31, true, IntKind.i64.wrap (x9 + 1), x25, x26, x27, x28, ()) w32 < J5 (x7, b8, x9, x10, x11, x12, x13, ()) w14) ∧
 ((x16 == role) = false →
 J4 (x7, b8, IntKind.i64.wrap (x9 + 1), x10, x11, x12, x13, ()) w14 ∧ J5 (x7, b8, IntKind.i64.wrap (x9 + 1), x10, x11, x12, x13, ()) w14 < J5 (x7, b8, x9, x10, x11, x12, x13, ()) w14)) ∧
 (decide (x9 < (↑m_4n : Int)) = false →
 ∀ (w33 : World),
 Evo [n2] w14 w33 →
 Under [n1, n2, n3] w33 →
 R (Ending.returned (Value.tuple #[Value.int IntKind.i64 x7, Value.agg #[Value.int IntKind.i64 x10, Value.int IntKind.i64 x11, Value.int IntKind.i64 x12, Value.int IntKind.i64 x13], Value.bool b8])) w33)
theorem f14_eq (m_0 : Int) (m_1 : Int) (m_2 : Int) (m_3 : Int) (m_4a : Option Addr) (m_4n : Nat) (m_4c : Nat) (role : Int) (w : World) (R : Ending → World → Prop) : (fnF Go.Proofs.Tryz.prog h14 Go.Proofs.Tryz.f14 [Value.agg #[Value.int IntKind.i64 m_0, Value.int IntKind.i64 m_1, Value.int IntKind.i64 m_2, Value.int IntKind.i64 m_3, Value.slice m_4a m_4n m_4c], Value.int IntKind.i64 role] w R).den = f14_vc m_0 m_1 m_2 m_3 m_4a m_4n m_4c role w R := by kernel_rfl
theorem f14_calls (m_0 : Int) (m_1 : Int) (m_2 : Int) (m_3 : Int) (m_4a : Option Addr) (m_4n : Nat) (m_4c : Nat) (role : Int) (w : World) (R : Ending → World → Prop) (h : f14_vc m_0 m_1 m_2 m_3 m_4a m_4n m_4c role w R) : Calls Go.Proofs.Tryz.prog 14 (List.toArray [Value.agg #[Value.int IntKind.i64 m_0, Value.int IntKind.i64 m_1, Value.int IntKind.i64 m_2, Value.int IntKind.i64 m_3, Value.slice m_4a m_4n m_4c], Value.int IntKind.i64 role]) w R :=
 fn_sound (H := h14) (fn := Go.Proofs.Tryz.f14) (by kernel_rfl) (by kernel_rfl) (by kernel_rfl) ((f14_eq m_0 m_1 m_2 m_3 m_4a m_4n m_4c role w R).mpr h)

/-! (manciple/mancipleref10.M).put -/
def h12 : Hints := ⟨[2, 3, 4, 7], [], [26, 32, 48, 12, 17, 22, 43], [], [], [], [], [], []⟩
def f12_vc (m_0 : Int) (m_1 : Int) (m_2 : Int) (m_3 : Int) (m_4a : Option Addr) (m_4n : Nat) (m_4c : Nat) (a_0 : Int) (a_1 : Int) (a_2 : Int) (a_3 : Int) (a_4 : Int) (a_5 : Int) (a_6 : Int) (a_7 : Int) (w : World) (R : Ending → World → Prop) : Prop :=
 ∀ (n1 : Nat),
 w.heap.size ≤ n1 →
 ∀ (n2 : Nat),
 w.heap.size ≤ n2 →
 ∀ (n3 : Nat),
 w.heap.size ≤ n3 →
 (decide (a_2 < 1) = true →
 ∀ (w4 : World),
 Evo [n3] w w4 →
 Under [n1, n2, n3] w4 →
 R (Ending.returned (Value.tuple #[Value.agg #[Value.int IntKind.i64 m_0, Value.int IntKind.i64 m_1, Value.int IntKind.i64 m_2, Value.int IntKind.i64 m_3, Value.slice m_4a m_4n m_4c], Value.int IntKind.i64 41])) w4) ∧
 (decide (a_2 < 1) = false →
 (decide (a_2 > 32) = true →
 ∀ (w5 : World),
 Evo [n3] w w5 →
 Under [n1, n2, n3] w5 →
 R (Ending.returned (Value.tuple #[Value.agg #[Value.int IntKind.i64 m_0, Value.int IntKind.i64 m_1, Value.int IntKind.i64 m_2, Value.int IntKind.i64 m_3, Value.slice m_4a m_4n m_4c], Value.int IntKind.i64 41]))
 w5) ∧
 (decide (a_2 > 32) = false →
 (decide (a_3 < 1) = true →
 ∀ (w6 : World),
 Evo [n3] w w6 →
 Under [n1, n2, n3] w6 →
 R (Ending.returned (Value.tuple #[Value.agg #[Value.int IntKind.i64 m_0, Value.int IntKind.i64 m_1, Value.int IntKind.i64 m_2, Value.int IntKind.i64 m_3, Value.slice m_4a m_4n m_4c], Value.int IntKind.i64 41]))
 w6) ∧
 (decide (a_3 < 1) = false →
 (decide (a_3 > 1000) = true →
 ∀ (w7 : World),
 Evo [n3] w w7 →
 Under [n1, n2, n3] w7 →
 R
 (Ending.returned
 (Value.tuple #[Value.agg #[Value.int IntKind.i64 m_0, Value.int IntKind.i64 m_1, Value.int IntKind.i64 m_2, Value.int IntKind.i64 m_3, Value.slice m_4a m_4n m_4c], Value.int IntKind.i64 41]))
 w7) ∧
 (decide (a_3 > 1000) = false →
 ∀ (w8 : World),
 Bel w w8 →
 Under [n1, n2, n3] w8 →
 Calls Proofs.Tryz.prog 13 #[Value.agg #[Value.int IntKind.i64 m_0, Value.int IntKind.i64 m_1, Value.int IntKind.i64 m_2, Value.int IntKind.i64 m_3, Value.slice m_4a m_4n m_4c], Value.int IntKind.i64 a_1] w8
 fun (e9 : Ending) (w10 : World) =>
 ∃ (x11 : Int),
 e9 = Ending.returned (Value.int IntKind.i64 x11) ∧
 Keeps [n1, n2, n3] w8 w10 ∧
 (decide (x11 ≥ 0) = true →
 ∀ (w12 : World),
 Evo [n3] w10 w12 →
 Under [n1, n2, n3] w12 →
 R
 (Ending.returned
 (Value.tuple
 #[Value.agg #[Value.int IntKind.i64 m_0, Value.int IntKind.i64 m_1, Value.int IntKind.i64 m_2, Value.int IntKind.i64 m_3, Value.slice m_4a m_4n m_4c], Value.int IntKind.i64 42]))
 w12) ∧
 (decide (x11 ≥ 0) = false →
 Calls Proofs.Tryz.prog 14
 #[Value.agg #[Value.int IntKind.i64 m_0, Value.int IntKind.i64 m_1, Value.int IntKind.i64 m_2, Value.int IntKind.i64 m_3, Value.slice m_4a m_4n m_4c], Value.int IntKind.i64 a_2] w10
 fun (e13 : Ending) (w14 : World) =>
 ∃ (x15 : Int),
 ∃ (x16 : Int),
 ∃ (x17 : Int),
 ∃ (x18 : Int),
 ∃ (x19 : Int),
 ∃ (b20 : Bool),
 e13 =
 Ending.returned
 (Value.tuple
 #[Value.int IntKind.i64 x15, Value.agg #[Value.int IntKind.i64 x16, Value.int IntKind.i64 x17, Value.int IntKind.i64 x18, Value.int IntKind.i64 x19], Value.bool b20]) ∧
 Keeps [n1, n2, n3] w10 w14 ∧
 ∀ (n21 : Nat),
 w14.heap.size ≤ n21 →
 (b20 = true →
 ((x15 != a_3) = true →
 ∀ (w22 : World),
 Evo [n3, n21] w14 w22 →
 Under [n1, n2, n3, n21] w22 →
 R
 (Ending.returned
 (Value.tuple
 #[Value.agg #[Value.int IntKind.i64 m_0, Value.int IntKind.i64 m_1, Value.int IntKind.i64 m_2, Value.int IntKind.i64 m_3, Value.slice m_4a m_4n m_4c],
 Value.int IntKind.i64 22]))
 w22) ∧
 ((x15 != a_3) = false →
 ∀ (w23 : World),
 Evo [n21] w14 w23 →
 Under [n1, n2, n3, n21] w23 →
 Calls Proofs.Tryz.prog 17
 #[Value.agg #[Value.int IntKind.i64 m_0, Value.int IntKind.i64 m_1, Value.int IntKind.i64 m_2, Value.int IntKind.i64 m_3, Value.slice m_4a m_4n m_4c],
 Value.int IntKind.i64 (-1),
 Value.agg
 #[Value.int IntKind.i64 a_1, Value.int IntKind.i64 a_3, Value.int IntKind.i64 a_2, Value.int IntKind.i64 0, Value.int IntKind.i64 0,
 Value.int IntKind.i64 0, Value.int IntKind.i64 0, Value.bool true]]
 w23 fun (e24 : Ending) (w25 : World) =>
 ∃ (x26 : Int),
 ∃ (x27 : Int),
 ∃ (x28 : Int),
 ∃ (x29 : Int),
 ∃ (a30 : Option Addr),
 ∃ (n31 : Nat),
 ∃ (n32 : Nat),
 e24 =
 Ending.returned
 (Value.agg
 #[Value.int IntKind.i64 x26, Value.int IntKind.i64 x27, Value.int IntKind.i64 x28, Value.int IntKind.i64 x29,
 Value.slice a30 n31 n32]) ∧
 Keeps [n1, n2, n3, n21] w23 w25 ∧
 ∀ (w33 : World),
 Evo [n3] w25 w33 →
 Under [n1, n2, n3, n21] w33 →
 R
 (Ending.returned
 (Value.tuple
 #[Value.agg
 #[Value.int IntKind.i64 x26, Value.int IntKind.i64 x27, Value.int IntKind.i64 x28, Value.int IntKind.i64 x29,
 Value.slice a30 n31 n32],
 Value.int IntKind.i64 0]))
 w33)) ∧
 (b20 = false →
 ∀ (w34 : World),
 Evo [n21] w14 w34 →
 Under [n1, n2, n3, n21] w34 →
 Calls Proofs.Tryz.prog 17
 #[Value.agg #[Value.int IntKind.i64 m_0, Value.int IntKind.i64 m_1, Value.int IntKind.i64 m_2, Value.int IntKind.i64 m_3, Value.slice m_4a m_4n m_4c],
 Value.int IntKind.i64 (-1),
 Value.agg
 #[Value.int IntKind.i64 a_1, Value.int IntKind.i64 a_3, Value.int IntKind.i64 a_2, Value.int IntKind.i64 0, Value.int IntKind.i64 0,
 Value.int IntKind.i64 0, Value.int IntKind.i64 0, Value.bool true]]
 w34 fun (e35 : Ending) (w36 : World) =>
 ∃ (x37 : Int),
 ∃ (x38 : Int),
 ∃ (x39 : Int),
 ∃ (x40 : Int),
 ∃ (a41 : Option Addr),
 ∃ (n42 : Nat),
 ∃ (n43 : Nat),
 e35 =
 Ending.returned
 (Value.agg
 #[Value.int IntKind.i64 x37, Value.int IntKind.i64 x38, Value.int IntKind.i64 x39, Value.int IntKind.i64 x40, Value.slice a41 n42 n43]) ∧
 Keeps [n1, n2, n3, n21] w34 w36 ∧
 ∀ (w44 : World),
 Evo [n3] w36 w44 →
 Under [n1, n2, n3, n21] w44 →
 R
 (Ending.returned
 (Value.tuple
 #[Value.agg
 #[Value.int IntKind.i64 x37, Value.int IntKind.i64 x38, Value.int IntKind.i64 x39, Value.int IntKind.i64 x40,
 Value.slice a41 n42 n43],
 Value.int IntKind.i64 0]))
 w44))))))
theorem f12_eq (m_0 : Int) (m_1 : Int) (m_2 : Int) (m_3 : Int) (m_4a : Option Addr) (m_4n : Nat) (m_4c : Nat) (a_0 : Int) (a_1 : Int) (a_2 : Int) (a_3 : Int) (a_4 : Int) (a_5 : Int) (a_6 : Int) (a_7 : Int) (w : World) (R : Ending → World → Prop) : (fnF Go.Proofs.Tryz.prog h12 Go.Proofs.Tryz.f12 [Value.agg #[Value.int IntKind.i64 m_0, Value.int IntKind.i64 m_1, Value.int IntKind.i64 m_2, Value.int IntKind.i64 m_3, Value.slice m_4a m_4n m_4c],
 Value.agg #[Value.int IntKind.i64 a_0, Value.int IntKind.i64 a_1, Value.int IntKind.i64 a_2, Value.int IntKind.i64 a_3, Value.int IntKind.i64 a_4, Value.int IntKind.i64 a_5, Value.int IntKind.i64 a_6, Value.int IntKind.i64 a_7]] w R).den = f12_vc m_0 m_1 m_2 m_3 m_4a m_4n m_4c a_0 a_1 a_2 a_3 a_4 a_5 a_6 a_7 w R := by kernel_rfl
theorem f12_calls (m_0 : Int) (m_1 : Int) (m_2 : Int) (m_3 : Int) (m_4a : Option Addr) (m_4n : Nat) (m_4c : Nat) (a_0 : Int) (a_1 : Int) (a_2 : Int) (a_3 : Int) (a_4 : Int) (a_5 : Int) (a_6 : Int) (a_7 : Int) (w : World) (R : Ending → World → Prop) (h : f12_vc m_0 m_1 m_2 m_3 m_4a m_4n m_4c a_0 a_1 a_2 a_3 a_4 a_5 a_6 a_7 w R) : Calls Go.Proofs.Tryz.prog 12 (List.toArray [Value.agg #[Value.int IntKind.i64 m_0, Value.int IntKind.i64 m_1, Value.int IntKind.i64 m_2, Value.int IntKind.i64 m_3, Value.slice m_4a m_4n m_4c],
 Value.agg #[Value.int IntKind.i64 a_0, Value.int IntKind.i64 a_1, Value.int IntKind.i64 a_2, Value.int IntKind.i64 a_3, Value.int IntKind.i64 a_4, Value.int IntKind.i64 a_5, Value.int IntKind.i64 a_6, Value.int IntKind.i64 a_7]]) w R :=
 fn_sound (H := h12) (fn := Go.Proofs.Tryz.f12) (by kernel_rfl) (by kernel_rfl) (by kernel_rfl) ((f12_eq m_0 m_1 m_2 m_3 m_4a m_4n m_4c a_0 a_1 a_2 a_3 a_4 a_5 a_6 a_7 w R).mpr h)

/-! (manciple/mancipleref10.M).with -/
def h17 : Hints := ⟨[3, 5, 6, 7], [33], [16, 21, 39], [(7, [0, 1, 2, 3, 4, 5, 6, 7, 8, 9, 10])], [], [(3, ⟨[(8, .int .i64)], [(7, .cons (.int .i64) (.cons (.int .i64) (.cons (.int .i64) (.cons (.int .i64) (.cons (.sl) (.nil))))))]⟩)], [], [], []⟩
def f17_vc (m_0 : Int) (m_1 : Int) (m_2 : Int) (m_3 : Int) (m_4a : Option Addr) (m_4n : Nat) (m_4c : Nat) (at' : Int) (f_0 : Int) (f_1 : Int) (f_2 : Int) (f_3 : Int) (f_4 : Int) (f_5 : Int) (f_6 : Int) (f_7 : Bool) (w : World) (R : Ending → World → Prop) : Prop :=
 ∀ (n1 : Nat),
 w.heap.size ≤ n1 →
 ∀ (n2 : Nat),
 w.heap.size ≤ n2 →
 ∀ (n3 : Nat),
 w.heap.size ≤ n3 →
 ∀ (n4 : Nat),
 w.heap.size ≤ n4 →
 ∃ (J5 : Int × Int × Int × Int × Int × (Option Addr × Nat × Nat) × Unit → World → Prop),
 ∃ (J6 : Int × Int × Int × Int × Int × (Option Addr × Nat × Nat) × Unit → World → Nat),
 (∀ (w7 : World), Evo [n4] w w7 → Under [n1, n2, n3, n4] w7 → J5 (0, m_0, m_1, m_2, m_3, (none, 0, 0), ()) w7) ∧
 ∀ (x8 x9 x10 x11 x12 : Int) (a13 : Option Addr) (n14 n15 : Nat) (w16 : World),
 J5 (x8, x9, x10, x11, x12, (a13, n14, n15), ()) w16 →
 (decide (x8 < (↑m_4n : Int)) = true →
 ((x8 == at') = true →
 OpW Proofs.Tryz.prog
 (valueS
 (Instr.buildSlice 26 1
 #[(0,
 Value.agg
 #[Value.int IntKind.i64 f_0, Value.int IntKind.i64 f_1, Value.int IntKind.i64 f_2, Value.int IntKind.i64 f_3, Value.int IntKind.i64 f_4, Value.int IntKind.i64 f_5, Value.int IntKind.i64 f_6,
 Value.bool f_7])]))
 w16 fun (v17 : Value) (w18 : World) =>
 ∃ (a19 : Option Addr),
 ∃ (n20 : Nat),
 ∃ (n21 : Nat),
 v17 = Value.slice a19 n20 n21 ∧
 Keeps [n1, n2, n3, n4] w16 w18 ∧
 OpW Proofs.Tryz.prog (builtin Builtin.append #[26, 26] 26 #[false, false] #[Value.slice a13 n14 n15, Value.slice a19 n20 n21]) w18 fun (v22 : Value) (w23 : World) =>
 ∃ (a24 : Option Addr),
 ∃ (n25 : Nat),
 ∃ (n26 : Nat),
 v22 = Value.slice a24 n25 n26 ∧
 Keeps [n1, n2, n3, n4] w18 w23 ∧
 ∀ (w27 : World),
 Evo [n4] w23 w27 →
 Under [n1, n2, n3, n4] w27 →
 J5 (IntKind.i64.wrap (x8 + 1), x9, x10, x11, x12, (a24, n25, n26), ()) w27 ∧
 J6 (IntKind.i64.wrap (x8 + 1), x9, x10, x11, x12, (a24, n25, n26), ()) w27 < J6 (x8, x9, x10, x11, x12, (a13, n14, n15), ()) w16) ∧
 ((x8 == at') = false →
 ∃ (ad28 : Addr),
 Gives Proofs.Tryz.prog (Instr.indexAt 26 (Value.slice m_4a m_4n m_4c) (Value.int IntKind.i64 x8)) (Value.pointer (some ad28)) ∧
 ∃ (x29 : Int),
 ∃ (x30 : Int),
 ∃ (x31 : Int),
 ∃ (x32 : Int),
 ∃ (x33 : Int),
 ∃ (x34 : Int),
 ∃ (x35 : Int),
 ∃ (b36 : Bool),
 Reads Proofs.Tryz.prog [] (Instr.loadAt 49 (Value.pointer (some ad28))) w16
 (Value.agg
 #[Value.int IntKind.i64 x29, Value.int IntKind.i64 x30, Value.int IntKind.i64 x31, Value.int IntKind.i64 x32, Value.int IntKind.i64 x33, Value.int IntKind.i64 x34,
 Value.int IntKind.i64 x35, Value.bool b36]) ∧
 ∀ (w37 : World),
 Bel w16 w37 →
 Under [n1, n2, n3, n4] w37 →
 OpW Proofs.Tryz.prog
 (valueS
 (Instr.buildSlice 26 1
 #[(0,
 Value.agg
 #[Value.int IntKind.i64 x29, Value.int IntKind.i64 x30, Value.int IntKind.i64 x31, Value.int IntKind.i64 x32, Value.int IntKind.i64 x33, Value.int IntKind.i64 x34,
 Value.int IntKind.i64 x35, Value.bool b36])]))
 w37 fun (v38 : Value) (w39 : World) =>
 ∃ (a40 : Option Addr),
 ∃ (n41 : Nat),
 ∃ (n42 : Nat),
 v38 = Value.slice a40 n41 n42 ∧
 Keeps [n1, n2, n3, n4] w37 w39 ∧
 OpW Proofs.Tryz.prog (builtin Builtin.append #[26, 26] 26 #[false, false] #[Value.slice a13 n14 n15, Value.slice a40 n41 n42]) w39 fun (v43 : Value) (w44 : World) =>
 ∃ (a45 : Option Addr),
 ∃ (n46 : Nat),
 ∃ (n47 : Nat),
 v43 = Value.slice a45 n46 n47 ∧
 Keeps [n1, n2, n3, n4] w39 w44 ∧
 ∀ (w48 : World),
 Evo [n4] w44 w48 →
 Under [n1, n2, n3, n4] w48 →
 J5 (IntKind.i64.wrap (x8 + 1), x9, x10, x11, x12, (a45, n46, n47), ()) w48 ∧
 J6 (IntKind.i64.wrap (x8 + 1), x9, x10, x11, x12, (a45, n46, n47), ()) w48 < J6 (x8, x9, x10, x11, x12, (a13, n14, n15), ()) w16)) ∧
 (decide (x8 < (↑m_4n : Int)) = false →
 (decide (at' < 0) = true →
 OpW Proofs.Tryz.prog
 (valueS
 (Instr.buildSlice 26 1
 #[(0,
 Value.agg
 #[Value.int IntKind.i64 f_0, Value.int IntKind.i64 f_1, Value.int IntKind.i64 f_2, Value.int IntKind.i64 f_3, Value.int IntKind.i64 f_4, Value.int IntKind.i64 f_5, Value.int IntKind.i64 f_6,
 Value.bool f_7])]))
 w16 fun (v49 : Value) (w50 : World) =>
 ∃ (a51 : Option Addr),
 ∃ (n52 : Nat),
 ∃ (n53 : Nat),
 v49 = Value.slice a51 n52 n53 ∧
 Keeps [n1, n2, n3, n4] w16 w50 ∧
 OpW Proofs.Tryz.prog (builtin Builtin.append #[26, 26] 26 #[false, false] #[Value.slice a13 n14 n15, Value.slice a51 n52 n53]) w50 fun (v54 : Value) (w55 : World) =>
 ∃ (a56 : Option Addr),
 ∃ (n57 : Nat),
 ∃ (n58 : Nat),
 v54 = Value.slice a56 n57 n58 ∧
 Keeps [n1, n2, n3, n4] w50 w55 ∧
 ∀ (w59 : World),
 Evo [n3, n4] w55 w59 →
 Under [n1, n2, n3, n4] w59 →
 R (Ending.returned (Value.agg #[Value.int IntKind.i64 x9, Value.int IntKind.i64 x10, Value.int IntKind.i64 x11, Value.int IntKind.i64 x12, Value.slice a56 n57 n58])) w59) ∧
 (decide (at' < 0) = false →
 ∀ (w60 : World),
 Evo [n3] w16 w60 →
 Under [n1, n2, n3, n4] w60 → R (Ending.returned (Value.agg #[Value.int IntKind.i64 x9, Value.int IntKind.i64 x10, Value.int IntKind.i64 x11, Value.int IntKind.i64 x12, Value.slice a13 n14 n15])) w60))
theorem f17_eq (m_0 : Int) (m_1 : Int) (m_2 : Int) (m_3 : Int) (m_4a : Option Addr) (m_4n : Nat) (m_4c : Nat) (at' : Int) (f_0 : Int) (f_1 : Int) (f_2 : Int) (f_3 : Int) (f_4 : Int) (f_5 : Int) (f_6 : Int) (f_7 : Bool) (w : World) (R : Ending → World → Prop) : (fnF Go.Proofs.Tryz.prog h17 Go.Proofs.Tryz.f17 [Value.agg #[Value.int IntKind.i64 m_0, Value.int IntKind.i64 m_1, Value.int IntKind.i64 m_2, Value.int IntKind.i64 m_3, Value.slice m_4a m_4n m_4c], Value.int IntKind.i64 at',
 Value.agg #[Value.int IntKind.i64 f_0, Value.int IntKind.i64 f_1, Value.int IntKind.i64 f_2, Value.int IntKind.i64 f_3, Value.int IntKind.i64 f_4, Value.int IntKind.i64 f_5, Value.int IntKind.i64 f_6, Value.bool f_7]] w R).den = f17_vc m_0 m_1 m_2 m_3 m_4a m_4n m_4c at' f_0 f_1 f_2 f_3 f_4 f_5 f_6 f_7 w R := by kernel_rfl
theorem f17_calls (m_0 : Int) (m_1 : Int) (m_2 : Int) (m_3 : Int) (m_4a : Option Addr) (m_4n : Nat) (m_4c : Nat) (at' : Int) (f_0 : Int) (f_1 : Int) (f_2 : Int) (f_3 : Int) (f_4 : Int) (f_5 : Int) (f_6 : Int) (f_7 : Bool) (w : World) (R : Ending → World → Prop) (h : f17_vc m_0 m_1 m_2 m_3 m_4a m_4n m_4c at' f_0 f_1 f_2 f_3 f_4 f_5 f_6 f_7 w R) : Calls Go.Proofs.Tryz.prog 17 (List.toArray [Value.agg #[Value.int IntKind.i64 m_0, Value.int IntKind.i64 m_1, Value.int IntKind.i64 m_2, Value.int IntKind.i64 m_3, Value.slice m_4a m_4n m_4c], Value.int IntKind.i64 at',
 Value.agg #[Value.int IntKind.i64 f_0, Value.int IntKind.i64 f_1, Value.int IntKind.i64 f_2, Value.int IntKind.i64 f_3, Value.int IntKind.i64 f_4, Value.int IntKind.i64 f_5, Value.int IntKind.i64 f_6, Value.bool f_7]]) w R :=
 fn_sound (H := h17) (fn := Go.Proofs.Tryz.f17) (by kernel_rfl) (by kernel_rfl) (by kernel_rfl) ((f17_eq m_0 m_1 m_2 m_3 m_4a m_4n m_4c at' f_0 f_1 f_2 f_3 f_4 f_5 f_6 f_7 w R).mpr h)

end Vcz

/- The formulas of functions, printed by a program (VcTool.lean): each is what the generator's formula comes to, by the kernel's reckoning; whoever proves one has the function's contract. -/
set_option maxRecDepth 100000
set_option maxHeartbeats 1000000
set_option linter.unusedVariables false
namespace Vcz
open Go Go.Vc Go.RowKit
/-! manciple/mancipleref06.Add -/
def h15 : Hints := ⟨[2, 3, 4, 6], [23, 26, 29], [15, 32, 11], [(7, [0, 1, 2, 3, 4, 5, 6, 7, 8, 9])], [(5, 5)], [], [], [], []⟩
def f15_vc (a_0 : Int) (a_1 : Int) (a_2 : Int) (a_3 : Int) (b_0 : Int) (b_1 : Int) (b_2 : Int) (b_3 : Int) (w : World) (R : Ending → World → Prop) : Prop :=
 ∀ (n1 : Nat),
 w.heap.size ≤ n1 →
 ∀ (n2 : Nat),
 w.heap.size ≤ n2 →
 ∀ (n3 : Nat),
 w.heap.size ≤ n3 →
 ∀ (n4 : Nat),
 w.heap.size ≤ n4 →
 ∀ (w5 : World),
 Bel w w5 →
 Under [n1, n2, n3, n4] w5 →
 Calls Proofs.Tryz.prog 31 #[Value.agg #[Value.int IntKind.i64 a_0, Value.int IntKind.i64 a_1, Value.int IntKind.i64 a_2, Value.int IntKind.i64 a_3]] w5 fun (e6 : Ending) (w7 : World) =>
 ∃ (b8 : Bool),
 e6 = Ending.returned (Value.bool b8) ∧
 Keeps [n1, n2, n3, n4] w5 w7 ∧
 ((!b8) = true →
 ∀ (w9 : World),
 Evo [n3] w7 w9 →
 Under [n1, n2, n3, n4] w9 → R (Ending.returned (Value.tuple #[Value.agg #[Value.int IntKind.i64 0, Value.int IntKind.i64 0, Value.int IntKind.i64 0, Value.int IntKind.i64 0], Value.bool false])) w9) ∧
 ((!b8) = false →
 Calls Proofs.Tryz.prog 31 #[Value.agg #[Value.int IntKind.i64 b_0, Value.int IntKind.i64 b_1, Value.int IntKind.i64 b_2, Value.int IntKind.i64 b_3]] w7 fun (e10 : Ending) (w11 : World) =>
 ∃ (b12 : Bool),
 e10 = Ending.returned (Value.bool b12) ∧
 Keeps [n1, n2, n3, n4] w7 w11 ∧
 ((!b12) = true →
 ∀ (w13 : World),
 Evo [n3] w11 w13 →
 Under [n1, n2, n3, n4] w13 →
 R (Ending.returned (Value.tuple #[Value.agg #[Value.int IntKind.i64 0, Value.int IntKind.i64 0, Value.int IntKind.i64 0, Value.int IntKind.i64 0], Value.bool false])) w13) ∧
 ((!b12) = false →
 ∀ (w14 : World),
 Evo [n4, n4, n4, n4] w11 w14 →
 Under [n1, n2, n3, n4] w14 →
 Calls Proofs.Tryz.prog 31
 #[Value.agg
 #[Value.int IntKind.i64 (IntKind.i64.wrap (a_0 + b_0)), Value.int IntKind.i64 (IntKind.i64.wrap (a_1 + b_1)), Value.int IntKind.i64 (IntKind.i64.wrap (a_2 + b_2)),
 Value.int IntKind.i64 (IntKind.i64.wrap (a_3 + b_3))]]
 w14 fun (e15 : Ending) (w16 : World) =>
 ∃ (b17 : Bool),
 e15 = Ending.returned (Value.bool b17) ∧
 Keeps [n1, n2, n3, n4] w14 w16 ∧
 ((!b17) = true →
 ∀ (w18 : World),
 Evo [n3] w16 w18 →
 Under [n1, n2, n3, n4] w18 →
 R (Ending.returned (Value.tuple #[Value.agg #[Value.int IntKind.i64 0, Value.int IntKind.i64 0, Value.int IntKind.i64 0, Value.int IntKind.i64 0], Value.bool false]))
 w18) ∧
 ((!b17) = false →
 ∀ (w19 : World),
 Evo [n3] w16 w19 →
 Under [n1, n2, n3, n4] w19 →
 R
 (Ending.returned
 (Value.tuple
 #[Value.agg
 #[Value.int IntKind.i64 (IntKind.i64.wrap (a_0 + b_0)), Value.int IntKind.i64 (IntKind.i64.wrap (a_1 + b_1)),
 Value.int IntKind.i64 (IntKind.i64.wrap (a_2 + b_2)), Value.int IntKind.i64 (IntKind.i64.wrap (a_3 + b_3))],
 Value.bool true]))
 w19)))
theorem f15_eq (a_0 : Int) (a_1 : Int) (a_2 : Int) (a_3 : Int) (b_0 : Int) (b_1 : Int) (b_2 : Int) (b_3 : Int) (w : World) (R : Ending → World → Prop) : (fnF Go.Proofs.Tryz.prog h15 Go.Proofs.Tryz.f15 [Value.agg #[Value.int IntKind.i64 a_0, Value.int IntKind.i64 a_1, Value.int IntKind.i64 a_2, Value.int IntKind.i64 a_3],
 Value.agg #[Value.int IntKind.i64 b_0, Value.int IntKind.i64 b_1, Value.int IntKind.i64 b_2, Value.int IntKind.i64 b_3]] w R).den = f15_vc a_0 a_1 a_2 a_3 b_0 b_1 b_2 b_3 w R := by kernel_rfl
theorem f15_calls (a_0 : Int) (a_1 : Int) (a_2 : Int) (a_3 : Int) (b_0 : Int) (b_1 : Int) (b_2 : Int) (b_3 : Int) (w : World) (R : Ending → World → Prop) (h : f15_vc a_0 a_1 a_2 a_3 b_0 b_1 b_2 b_3 w R) : Calls Go.Proofs.Tryz.prog 15 (List.toArray [Value.agg #[Value.int IntKind.i64 a_0, Value.int IntKind.i64 a_1, Value.int IntKind.i64 a_2, Value.int IntKind.i64 a_3],
 Value.agg #[Value.int IntKind.i64 b_0, Value.int IntKind.i64 b_1, Value.int IntKind.i64 b_2, Value.int IntKind.i64 b_3]]) w R :=
 fn_sound (H := h15) (fn := Go.Proofs.Tryz.f15) (by kernel_rfl) (by kernel_rfl) (by kernel_rfl) ((f15_eq a_0 a_1 a_2 a_3 b_0 b_1 b_2 b_3 w R).mpr h)

/-! manciple/mancipleref06.Sub -/
def h16 : Hints := ⟨[2, 3, 4, 6], [19, 22, 25], [11], [(7, [0, 1, 2, 3, 4, 5, 6, 7, 8, 9])], [(5, 5)], [], [], [], []⟩
def f16_vc (a_0 : Int) (a_1 : Int) (a_2 : Int) (a_3 : Int) (b_0 : Int) (b_1 : Int) (b_2 : Int) (b_3 : Int) (w : World) (R : Ending → World → Prop) : Prop :=
 ∀ (n1 : Nat),
 w.heap.size ≤ n1 →
 ∀ (n2 : Nat),
 w.heap.size ≤ n2 →
 ∀ (n3 : Nat),
 w.heap.size ≤ n3 →
 ∀ (n4 : Nat),
 w.heap.size ≤ n4 →
 ∀ (w5 : World),
 Bel w w5 →
 Under [n1, n2, n3, n4] w5 →
 Calls Proofs.Tryz.prog 32
 #[Value.agg #[Value.int IntKind.i64 a_0, Value.int IntKind.i64 a_1, Value.int IntKind.i64 a_2, Value.int IntKind.i64 a_3],
 Value.agg #[Value.int IntKind.i64 b_0, Value.int IntKind.i64 b_1, Value.int IntKind.i64 b_2, Value.int IntKind.i64 b_3]]
 w5 fun (e6 : Ending) (w7 : World) =>
 ∃ (b8 : Bool),
 e6 = Ending.returned (Value.bool b8) ∧
 Keeps [n1, n2, n3, n4] w5 w7 ∧
 ((!b8) = true →
 ∀ (w9 : World),
 Evo [n3] w7 w9 →
 Under [n1, n2, n3, n4] w9 → R (Ending.returned (Value.tuple #[Value.agg #[Value.int IntKind.i64 0, Value.int IntKind.i64 0, Value.int IntKind.i64 0, Value.int IntKind.i64 0], Value.bool false])) w9) ∧
 ((!b8) = false →
 ∀ (w10 : World),
 Evo [n3, n4, n4, n4, n4] w7 w10 →
 Under [n1, n2, n3, n4] w10 →
 R
 (Ending.returned
 (Value.tuple
 #[Value.agg
 #[Value.int IntKind.i64 (IntKind.i64.wrap (a_0 - b_0)), Value.int IntKind.i64 (IntKind.i64.wrap (a_1 - b_1)), Value.int IntKind.i64 (IntKind.i64.wrap (a_2 - b_2)),
 Value.int IntKind.i64 (IntKind.i64.wrap (a_3 - b_3))],
 Value.bool true]))
 w10)
theorem f16_eq (a_0 : Int) (a_1 : Int) (a_2 : Int) (a_3 : Int) (b_0 : Int) (b_1 : Int) (b_2 : Int) (b_3 : Int) (w : World) (R : Ending → World → Prop) : (fnF Go.Proofs.Tryz.prog h16 Go.Proofs.Tryz.f16 [Value.agg #[Value.int IntKind.i64 a_0, Value.int IntKind.i64 a_1, Value.int IntKind.i64 a_2, Value.int IntKind.i64 a_3],
 Value.agg #[Value.int IntKind.i64 b_0, Value.int IntKind.i64 b_1, Value.int IntKind.i64 b_2, Value.int IntKind.i64 b_3]] w R).den = f16_vc a_0 a_1 a_2 a_3 b_0 b_1 b_2 b_3 w R := by kernel_rfl
theorem f16_calls (a_0 : Int) (a_1 : Int) (a_2 : Int) (a_3 : Int) (b_0 : Int) (b_1 : Int) (b_2 : Int) (b_3 : Int) (w : World) (R : Ending → World → Prop) (h : f16_vc a_0 a_1 a_2 a_3 b_0 b_1 b_2 b_3 w R) : Calls Go.Proofs.Tryz.prog 16 (List.toArray [Value.agg #[Value.int IntKind.i64 a_0, Value.int IntKind.i64 a_1, Value.int IntKind.i64 a_2, Value.int IntKind.i64 a_3],
 Value.agg #[Value.int IntKind.i64 b_0, Value.int IntKind.i64 b_1, Value.int IntKind.i64 b_2, Value.int IntKind.i64 b_3]]) w R :=
 fn_sound (H := h16) (fn := Go.Proofs.Tryz.f16) (by kernel_rfl) (by kernel_rfl) (by kernel_rfl) ((f16_eq a_0 a_1 a_2 a_3 b_0 b_1 b_2 b_3 w R).mpr h)

/-! manciple/mancipleref06.Dominant -/
def h88 : Hints := ⟨[2, 3, 5, 6, 9], [26, 29, 33], [18, 45, 14, 36, 39], [(3, [0, 1, 2, 3]), (7, [0, 1, 2, 3, 4, 5, 6, 7, 8]), (10, [0, 1, 2, 3])], [(5, 5)], [], [(6, ⟨[(7, .int .i64)], [(6, .cons (.int .i64) (.cons (.int .i64) (.nil)))]⟩)], [], []⟩
def f88_vc (a_0 : Int) (a_1 : Int) (a_2 : Int) (a_3 : Int) (total_0 : Int) (total_1 : Int) (total_2 : Int) (total_3 : Int) (w : World) (R : Ending → World → Prop) : Prop :=
 ∀ (n1 : Nat),
 w.heap.size ≤ n1 →
 ∀ (n2 : Nat),
 w.heap.size ≤ n2 →
 ∀ (n3 : Nat),
 w.heap.size ≤ n3 →
 ∀ (n4 : Nat),
 w.heap.size ≤ n4 →
 ∀ (w5 : World),
 Evo [n4] w w5 →
 Under [n1, n2, n3, n4] w5 →
 Calls Proofs.Tryz.prog 31 #[Value.agg #[Value.int IntKind.i64 a_0, Value.int IntKind.i64 a_1, Value.int IntKind.i64 a_2, Value.int IntKind.i64 a_3]] w5 fun (e6 : Ending) (w7 : World) =>
 ∃ (b8 : Bool),
 e6 = Ending.returned (Value.bool b8) ∧
 Keeps [n1, n2, n3, n4] w5 w7 ∧
 ((!b8) = true → ∀ (w9 : World), Evo [n3] w7 w9 → Under [n1, n2, n3, n4] w9 → R (Ending.returned (Value.tuple #[Value.int IntKind.i64 (-1), Value.agg #[Value.int IntKind.i64 0, Value.int IntKind.i64 1]])) w9) ∧
 ((!b8) = false →
 Calls Proofs.Tryz.prog 31 #[Value.agg #[Value.int IntKind.i64 total_0, Value.int IntKind.i64 total_1, Value.int IntKind.i64 total_2, Value.int IntKind.i64 total_3]] w7 fun (e10 : Ending) (w11 : World) =>
 ∃ (b12 : Bool),
 e10 = Ending.returned (Value.bool b12) ∧
 Keeps [n1, n2, n3, n4] w7 w11 ∧
 ((!b12) = true →
 ∀ (w13 : World),
 Evo [n3] w11 w13 → Under [n1, n2, n3, n4] w13 → R (Ending.returned (Value.tuple #[Value.int IntKind.i64 (-1), Value.agg #[Value.int IntKind.i64 0, Value.int IntKind.i64 1]])) w13) ∧
 ((!b12) = false →
 ∃ (J14 : Int × Int × Int × Unit → World → Prop),
 (∀ (n15 : Nat),
 w11.heap.size ≤ n15 →
 (decide (total_0 > 0) = true →
 (true = true → ∀ (w16 : World), Evo [n4, n15] w11 w16 → Under [n1, n2, n3, n4, n15] w16 → J14 (0, a_0, total_0, ()) w16) ∧
 (true = false →
 ∀ (w17 : World),
 Evo [n15] w11 w17 →
 Under [n1, n2, n3, n4, n15] w17 →
 Calls Proofs.Tryz.prog 95 #[Value.agg #[Value.int IntKind.i64 a_0, Value.int IntKind.i64 total_0], Value.agg #[Value.int IntKind.i64 0, Value.int IntKind.i64 1]] w17
 fun (e18 : Ending) (w19 : World) =>
 ∃ (x20 : Int),
 e18 = Ending.returned (Value.int IntKind.i64 x20) ∧
 Keeps [n1, n2, n3, n4, n15] w17 w19 ∧
 (decide (x20 > 0) = true → ∀ (w21 : World), Evo [n4] w19 w21 → Under [n1, n2, n3, n4, n15] w21 → J14 (0, a_0, total_0, ()) w21) ∧
 (decide (x20 > 0) = false → J14 (-1, 0, 1, ()) w19))) ∧
 (decide (total_0 > 0) = false → ∀ (w22 : World), Evo [n15] w11 w22 → Under [n1, n2, n3, n4, n15] w22 → J14 (-1, 0, 1, ()) w22)) ∧
 ∀ (x23 x24 x25 : Int) (w26 : World),
 J14 (x23, x24, x25, ()) w26 →
 ∃ (J27 : Int × Int × Int × Unit → World → Prop),
 (∀ (n28 : Nat),
 w26.heap.size ≤ n28 →
 (decide (total_1 > 0) = true →
 (decide (x23 < 0) = true → ∀ (w29 : World), Evo [n4, n28] w26 w29 → Under [n1, n2, n3, n4, n28] w29 → J27 (1, a_1, total_1, ()) w29) ∧
 (decide (x23 < 0) = false →
 ∀ (w30 : World),
 Evo [n28] w26 w30 →
 Under [n1, n2, n3, n4, n28] w30 →
 Calls Proofs.Tryz.prog 95
 #[Value.agg #[Value.int IntKind.i64 a_1, Value.int IntKind.i64 total_1], Value.agg #[Value.int IntKind.i64 x24, Value.int IntKind.i64 x25]] w30
 fun (e31 : Ending) (w32 : World) =>
 ∃ (x33 : Int),
 e31 = Ending.returned (Value.int IntKind.i64 x33) ∧
 Keeps [n1, n2, n3, n4, n28] w30 w32 ∧
 (decide (x33 > 0) = true → ∀ (w34 : World), Evo [n4] w32 w34 → Under [n1, n2, n3, n4, n28] w34 → J27 (1, a_1, total_1, ()) w34) ∧
 (decide (x33 > 0) = false → J27 (x23, x24, x25, ()) w32))) ∧
 (decide (total_1 > 0) = false → ∀ (w35 : World), Evo [n28] w26 w35 → Under [n1, n2, n3, n4, n28] w35 → J27 (x23, x24, x25, ()) w35)) ∧
 ∀ (x36 x37 x38 : Int) (w39 : World),
 J27 (x36, x37, x38, ()) w39 →
 ∃ (J40 : Int × Int × Int × Unit → World → Prop),
 (∀ (n41 : Nat),
 w39.heap.size ≤ n41 →
 (decide (total_2 > 0) = true →
 (decide (x36 < 0) = true → ∀ (w42 : World), Evo [n4, n41] w39 w42 → Under [n1, n2, n3, n4, n41] w42 → J40 (2, a_2, total_2, ()) w42) ∧
 (decide (x36 < 0) = false →
 ∀ (w43 : World),
 Evo [n41] w39 w43 →
 Under [n1, n2, n3, n4, n41] w43 →
 Calls Proofs.Tryz.prog 95
 #[Value.agg #[Value.int IntKind.i64 a_2, Value.int IntKind.i64 total_2], Value.agg #[Value.int IntKind.i64 x37, Value.int IntKind.i64 x38]] w43
 fun (e44 : Ending) (w45 : World) =>
 ∃ (x46 : Int),
 e44 = Ending.returned (Value.int IntKind.i64 x46) ∧
 Keeps [n1, n2, n3, n4, n41] w43 w45 ∧
 (decide (x46 > 0) = true → ∀ (w47 : World), Evo [n4] w45 w47 → Under [n1, n2, n3, n4, n41] w47 → J40 (2, a_2, total_2, ()) w47) ∧
 (decide (x46 > 0) = false → J40 (x36, x37, x38, ()) w45))) ∧
 (decide (total_2 > 0) = false → ∀ (w48 : World), Evo [n41] w39 w48 → Under [n1, n2, n3, n4, n41] w48 → J40 (x36, x37, x38, ()) w48)) ∧
 ∀ (x49 x50 x51 : Int) (w52 : World),
 J40 (x49, x50, x51, ()) w52 →
 ∃ (J53 : Int × Int × Int × Unit → World → Prop),
 (∀ (n54 : Nat),
 w52.heap.size ≤ n54 →
 (decide (total_3 > 0) = true →
 (decide (x49 < 0) = true → ∀ (w55 : World), Evo [n4, n54] w52 w55 → Under [n1, n2, n3, n4, n54] w55 → J53 (3, a_3, total_3, ()) w55) ∧
 (decide (x49 < 0) = false →
 ∀ (w56 : World),
 Evo [n54] w52 w56 →
 Under [n1, n2, n3, n4, n54] w56 →
 Calls Proofs.Tryz.prog 95
 #[Value.agg #[Value.int IntKind.i64 a_3, Value.int IntKind.i64 total_3], Value.agg #[Value.int IntKind.i64 x50, Value.int IntKind.i64 x51]] w56
 fun (e57 : Ending) (w58 : World) =>
 ∃ (x59 : Int),
 e57 = Ending.returned (Value.int IntKind.i64 x59) ∧
 Keeps [n1, n2, n3, n4, n54] w56 w58 ∧
 (decide (x59 > 0) = true → ∀ (w60 : World), Evo [n4] w58 w60 → Under [n1, n2, n3, n4, n54] w60 → J53 (3, a_3, total_3, ()) w60) ∧
 (decide (x59 > 0) = false → J53 (x49, x50, x51, ()) w58))) ∧
 (decide (total_3 > 0) = false → ∀ (w61 : World), Evo [n54] w52 w61 → Under [n1, n2, n3, n4, n54] w61 → J53 (x49, x50, x51, ()) w61)) ∧
 ∀ (x62 x63 x64 : Int) (w65 : World),
 J53 (x62, x63, x64, ()) w65 →
 ∀ (w66 : World),
 Evo [n3] w65 w66 →
 Under [n1, n2, n3, n4] w66 →
 R (Ending.returned (Value.tuple #[Value.int IntKind.i64 x62, Value.agg #[Value.int IntKind.i64 x63, Value.int IntKind.i64 x64]])) w66))
theorem f88_eq (a_0 : Int) (a_1 : Int) (a_2 : Int) (a_3 : Int) (total_0 : Int) (total_1 : Int) (total_2 : Int) (total_3 : Int) (w : World) (R : Ending → World → Prop) : (fnF Go.Proofs.Tryz.prog h88 Go.Proofs.Tryz.f88 [Value.agg #[Value.int IntKind.i64 a_0, Value.int IntKind.i64 a_1, Value.int IntKind.i64 a_2, Value.int IntKind.i64 a_3],
 Value.agg #[Value.int IntKind.i64 total_0, Value.int IntKind.i64 total_1, Value.int IntKind.i64 total_2, Value.int IntKind.i64 total_3]] w R).den = f88_vc a_0 a_1 a_2 a_3 total_0 total_1 total_2 total_3 w R := by kernel_rfl
theorem f88_calls (a_0 : Int) (a_1 : Int) (a_2 : Int) (a_3 : Int) (total_0 : Int) (total_1 : Int) (total_2 : Int) (total_3 : Int) (w : World) (R : Ending → World → Prop) (h : f88_vc a_0 a_1 a_2 a_3 total_0 total_1 total_2 total_3 w R) : Calls Go.Proofs.Tryz.prog 88 (List.toArray [Value.agg #[Value.int IntKind.i64 a_0, Value.int IntKind.i64 a_1, Value.int IntKind.i64 a_2, Value.int IntKind.i64 a_3],
 Value.agg #[Value.int IntKind.i64 total_0, Value.int IntKind.i64 total_1, Value.int IntKind.i64 total_2, Value.int IntKind.i64 total_3]]) w R :=
 fn_sound (H := h88) (fn := Go.Proofs.Tryz.f88) (by kernel_rfl) (by kernel_rfl) (by kernel_rfl) ((f88_eq a_0 a_1 a_2 a_3 total_0 total_1 total_2 total_3 w R).mpr h)

/-! manciple/mancipleref06.Right -/
def h31 : Hints := ⟨[1], [9, 14], [17, 12], [], [(2, 5)], [], [], [], []⟩
def f31_vc (a_0 : Int) (a_1 : Int) (a_2 : Int) (a_3 : Int) (w : World) (R : Ending → World → Prop) : Prop :=
 ∀ (n1 : Nat),
 w.heap.size ≤ n1 →
 (decide (a_0 < 0) = true → ∀ (w2 : World), Bel w w2 → Under [n1] w2 → R (Ending.returned (Value.bool false)) w2) ∧
 (decide (a_0 < 0) = false →
 (decide (a_0 > 1152921504606846976) = true → ∀ (w3 : World), Bel w w3 → Under [n1] w3 → R (Ending.returned (Value.bool false)) w3) ∧
 (decide (a_0 > 1152921504606846976) = false →
 (decide (a_1 < 0) = true → ∀ (w4 : World), Bel w w4 → Under [n1] w4 → R (Ending.returned (Value.bool false)) w4) ∧
 (decide (a_1 < 0) = false →
 (decide (a_1 > 1152921504606846976) = true → ∀ (w5 : World), Bel w w5 → Under [n1] w5 → R (Ending.returned (Value.bool false)) w5) ∧
 (decide (a_1 > 1152921504606846976) = false →
 (decide (a_2 < 0) = true → ∀ (w6 : World), Bel w w6 → Under [n1] w6 → R (Ending.returned (Value.bool false)) w6) ∧
 (decide (a_2 < 0) = false →
 (decide (a_2 > 1152921504606846976) = true → ∀ (w7 : World), Bel w w7 → Under [n1] w7 → R (Ending.returned (Value.bool false)) w7) ∧
 (decide (a_2 > 1152921504606846976) = false →
 (decide (a_3 < 0) = true → ∀ (w8 : World), Bel w w8 → Under [n1] w8 → R (Ending.returned (Value.bool false)) w8) ∧
 (decide (a_3 < 0) = false →
 (decide (a_3 > 1152921504606846976) = true → ∀ (w9 : World), Bel w w9 → Under [n1] w9 → R (Ending.returned (Value.bool false)) w9) ∧
 (decide (a_3 > 1152921504606846976) = false → ∀ (w10 : World), Bel w w10 → Under [n1] w10 → R (Ending.returned (Value.bool true)) w10))))))))
theorem f31_eq (a_0 : Int) (a_1 : Int) (a_2 : Int) (a_3 : Int) (w : World) (R : Ending → World → Prop) : (fnF Go.Proofs.Tryz.prog h31 Go.Proofs.Tryz.f31 [Value.agg #[Value.int IntKind.i64 a_0, Value.int IntKind.i64 a_1, Value.int IntKind.i64 a_2, Value.int IntKind.i64 a_3]] w R).den = f31_vc a_0 a_1 a_2 a_3 w R := by kernel_rfl
theorem f31_calls (a_0 : Int) (a_1 : Int) (a_2 : Int) (a_3 : Int) (w : World) (R : Ending → World → Prop) (h : f31_vc a_0 a_1 a_2 a_3 w R) : Calls Go.Proofs.Tryz.prog 31 (List.toArray [Value.agg #[Value.int IntKind.i64 a_0, Value.int IntKind.i64 a_1, Value.int IntKind.i64 a_2, Value.int IntKind.i64 a_3]]) w R :=
 fn_sound (H := h31) (fn := Go.Proofs.Tryz.f31) (by kernel_rfl) (by kernel_rfl) (by kernel_rfl) ((f31_eq a_0 a_1 a_2 a_3 w R).mpr h)

/-! manciple/mancipleref06.Holds -/
def h32 : Hints := ⟨[2, 3], [11, 14], [16, 19], [(4, [0, 1, 2, 3, 4, 5, 6])], [(2, 5)], [], [], [], []⟩
def f32_vc (a_0 : Int) (a_1 : Int) (a_2 : Int) (a_3 : Int) (b_0 : Int) (b_1 : Int) (b_2 : Int) (b_3 : Int) (w : World) (R : Ending → World → Prop) : Prop :=
 ∀ (n1 : Nat),
 w.heap.size ≤ n1 →
 ∀ (n2 : Nat),
 w.heap.size ≤ n2 →
 (decide (a_0 < b_0) = true → ∀ (w3 : World), Bel w w3 → Under [n1, n2] w3 → R (Ending.returned (Value.bool false)) w3) ∧
 (decide (a_0 < b_0) = false →
 (decide (a_1 < b_1) = true → ∀ (w4 : World), Bel w w4 → Under [n1, n2] w4 → R (Ending.returned (Value.bool false)) w4) ∧
 (decide (a_1 < b_1) = false →
 (decide (a_2 < b_2) = true → ∀ (w5 : World), Bel w w5 → Under [n1, n2] w5 → R (Ending.returned (Value.bool false)) w5) ∧
 (decide (a_2 < b_2) = false →
 (decide (a_3 < b_3) = true → ∀ (w6 : World), Bel w w6 → Under [n1, n2] w6 → R (Ending.returned (Value.bool false)) w6) ∧
 (decide (a_3 < b_3) = false →
 ∀ (w7 : World),
 Bel w w7 →
 Under [n1, n2] w7 →
 Calls Proofs.Tryz.prog 31 #[Value.agg #[Value.int IntKind.i64 a_0, Value.int IntKind.i64 a_1, Value.int IntKind.i64 a_2, Value.int IntKind.i64 a_3]] w7 fun (e8 : Ending) (w9 : World) =>
 ∃ (b10 : Bool),
 e8 = Ending.returned (Value.bool b10) ∧
 Keeps [n1, n2] w7 w9 ∧
 (b10 = true →
 Calls Proofs.Tryz.prog 31 #[Value.agg #[Value.int IntKind.i64 b_0, Value.int IntKind.i64 b_1, Value.int IntKind.i64 b_2, Value.int IntKind.i64 b_3]] w9 fun (e11 : Ending) (w12 : World) =>
 ∃ (b13 : Bool), e11 = Ending.returned (Value.bool b13) ∧ Keeps [n1, n2] w9 w12 ∧ R (Ending.returned (Value.bool b13)) w12) ∧
 (b10 = false → R (Ending.returned (Value.bool false)) w9)))))
theorem f32_eq (a_0 : Int) (a_1 : Int) (a_2 : Int) (a_3 : Int) (b_0 : Int) (b_1 : Int) (b_2 : Int) (b_3 : Int) (w : World) (R : Ending → World → Prop) : (fnF Go.Proofs.Tryz.prog h32 Go.Proofs.Tryz.f32 [Value.agg #[Value.int IntKind.i64 a_0, Value.int IntKind.i64 a_1, Value.int IntKind.i64 a_2, Value.int IntKind.i64 a_3],
 Value.agg #[Value.int IntKind.i64 b_0, Value.int IntKind.i64 b_1, Value.int IntKind.i64 b_2, Value.int IntKind.i64 b_3]] w R).den = f32_vc a_0 a_1 a_2 a_3 b_0 b_1 b_2 b_3 w R := by kernel_rfl
theorem f32_calls (a_0 : Int) (a_1 : Int) (a_2 : Int) (a_3 : Int) (b_0 : Int) (b_1 : Int) (b_2 : Int) (b_3 : Int) (w : World) (R : Ending → World → Prop) (h : f32_vc a_0 a_1 a_2 a_3 b_0 b_1 b_2 b_3 w R) : Calls Go.Proofs.Tryz.prog 32 (List.toArray [Value.agg #[Value.int IntKind.i64 a_0, Value.int IntKind.i64 a_1, Value.int IntKind.i64 a_2, Value.int IntKind.i64 a_3],
 Value.agg #[Value.int IntKind.i64 b_0, Value.int IntKind.i64 b_1, Value.int IntKind.i64 b_2, Value.int IntKind.i64 b_3]]) w R :=
 fn_sound (H := h32) (fn := Go.Proofs.Tryz.f32) (by kernel_rfl) (by kernel_rfl) (by kernel_rfl) ((f32_eq a_0 a_1 a_2 a_3 b_0 b_1 b_2 b_3 w R).mpr h)

/-! manciple/mancipleref07.Cmp -/
def h78 : Hints := ⟨[4, 6], [], [20, 35, 38, 15], [(3, [0, 1, 2, 3, 4, 6, 7, 8, 9, 10, 5, 11, 12, 13])], [], [], [], [], []⟩
def f78_vc (a_0 : Int) (a_1 : Int) (w' : Int) (b_0 : Int) (b_1 : Int) (u : Int) (w : World) (R : Ending → World → Prop) : Prop :=
 ∀ (n1 : Nat),
 w.heap.size ≤ n1 →
 ∀ (n2 : Nat),
 w.heap.size ≤ n2 →
 ∀ (w3 : World),
 Bel w w3 →
 Under [n1, n2] w3 →
 Calls Proofs.Tryz.prog 85 #[Value.agg #[Value.int IntKind.i64 a_0, Value.int IntKind.i64 a_1], Value.int IntKind.i64 w'] w3 fun (e4 : Ending) (w5 : World) =>
 ∃ (b6 : Bool),
 e4 = Ending.returned (Value.bool b6) ∧
 Keeps [n1, n2] w3 w5 ∧
 ((!b6) = true → R (Ending.returned (Value.int IntKind.i64 0)) w5) ∧
 ((!b6) = false →
 Calls Proofs.Tryz.prog 85 #[Value.agg #[Value.int IntKind.i64 b_0, Value.int IntKind.i64 b_1], Value.int IntKind.i64 u] w5 fun (e7 : Ending) (w8 : World) =>
 ∃ (b9 : Bool),
 e7 = Ending.returned (Value.bool b9) ∧
 Keeps [n1, n2] w5 w8 ∧
 ((!b9) = true → R (Ending.returned (Value.int IntKind.i64 0)) w8) ∧
 ((!b9) = false →
 ∀ (w10 : World),
 Bel w8 w10 →
 Under [n1, n2] w10 →
 Calls Proofs.Tryz.prog 86 #[Value.int IntKind.i64 a_0, Value.int IntKind.i64 b_1, Value.int IntKind.i64 u] w10 fun (e11 : Ending) (w12 : World) =>
 ∃ (a13 : Option Addr),
 ∃ (n14 : Nat),
 ∃ (n15 : Nat),
 e11 = Ending.returned (Value.slice a13 n14 n15) ∧
 Keeps [n1, n2] w10 w12 ∧
 Calls Proofs.Tryz.prog 86 #[Value.int IntKind.i64 b_0, Value.int IntKind.i64 a_1, Value.int IntKind.i64 w'] w12 fun (e16 : Ending) (w17 : World) =>
 ∃ (a18 : Option Addr),
 ∃ (n19 : Nat),
 ∃ (n20 : Nat),
 e16 = Ending.returned (Value.slice a18 n19 n20) ∧
 Keeps [n1, n2] w12 w17 ∧
 Calls Proofs.Tryz.prog 87 #[Value.slice a13 n14 n15, Value.slice a18 n19 n20] w17 fun (e21 : Ending) (w22 : World) =>
 ∃ (b23 : Bool),
 e21 = Ending.returned (Value.bool b23) ∧
 Keeps [n1, n2] w17 w22 ∧
 (b23 = true → R (Ending.returned (Value.int IntKind.i64 (-1))) w22) ∧
 (b23 = false →
 Calls Proofs.Tryz.prog 87 #[Value.slice a18 n19 n20, Value.slice a13 n14 n15] w22 fun (e24 : Ending) (w25 : World) =>
 ∃ (b26 : Bool),
 e24 = Ending.returned (Value.bool b26) ∧
 Keeps [n1, n2] w22 w25 ∧
 (b26 = true → R (Ending.returned (Value.int IntKind.i64 1)) w25) ∧ (b26 = false → R (Ending.returned (Value.int IntKind.i64 0)) w25))))
theorem f78_eq (a_0 : Int) (a_1 : Int) (w' : Int) (b_0 : Int) (b_1 : Int) (u : Int) (w : World) (R : Ending → World → Prop) : (fnF Go.Proofs.Tryz.prog h78 Go.Proofs.Tryz.f78 [Value.agg #[Value.int IntKind.i64 a_0, Value.int IntKind.i64 a_1], Value.int IntKind.i64 w', Value.agg #[Value.int IntKind.i64 b_0, Value.int IntKind.i64 b_1], Value.int IntKind.i64 u] w R).den = f78_vc a_0 a_1 w' b_0 b_1 u w R := by kernel_rfl
theorem f78_calls (a_0 : Int) (a_1 : Int) (w' : Int) (b_0 : Int) (b_1 : Int) (u : Int) (w : World) (R : Ending → World → Prop) (h : f78_vc a_0 a_1 w' b_0 b_1 u w R) : Calls Go.Proofs.Tryz.prog 78 (List.toArray [Value.agg #[Value.int IntKind.i64 a_0, Value.int IntKind.i64 a_1], Value.int IntKind.i64 w', Value.agg #[Value.int IntKind.i64 b_0, Value.int IntKind.i64 b_1], Value.int IntKind.i64 u]) w R :=
 fn_sound (H := h78) (fn := Go.Proofs.Tryz.f78) (by kernel_rfl) (by kernel_rfl) (by kernel_rfl) ((f78_eq a_0 a_1 w' b_0 b_1 u w R).mpr h)

/-! manciple/mancipleref02.Cmp -/
def h95 : Hints := ⟨[2, 3], [], [14, 35, 38, 10], [(3, [0, 1, 2, 4, 5, 6, 3, 7, 8, 9]), (4, [0, 1, 2, 4, 5, 6, 3, 7, 8, 9])], [], [], [], [], []⟩
def f95_vc (a_0 : Int) (a_1 : Int) (b_0 : Int) (b_1 : Int) (w : World) (R : Ending → World → Prop) : Prop :=
 ∀ (n1 : Nat),
 w.heap.size ≤ n1 →
 ∀ (n2 : Nat),
 w.heap.size ≤ n2 →
 ∀ (w3 : World),
 Bel w w3 →
 Under [n1, n2] w3 →
 Calls Proofs.Tryz.prog 92 #[Value.agg #[Value.int IntKind.i64 a_0, Value.int IntKind.i64 a_1]] w3 fun (e4 : Ending) (w5 : World) =>
 ∃ (b6 : Bool),
 e4 = Ending.returned (Value.bool b6) ∧
 Keeps [n1, n2] w3 w5 ∧
 ((!b6) = true → R (Ending.returned (Value.int IntKind.i64 0)) w5) ∧
 ((!b6) = false →
 Calls Proofs.Tryz.prog 92 #[Value.agg #[Value.int IntKind.i64 b_0, Value.int IntKind.i64 b_1]] w5 fun (e7 : Ending) (w8 : World) =>
 ∃ (b9 : Bool),
 e7 = Ending.returned (Value.bool b9) ∧
 Keeps [n1, n2] w5 w8 ∧
 ((!b9) = true → R (Ending.returned (Value.int IntKind.i64 0)) w8) ∧
 ((!b9) = false →
 ∀ (w10 : World),
 Bel w8 w10 →
 Under [n1, n2] w10 →
 Calls Proofs.Tryz.prog 94 #[Value.int IntKind.u64 0, Value.int IntKind.u64 (IntKind.u64.wrap a_0)] w10 fun (e11 : Ending) (w12 : World) =>
 ∃ (a13 : Option Addr),
 ∃ (n14 : Nat),
 ∃ (n15 : Nat),
 e11 = Ending.returned (Value.slice a13 n14 n15) ∧
 Keeps [n1, n2] w10 w12 ∧
 Calls Proofs.Tryz.prog 94 #[Value.int IntKind.u64 0, Value.int IntKind.u64 (IntKind.u64.wrap b_1)] w12 fun (e16 : Ending) (w17 : World) =>
 ∃ (a18 : Option Addr),
 ∃ (n19 : Nat),
 ∃ (n20 : Nat),
 e16 = Ending.returned (Value.slice a18 n19 n20) ∧
 Keeps [n1, n2] w12 w17 ∧
 Calls Proofs.Tryz.prog 93 #[Value.slice a13 n14 n15, Value.slice a18 n19 n20] w17 fun (e21 : Ending) (w22 : World) =>
 ∃ (a23 : Option Addr),
 ∃ (n24 : Nat),
 ∃ (n25 : Nat),
 e21 = Ending.returned (Value.slice a23 n24 n25) ∧
 Keeps [n1, n2] w17 w22 ∧
 ∀ (w26 : World),
 Bel w22 w26 →
 Under [n1, n2] w26 →
 Calls Proofs.Tryz.prog 94 #[Value.int IntKind.u64 0, Value.int IntKind.u64 (IntKind.u64.wrap b_0)] w26 fun (e27 : Ending) (w28 : World) =>
 ∃ (a29 : Option Addr),
 ∃ (n30 : Nat),
 ∃ (n31 : Nat),
 e27 = Ending.returned (Value.slice a29 n30 n31) ∧
 Keeps [n1, n2] w26 w28 ∧
 Calls Proofs.Tryz.prog 94 #[Value.int IntKind.u64 0, Value.int IntKind.u64 (IntKind.u64.wrap a_1)] w28 fun (e32 : Ending) (w33 : World) =>
 ∃ (a34 : Option Addr),
 ∃ (n35 : Nat),
 ∃ (n36 : Nat),
 e32 = Ending.returned (Value.slice a34 n35 n36) ∧
 Keeps [n1, n2] w28 w33 ∧
 Calls Proofs.Tryz.prog 93 #[Value.slice a29 n30 n31, Value.slice a34 n35 n36] w33 fun (e37 : Ending) (w38 : World) =>
 ∃ (a39 : Option Addr),
 ∃ (n40 : Nat),
 ∃ (n41 : Nat),
 e37 = Ending.returned (Value.slice a39 n40 n41) ∧
 Keeps [n1, n2] w33 w38 ∧
 Calls Proofs.Tryz.prog 87 #[Value.slice a23 n24 n25, Value.slice a39 n40 n41] w38 fun (e42 : Ending) (w43 : World) =>
 ∃ (b44 : Bool),
 e42 = Ending.returned (Value.bool b44) ∧
 Keeps [n1, n2] w38 w43 ∧
 (b44 = true → R (Ending.returned (Value.int IntKind.i64 (-1))) w43) ∧
 (b44 = false →
 Calls Proofs.Tryz.prog 87 #[Value.slice a39 n40 n41, Value.slice a23 n24 n25] w43
 fun (e45 : Ending) (w46 : World) =>
 ∃ (b47 : Bool),
 e45 = Ending.returned (Value.bool b47) ∧
 Keeps [n1, n2] w43 w46 ∧
 (b47 = true → R (Ending.returned (Value.int IntKind.i64 1)) w46) ∧
 (b47 = false → R (Ending.returned (Value.int IntKind.i64 0)) w46))))
theorem f95_eq (a_0 : Int) (a_1 : Int) (b_0 : Int) (b_1 : Int) (w : World) (R : Ending → World → Prop) : (fnF Go.Proofs.Tryz.prog h95 Go.Proofs.Tryz.f95 [Value.agg #[Value.int IntKind.i64 a_0, Value.int IntKind.i64 a_1], Value.agg #[Value.int IntKind.i64 b_0, Value.int IntKind.i64 b_1]] w R).den = f95_vc a_0 a_1 b_0 b_1 w R := by kernel_rfl
theorem f95_calls (a_0 : Int) (a_1 : Int) (b_0 : Int) (b_1 : Int) (w : World) (R : Ending → World → Prop) (h : f95_vc a_0 a_1 b_0 b_1 w R) : Calls Go.Proofs.Tryz.prog 95 (List.toArray [Value.agg #[Value.int IntKind.i64 a_0, Value.int IntKind.i64 a_1], Value.agg #[Value.int IntKind.i64 b_0, Value.int IntKind.i64 b_1]]) w R :=
 fn_sound (H := h95) (fn := Go.Proofs.Tryz.f95) (by kernel_rfl) (by kernel_rfl) (by kernel_rfl) ((f95_eq a_0 a_1 b_0 b_1 w R).mpr h)

/-! manciple/mancipleref07.Right -/
def h85 : Hints := ⟨[2], [], [7, 12, 17, 21], [], [], [], [], [], []⟩
def f85_vc (f_0 : Int) (f_1 : Int) (w' : Int) (w : World) (R : Ending → World → Prop) : Prop :=
 ∀ (n1 : Nat),
 w.heap.size ≤ n1 →
 ∀ (w2 : World),
 Bel w w2 →
 Under [n1] w2 →
 Calls Proofs.Tryz.prog 92 #[Value.agg #[Value.int IntKind.i64 f_0, Value.int IntKind.i64 f_1]] w2 fun (e3 : Ending) (w4 : World) =>
 ∃ (b5 : Bool),
 e3 = Ending.returned (Value.bool b5) ∧
 Keeps [n1] w2 w4 ∧
 (b5 = true →
 (decide (f_0 ≤ 9007199254740992) = true →
 (decide (f_1 ≤ 9007199254740992) = true → (decide (w' ≥ 1) = true → R (Ending.returned (Value.bool (decide (w' ≤ 1000)))) w4) ∧ (decide (w' ≥ 1) = false → R (Ending.returned (Value.bool false)) w4)) ∧
 (decide (f_1 ≤ 9007199254740992) = false → R (Ending.returned (Value.bool false)) w4)) ∧
 (decide (f_0 ≤ 9007199254740992) = false → R (Ending.returned (Value.bool false)) w4)) ∧
 (b5 = false → R (Ending.returned (Value.bool false)) w4)
theorem f85_eq (f_0 : Int) (f_1 : Int) (w' : Int) (w : World) (R : Ending → World → Prop) : (fnF Go.Proofs.Tryz.prog h85 Go.Proofs.Tryz.f85 [Value.agg #[Value.int IntKind.i64 f_0, Value.int IntKind.i64 f_1], Value.int IntKind.i64 w'] w R).den = f85_vc f_0 f_1 w' w R := by kernel_rfl
theorem f85_calls (f_0 : Int) (f_1 : Int) (w' : Int) (w : World) (R : Ending → World → Prop) (h : f85_vc f_0 f_1 w' w R) : Calls Go.Proofs.Tryz.prog 85 (List.toArray [Value.agg #[Value.int IntKind.i64 f_0, Value.int IntKind.i64 f_1], Value.int IntKind.i64 w']) w R :=
 fn_sound (H := h85) (fn := Go.Proofs.Tryz.f85) (by kernel_rfl) (by kernel_rfl) (by kernel_rfl) ((f85_eq f_0 f_1 w' w R).mpr h)

/-! manciple/mancipleref07.side -/
def h86 : Hints := ⟨[], [], [], [], [], [], [], [], []⟩
def f86_vc (a : Int) (b : Int) (c : Int) (w : World) (R : Ending → World → Prop) : Prop :=
 Calls Proofs.Tryz.prog 94 #[Value.int IntKind.u64 0, Value.int IntKind.u64 (IntKind.u64.wrap a)] w fun (e1 : Ending) (w2 : World) =>
 ∃ (a3 : Option Addr),
 ∃ (n4 : Nat),
 ∃ (n5 : Nat),
 e1 = Ending.returned (Value.slice a3 n4 n5) ∧
 Calls Proofs.Tryz.prog 94 #[Value.int IntKind.u64 0, Value.int IntKind.u64 (IntKind.u64.wrap b)] w2 fun (e6 : Ending) (w7 : World) =>
 ∃ (a8 : Option Addr),
 ∃ (n9 : Nat),
 ∃ (n10 : Nat),
 e6 = Ending.returned (Value.slice a8 n9 n10) ∧
 Calls Proofs.Tryz.prog 93 #[Value.slice a3 n4 n5, Value.slice a8 n9 n10] w7 fun (e11 : Ending) (w12 : World) =>
 ∃ (a13 : Option Addr),
 ∃ (n14 : Nat),
 ∃ (n15 : Nat),
 e11 = Ending.returned (Value.slice a13 n14 n15) ∧
 Calls Proofs.Tryz.prog 94 #[Value.int IntKind.u64 0, Value.int IntKind.u64 (IntKind.u64.wrap c)] w12 fun (e16 : Ending) (w17 : World) =>
 ∃ (a18 : Option Addr),
 ∃ (n19 : Nat),
 ∃ (n20 : Nat),
 e16 = Ending.returned (Value.slice a18 n19 n20) ∧
 Calls Proofs.Tryz.prog 93 #[Value.slice a13 n14 n15, Value.slice a18 n19 n20] w17 fun (e21 : Ending) (w22 : World) =>
 ∃ (a23 : Option Addr), ∃ (n24 : Nat), ∃ (n25 : Nat), e21 = Ending.returned (Value.slice a23 n24 n25) ∧ R (Ending.returned (Value.slice a23 n24 n25)) w22
theorem f86_eq (a : Int) (b : Int) (c : Int) (w : World) (R : Ending → World → Prop) : (fnF Go.Proofs.Tryz.prog h86 Go.Proofs.Tryz.f86 [Value.int IntKind.i64 a, Value.int IntKind.i64 b, Value.int IntKind.i64 c] w R).den = f86_vc a b c w R := by kernel_rfl
theorem f86_calls (a : Int) (b : Int) (c : Int) (w : World) (R : Ending → World → Prop) (h : f86_vc a b c w R) : Calls Go.Proofs.Tryz.prog 86 (List.toArray [Value.int IntKind.i64 a, Value.int IntKind.i64 b, Value.int IntKind.i64 c]) w R :=
 fn_sound (H := h86) (fn := Go.Proofs.Tryz.f86) (by kernel_rfl) (by kernel_rfl) (by kernel_rfl) ((f86_eq a b c w R).mpr h)

/-! manciple/mancipleref01.Less -/
def h87 : Hints := ⟨[], [15, 19, 24, 28], [10, 21], [(4, [0, 1, 2, 3, 4, 5, 6, 7, 8]), (5, [0, 1, 2, 3, 4, 5, 6, 7, 8, 9])], [], [(2, ⟨[(5, .int .i64)], []⟩)], [], [], []⟩
def f87_vc (aa : Option Addr) (an : Nat) (ac : Nat) (ba : Option Addr) (bn : Nat) (bc : Nat) (w : World) (R : Ending → World → Prop) : Prop :=
 ∃ (J1 : Int × Unit → World → Prop),
 ∃ (J2 : Int × Unit → World → Nat),
 J1 (IntKind.i64.wrap ((↑an : Int) - 1), ()) w ∧
 ∀ (x3 : Int) (w4 : World),
 J1 (x3, ()) w4 →
 (decide (x3 ≥ 0) = true →
 ∃ (ad5 : Addr),
 Gives Proofs.Tryz.prog (Instr.indexAt 148 (Value.slice aa an ac) (Value.int IntKind.i64 x3)) (Value.pointer (some ad5)) ∧
 ∃ (x6 : Int),
 Reads Proofs.Tryz.prog [] (Instr.loadAt 3 (Value.pointer (some ad5))) w4 (Value.int IntKind.i64 x6) ∧
 ∃ (ad7 : Addr),
 Gives Proofs.Tryz.prog (Instr.indexAt 148 (Value.slice ba bn bc) (Value.int IntKind.i64 x3)) (Value.pointer (some ad7)) ∧
 ∃ (x8 : Int),
 Reads Proofs.Tryz.prog [] (Instr.loadAt 3 (Value.pointer (some ad7))) w4 (Value.int IntKind.i64 x8) ∧
 ((x6 != x8) = true →
 ∃ (ad9 : Addr),
 Gives Proofs.Tryz.prog (Instr.indexAt 148 (Value.slice aa an ac) (Value.int IntKind.i64 x3)) (Value.pointer (some ad9)) ∧
 ∃ (x10 : Int),
 Reads Proofs.Tryz.prog [] (Instr.loadAt 3 (Value.pointer (some ad9))) w4 (Value.int IntKind.i64 x10) ∧
 ∃ (ad11 : Addr),
 Gives Proofs.Tryz.prog (Instr.indexAt 148 (Value.slice ba bn bc) (Value.int IntKind.i64 x3)) (Value.pointer (some ad11)) ∧
 ∃ (x12 : Int),
 Reads Proofs.Tryz.prog [] (Instr.loadAt 3 (Value.pointer (some ad11))) w4 (Value.int IntKind.i64 x12) ∧
 ∀ (w13 : World), Bel w4 w13 → R (Ending.returned (Value.bool (decide (x10 < x12)))) w13) ∧
 ((x6 != x8) = false → ∀ (w14 : World), Bel w4 w14 → J1 (IntKind.i64.wrap (x3 - 1), ()) w14 ∧ J2 (IntKind.i64.wrap (x3 - 1), ()) w14 < J2 (x3, ()) w4)) ∧
 (decide (x3 ≥ 0) = false → R (Ending.returned (Value.bool false)) w4)
theorem f87_eq (aa : Option Addr) (an : Nat) (ac : Nat) (ba : Option Addr) (bn : Nat) (bc : Nat) (w : World) (R : Ending → World → Prop) : (fnF Go.Proofs.Tryz.prog h87 Go.Proofs.Tryz.f87 [Value.slice aa an ac, Value.slice ba bn bc] w R).den = f87_vc aa an ac ba bn bc w R := by kernel_rfl
theorem f87_calls (aa : Option Addr) (an : Nat) (ac : Nat) (ba : Option Addr) (bn : Nat) (bc : Nat) (w : World) (R : Ending → World → Prop) (h : f87_vc aa an ac ba bn bc w R) : Calls Go.Proofs.Tryz.prog 87 (List.toArray [Value.slice aa an ac, Value.slice ba bn bc]) w R :=
 fn_sound (H := h87) (fn := Go.Proofs.Tryz.f87) (by kernel_rfl) (by kernel_rfl) (by kernel_rfl) ((f87_eq aa an ac ba bn bc w R).mpr h)

/-! manciple/mancipleref02.Right -/
def h92 : Hints := ⟨[1], [], [6], [], [], [], [], [], []⟩
def f92_vc (f_0 : Int) (f_1 : Int) (w : World) (R : Ending → World → Prop) : Prop :=
 ∀ (n1 : Nat),
 w.heap.size ≤ n1 →
 (decide (f_0 ≥ 0) = true → ∀ (w2 : World), Bel w w2 → Under [n1] w2 → R (Ending.returned (Value.bool (decide (f_1 ≥ 1)))) w2) ∧
 (decide (f_0 ≥ 0) = false → ∀ (w3 : World), Bel w w3 → Under [n1] w3 → R (Ending.returned (Value.bool false)) w3)
theorem f92_eq (f_0 : Int) (f_1 : Int) (w : World) (R : Ending → World → Prop) : (fnF Go.Proofs.Tryz.prog h92 Go.Proofs.Tryz.f92 [Value.agg #[Value.int IntKind.i64 f_0, Value.int IntKind.i64 f_1]] w R).den = f92_vc f_0 f_1 w R := by kernel_rfl
theorem f92_calls (f_0 : Int) (f_1 : Int) (w : World) (R : Ending → World → Prop) (h : f92_vc f_0 f_1 w R) : Calls Go.Proofs.Tryz.prog 92 (List.toArray [Value.agg #[Value.int IntKind.i64 f_0, Value.int IntKind.i64 f_1]]) w R :=
 fn_sound (H := h92) (fn := Go.Proofs.Tryz.f92) (by kernel_rfl) (by kernel_rfl) (by kernel_rfl) ((f92_eq f_0 f_1 w R).mpr h)

/-! manciple/mancipleref01.Product -/
def h93 : Hints := ⟨[], [32, 36, 40, 52, 61], [19, 25], [(9, [0, 1, 2, 3, 4, 5, 6, 7, 8, 9, 10, 11, 12, 13, 14, 15, 16, 17, 18])], [], [(3, ⟨[(6, .int .i64)], []⟩), (7, ⟨[(7, .int .i64), (8, .int .i64)], []⟩)], [], [], []⟩
def f93_vc (aa : Option Addr) (an : Nat) (ac : Nat) (ba : Option Addr) (bn : Nat) (bc : Nat) (w : World) (R : Ending → World → Prop) : Prop :=
 OpW Proofs.Tryz.prog (valueS (Instr.makeSlice 148 (Value.int IntKind.i64 (IntKind.i64.wrap ((↑an : Int) + (↑bn : Int)))) (Value.int IntKind.i64 (IntKind.i64.wrap ((↑an : Int) + (↑bn : Int)))))) w fun (v1 : Value) (w2 : World) =>
 ∃ (a3 : Option Addr),
 ∃ (n4 : Nat),
 ∃ (n5 : Nat),
 v1 = Value.slice a3 n4 n5 ∧
 ∃ (J6 : Int × Unit → World → Prop),
 ∃ (J7 : Int × Unit → World → Nat),
 J6 (0, ()) w2 ∧
 ∀ (x8 : Int) (w9 : World),
 J6 (x8, ()) w9 →
 (decide (x8 < (↑an : Int)) = true →
 ∃ (J10 : Int × Int × Unit → World → Prop),
 ∃ (J11 : Int × Int × Unit → World → Nat),
 J10 (0, 0, ()) w9 ∧
 ∀ (x12 x13 : Int) (w14 : World),
 J10 (x12, x13, ()) w14 →
 (decide (x13 < (↑bn : Int)) = true →
 ∃ (ad15 : Addr),
 Gives Proofs.Tryz.prog (Instr.indexAt 148 (Value.slice a3 n4 n5) (Value.int IntKind.i64 (IntKind.i64.wrap (x8 + x13)))) (Value.pointer (some ad15)) ∧
 ∃ (x16 : Int),
 Reads Proofs.Tryz.prog [] (Instr.loadAt 3 (Value.pointer (some ad15))) w14 (Value.int IntKind.i64 x16) ∧
 ∃ (ad17 : Addr),
 Gives Proofs.Tryz.prog (Instr.indexAt 148 (Value.slice aa an ac) (Value.int IntKind.i64 x8)) (Value.pointer (some ad17)) ∧
 ∃ (x18 : Int),
 Reads Proofs.Tryz.prog [] (Instr.loadAt 3 (Value.pointer (some ad17))) w14 (Value.int IntKind.i64 x18) ∧
 ∃ (ad19 : Addr),
 Gives Proofs.Tryz.prog (Instr.indexAt 148 (Value.slice ba bn bc) (Value.int IntKind.i64 x13)) (Value.pointer (some ad19)) ∧
 ∃ (x20 : Int),
 Reads Proofs.Tryz.prog [] (Instr.loadAt 3 (Value.pointer (some ad19))) w14 (Value.int IntKind.i64 x20) ∧
 ∃ (ad21 : Addr),
 Gives Proofs.Tryz.prog (Instr.indexAt 148 (Value.slice a3 n4 n5) (Value.int IntKind.i64 (IntKind.i64.wrap (x8 + x13)))) (Value.pointer (some ad21)) ∧
 ∀ (w22 : World),
 Bel w14 w22 →
 OpW Proofs.Tryz.prog
 (skipS
 (Instr.storeAt 3 (Value.pointer (some ad21)) (Value.int IntKind.i64 ((IntKind.i64.wrap (IntKind.i64.wrap (x16 + IntKind.i64.wrap (x18 * x20)) + x12)).tmod 65536))))
 w22 fun (v23 : Value) (w24 : World) =>
 J10 (IntKind.i64.wrap ((IntKind.i64.wrap (IntKind.i64.wrap (x16 + IntKind.i64.wrap (x18 * x20)) + x12)).tdiv 65536), IntKind.i64.wrap (x13 + 1), ()) w24 ∧
 J11 (IntKind.i64.wrap ((IntKind.i64.wrap (IntKind.i64.wrap (x16 + IntKind.i64.wrap (x18 * x20)) + x12)).tdiv 65536), IntKind.i64.wrap (x13 + 1), ()) w24 <
 J11 (x12, x13, ()) w14) ∧
 (decide (x13 < (↑bn : Int)) = false →
 ∃ (ad25 : Addr),
 Gives Proofs.Tryz.prog (Instr.indexAt 148 (Value.slice a3 n4 n5) (Value.int IntKind.i64 (IntKind.i64.wrap (x8 + (↑bn : Int))))) (Value.pointer (some ad25)) ∧
 OpW Proofs.Tryz.prog (skipS (Instr.storeAt 3 (Value.pointer (some ad25)) (Value.int IntKind.i64 x12))) w14 fun (v26 : Value) (w27 : World) =>
 J6 (IntKind.i64.wrap (x8 + 1), ()) w27 ∧ J7 (IntKind.i64.wrap (x8 + 1), ()) w27 < J7 (x8, ()) w9)) ∧
 (decide (x8 < (↑an : Int)) = false → R (Ending.returned (Value.slice a3 n4 n5)) w9)
theorem f93_eq (aa : Option Addr) (an : Nat) (ac : Nat) (ba : Option Addr) (bn : Nat) (bc : Nat) (w : World) (R : Ending → World → Prop) : (fnF Go.Proofs.Tryz.prog h93 Go.Proofs.Tryz.f93 [Value.slice aa an ac, Value.slice ba bn bc] w R).den = f93_vc aa an ac ba bn bc w R := by kernel_rfl
theorem f93_calls (aa : Option Addr) (an : Nat) (ac : Nat) (ba : Option Addr) (bn : Nat) (bc : Nat) (w : World) (R : Ending → World → Prop) (h : f93_vc aa an ac ba bn bc w R) : Calls Go.Proofs.Tryz.prog 93 (List.toArray [Value.slice aa an ac, Value.slice ba bn bc]) w R :=
 fn_sound (H := h93) (fn := Go.Proofs.Tryz.f93) (by kernel_rfl) (by kernel_rfl) (by kernel_rfl) ((f93_eq aa an ac ba bn bc w R).mpr h)

/-! manciple/mancipleref01.Digits -/
def h94 : Hints := ⟨[], [], [9, 21], [], [], [(3, ⟨[(1, .int .u64), (5, .sl), (6, .int .i64)], []⟩), (8, ⟨[(0, .int .u64), (5, .sl), (7, .int .i64)], []⟩)], [], [], []⟩
def f94_vc (hi : Int) (lo : Int) (w : World) (R : Ending → World → Prop) : Prop :=
 ∃ (J1 : Int × (Option Addr × Nat × Nat) × Int × Unit → World → Prop),
 ∃ (J2 : Int × (Option Addr × Nat × Nat) × Int × Unit → World → Nat),
 J1 (lo, (none, 0, 0), 0, ()) w ∧
 ∀ (x3 : Int) (a4 : Option Addr) (n5 n6 : Nat) (x7 : Int) (w8 : World),
 J1 (x3, (a4, n5, n6), x7, ()) w8 →
 (decide (x7 < 4) = true →
 OpW Proofs.Tryz.prog (valueS (Instr.buildSlice 148 1 #[(0, Value.int IntKind.i64 (IntKind.i64.wrap (x3.tmod 65536)))])) w8 fun (v9 : Value) (w10 : World) =>
 ∃ (a11 : Option Addr),
 ∃ (n12 : Nat),
 ∃ (n13 : Nat),
 v9 = Value.slice a11 n12 n13 ∧
 OpW Proofs.Tryz.prog (builtin Builtin.append #[148, 148] 148 #[false, false] #[Value.slice a4 n5 n6, Value.slice a11 n12 n13]) w10 fun (v14 : Value) (w15 : World) =>
 ∃ (a16 : Option Addr),
 ∃ (n17 : Nat),
 ∃ (n18 : Nat),
 v14 = Value.slice a16 n17 n18 ∧
 J1 (IntKind.u64.wrap (x3.tdiv 65536), (a16, n17, n18), IntKind.i64.wrap (x7 + 1), ()) w15 ∧
 J2 (IntKind.u64.wrap (x3.tdiv 65536), (a16, n17, n18), IntKind.i64.wrap (x7 + 1), ()) w15 < J2 (x3, (a4, n5, n6), x7, ()) w8) ∧
 (decide (x7 < 4) = false →
 ∃ (J19 : Int × (Option Addr × Nat × Nat) × Int × Unit → World → Prop),
 ∃ (J20 : Int × (Option Addr × Nat × Nat) × Int × Unit → World → Nat),
 J19 (hi, (a4, n5, n6), 0, ()) w8 ∧
 ∀ (x21 : Int) (a22 : Option Addr) (n23 n24 : Nat) (x25 : Int) (w26 : World),
 J19 (x21, (a22, n23, n24), x25, ()) w26 →
 (decide (x25 < 4) = true →
 OpW Proofs.Tryz.prog (valueS (Instr.buildSlice 148 1 #[(0, Value.int IntKind.i64 (IntKind.i64.wrap (x21.tmod 65536)))])) w26 fun (v27 : Value) (w28 : World) =>
 ∃ (a29 : Option Addr),
 ∃ (n30 : Nat),
 ∃ (n31 : Nat),
 v27 = Value.slice a29 n30 n31 ∧
 OpW Proofs.Tryz.prog (builtin Builtin.append #[148, 148] 148 #[false, false] #[Value.slice a22 n23 n24, Value.slice a29 n30 n31]) w28 fun (v32 : Value) (w33 : World) =>
 ∃ (a34 : Option Addr),
 ∃ (n35 : Nat),
 ∃ (n36 : Nat),
 v32 = Value.slice a34 n35 n36 ∧
 J19 (IntKind.u64.wrap (x21.tdiv 65536), (a34, n35, n36), IntKind.i64.wrap (x25 + 1), ()) w33 ∧
 J20 (IntKind.u64.wrap (x21.tdiv 65536), (a34, n35, n36), IntKind.i64.wrap (x25 + 1), ()) w33 < J20 (x21, (a22, n23, n24), x25, ()) w26) ∧
 (decide (x25 < 4) = false → R (Ending.returned (Value.slice a22 n23 n24)) w26))
theorem f94_eq (hi : Int) (lo : Int) (w : World) (R : Ending → World → Prop) : (fnF Go.Proofs.Tryz.prog h94 Go.Proofs.Tryz.f94 [Value.int IntKind.u64 hi, Value.int IntKind.u64 lo] w R).den = f94_vc hi lo w R := by kernel_rfl
theorem f94_calls (hi : Int) (lo : Int) (w : World) (R : Ending → World → Prop) (h : f94_vc hi lo w R) : Calls Go.Proofs.Tryz.prog 94 (List.toArray [Value.int IntKind.u64 hi, Value.int IntKind.u64 lo]) w R :=
 fn_sound (H := h94) (fn := Go.Proofs.Tryz.f94) (by kernel_rfl) (by kernel_rfl) (by kernel_rfl) ((f94_eq hi lo w R).mpr h)

end Vcz

/- Own text of this claim: ZSr3. -/
set_option maxRecDepth 20000
set_option linter.unusedVariables false
namespace Go.Vc.SZ
open Go Go.Vc Go.RowKit Go.Proofs Vcz

abbrev one (x : Int) : List Value := [.int .i64 x]
def dg : Nat → Int → List Int
  | 0, _ => []
  | k + 1, x => (x % 65536) :: dg k (x / 65536)

theorem dg_len : ∀ (k : Nat) (x : Int), (dg k x).length = k
  | 0, _ => rfl
  | k + 1, x => by simp [dg, dg_len k]

theorem c94 (hi lo : Int) (hh : 0 ≤ hi ∧ hi < 18446744073709551616) (hl : 0 ≤ lo ∧ lo < 18446744073709551616) (w : World) : RetL Tryz.prog 94 #[.int .u64 hi, .int .u64 lo] w 3 1 one (dg 4 lo ++ dg 4 hi) := by
  intro R h
  refine f94_calls hi lo w R ?_
  unfold f94_vc
  have hA := At.refl w
  refine ⟨fun s W => At w [] W ∧ ∃ k : Nat, s.2.2.1 = k ∧ k ≤ 4 ∧ (0 ≤ s.1 ∧ s.1 < 18446744073709551616) ∧ ∃ l : List Int, OwnL w [] W 3 1 one (.slice s.2.1.1 s.2.1.2.1 s.2.1.2.2) l ∧ l.length = k ∧ l ++ dg (4 - k) s.1 = dg 4 lo, fun s _ => 4 - s.2.2.1.toNat, ⟨hA, 0, rfl, by omega, hl, [], OwnL.nil, rfl, rfl⟩, ?_⟩
  intro x a n c i W ⟨hA, k, hik, hk, hx, l, ho, hll, hd⟩
  simp only at hik hk hx ho hd
  subst hik
  refine brD (fun hlt => ?_) (fun hge => ?_)
  · refine opw_lit hA (e' := 3) (cs := one (IntKind.i64.wrap (x.tmod 65536))) (by kernel_rfl) fun w' hA hk hb hc _ => ⟨_, _, _, rfl, ?_⟩
    have e1 : IntKind.i64.wrap (x.tmod 65536) = x % 65536 := by
      rw [Int.tmod_eq_emod_of_nonneg hx.1]
      exact wrap_i64 (by omega) (by omega)
    have e2 : IntKind.u64.wrap (x.tdiv 65536) = x / 65536 := by
      rw [Int.tdiv_eq_ediv_of_nonneg hx.1]
      exact wrap_u64_id (by omega) (by omega)
    have e3 : IntKind.i64.wrap ((k : Int) + 1) = ((k + 1 : Nat) : Int) := by rw [wrap_i64 (by omega) (by omega)]; rfl
    rw [e1] at hc
    rw [e2, e3]
    refine opw_append1 (bytes := 8) (by kernel_rfl) hA (ho.call hb) (x := x % 65536) rfl hc (by simp [Value.oneCell']) (by omega) (.inr (by omega)) fun v' w' hA hk hg ho' _ => ?_
    obtain ⟨a', c', rfl, _⟩ := ho'.slice (by simp)
    refine ⟨_, _, _, rfl, ⟨hA, k + 1, rfl, by omega, by omega, _, ho', by simp [hll], ?_⟩, ?_⟩
    · rw [← hd, show 4 - k = (4 - (k + 1)) + 1 by omega]
      simp [dg]
    · simp only
      omega
  · have hk4 : k = 4 := by omega
    subst hk4
    have hl4 : l = dg 4 lo := by simpa [dg] using hd
    subst hl4
    refine ⟨fun s W => At w [] W ∧ ∃ k : Nat, s.2.2.1 = k ∧ k ≤ 4 ∧ (0 ≤ s.1 ∧ s.1 < 18446744073709551616) ∧ ∃ l : List Int, OwnL w [] W 3 1 one (.slice s.2.1.1 s.2.1.2.1 s.2.1.2.2) l ∧ l.length = 4 + k ∧ l ++ dg (4 - k) s.1 = dg 4 lo ++ dg 4 hi, fun s _ => 4 - s.2.2.1.toNat, ⟨hA, 0, rfl, by omega, hh, _, ho, dg_len _ _, rfl⟩, ?_⟩
    clear ho hx hd
    intro x a n c i W ⟨hA, k, hik, hk, hx, l, ho, hll, hd⟩
    simp only at hik hk hx ho hd
    subst hik
    refine brD (fun hlt => ?_) (fun hge => ?_)
    · refine opw_lit hA (e' := 3) (cs := one (IntKind.i64.wrap (x.tmod 65536))) (by kernel_rfl) fun w' hA hk hb hc _ => ⟨_, _, _, rfl, ?_⟩
      have e1 : IntKind.i64.wrap (x.tmod 65536) = x % 65536 := by
        rw [Int.tmod_eq_emod_of_nonneg hx.1]
        exact wrap_i64 (by omega) (by omega)
      have e2 : IntKind.u64.wrap (x.tdiv 65536) = x / 65536 := by
        rw [Int.tdiv_eq_ediv_of_nonneg hx.1]
        exact wrap_u64_id (by omega) (by omega)
      have e3 : IntKind.i64.wrap ((k : Int) + 1) = ((k + 1 : Nat) : Int) := by rw [wrap_i64 (by omega) (by omega)]; rfl
      rw [e1] at hc
      rw [e2, e3]
      refine opw_append1 (bytes := 8) (by kernel_rfl) hA (ho.call hb) (x := x % 65536) rfl hc (by simp [Value.oneCell']) (by omega) (.inr (by omega)) fun v' w' hA hk hg ho' _ => ?_
      obtain ⟨a', c', rfl, _⟩ := ho'.slice (by simp)
      refine ⟨_, _, _, rfl, ⟨hA, k + 1, rfl, by omega, by omega, _, ho', by simp [hll]; omega, ?_⟩, ?_⟩
      · rw [← hd, show 4 - k = (4 - (k + 1)) + 1 by omega]
        simp [dg]
      · simp only
        omega
    · have hk4 : k = 4 := by omega
      subst hk4
      exact leafl h hA ho (by simpa [dg] using hd)
end Go.Vc.SZ

