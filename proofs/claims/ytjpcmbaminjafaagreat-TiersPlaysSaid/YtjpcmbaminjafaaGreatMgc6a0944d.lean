/- Own texts of this claim, laid together: ZSo5, ZFS9, ZSo6, ZSo7, ZSo8, ZSo9, ZSoArg, ZTp1, ZTp2, ZFU1, ZFU2, ZTp3, ZTp4, ZTp5, ZTp6. -/
import Derived.Test.YtjpcmbaminjafaaGreatMgbe935ef9
import Derived.Test.YtjpcmbaminjafaaGreatProg

/- What is done to one client. -/
set_option maxRecDepth 20000
set_option linter.unusedVariables false
set_option maxHeartbeats 1000000
namespace Go.Vc.SZ
open Go Go.Vc Go.RowKit Go.Proofs Go.Vc.T Vcz

variable {w W W' W1 : World} {M N : Nat → Prop} {gs ds : List Nat} {g r gt p : Nat} {T n : Ar4} {m m0 m1 : List (Int × Cl)} {id : Int} {c : Cl} {B B' : Nat → Prop}

abbrev ad4 (a b : Ar4) : Ar4 := (a.1 + b.1, a.2.1 + b.2.1, a.2.2.1 + b.2.2.1, a.2.2.2 + b.2.2.2)
abbrev sb4 (a b : Ar4) : Ar4 := (a.1 - b.1, a.2.1 - b.2.1, a.2.2.1 - b.2.2.1, a.2.2.2 - b.2.2.2)
abbrev sR4 (a : Ar4) : Prop := sumR a.1 a.2.1 a.2.2.1 a.2.2.2
abbrev sH4 (a b : Ar4) : Prop := sumH a.1 a.2.1 a.2.2.1 a.2.2.2 b.1 b.2.1 b.2.2.1 b.2.2.2
def addD (a b : Ar4) : Option Ar4 := if sR4 a ∧ sR4 b ∧ sR4 (ad4 a b) then some (ad4 a b) else none
def subD (a b : Ar4) : Option Ar4 := if sH4 a b then some (sb4 a b) else none
def giveF (n : Ar4) (c : Cl) : Cl × Int := match addD c.s n with
  | none => (c, 41)
  | some s => if sm4 s then (⟨c.w, s, c.aw⟩, 0) else (c, 41)
def takeF (n : Ar4) (c : Cl) : Cl × Int := match subD c.s n with
  | none => (c, 30)
  | some s => (⟨c.w, s, c.aw⟩, 0)
def weighF (x : Int) (c : Cl) : Cl × Int := if heavy x then (c, 41) else (⟨x, c.s, c.aw⟩, 0)
def wakeF (on : Bool) (c : Cl) : Cl × Int := (⟨c.w, c.s, on⟩, 0)
theorem give_ok (hc : okC c) (hz : (giveF n c).2 = 0) : okC (giveF n c).1 := by
  unfold giveF at *
  cases h : addD c.s n with
  | none => simp only [h] at hz; cases hz
  | some s =>
    simp only at hz ⊢
    split
    · rename_i hs; exact ⟨hs, hc.2⟩
    · exact hc
theorem take_ok (hc : okC c) (hz : (takeF n c).2 = 0) : okC (takeF n c).1 := by
  unfold takeF at *
  cases h : subD c.s n with
  | none => simp only [h] at hz; cases hz
  | some s =>
    simp only
    unfold subD at h
    split at h
    · rename_i hs
      cases h
      obtain ⟨⟨p0, p1, p2, p3⟩, hw⟩ := hc
      obtain ⟨⟨a0, a1, a2, a3⟩, _, b0, b1, b2, b3⟩ := hs
      exact ⟨⟨by simp only; omega, by simp only; omega, by simp only; omega, by simp only; omega⟩, hw⟩
    · cases h
theorem weigh_ok {x : Int} (hc : okC c) : okC (weighF x c).1 := by
  unfold weighF heavy
  split
  · exact hc
  · rename_i h
    have : ¬ (x < 1 ∨ x > 1000) := by simpa using h
    exact ⟨hc.1, by simp only; omega, by simp only; omega⟩
theorem wake_ok {on : Bool} (hc : okC c) : okC (wakeF on c).1 := hc

theorem c61 {a d : Int} (hb : W.heap[p]? = some (.cells ([.int .i64 n.1, .int .i64 n.2.1, .int .i64 n.2.2.1, .int .i64 n.2.2.2] : List Value).toArray 43 (0, 0))) (c : Cl) : Ret Tryz.prog 61 #[cl8 a d c.w c.s c.aw, .pointer (pt p)] W (.tuple #[cl8 a d (giveF n c).1.w (giveF n c).1.s (giveF n c).1.aw, .int .i64 (giveF n c).2]) := by
  intro R h
  refine f61_calls _ _ _ _ _ _ _ _ _ W R ?_
  unfold f61_vc
  have hA := At.refl W
  refine go_n hA fun n1 h1 => go_n hA fun n2 h2 => ⟨_, _, _, _, (elt_cells hb).agg 4 (by kernel_rfl) (by kernel_rfl) (by simp) no_ds, go_below hA fun w7 hA => ?_⟩
  refine at_call hA (c62 _ _ _ _ _ _ _ _ _) fun w9 hA hk => ?_
  unfold giveF addD at h
  unfold sumA
  by_cases hs : sR4 c.s ∧ sR4 n ∧ sR4 (ad4 c.s n)
  · simp only [if_pos hs] at h ⊢
    refine ⟨_, _, _, _, _, rfl, hk, go_n hA fun n15 h15 => brB (fun e => by cases e) fun _ => go_evo hA (by simp; omega) fun w17 hA => ?_⟩
    refine at_call hA (c52 (ad4 c.s n) _) fun w19 hA hk => ⟨_, rfl, hk, brND (fun hn => ?_) fun hp => ?_⟩
    · rw [if_neg hn] at h
      exact go_evo hA (by simp; omega) fun w21 hA => leaf h hA rfl
    · rw [if_pos hp] at h
      exact go_evo hA (by simp; omega) fun w21 hA => leaf h hA rfl
  · simp only [if_neg hs] at h ⊢
    exact ⟨_, _, _, _, _, rfl, hk, go_n hA fun n15 h15 => brB (fun _ => go_evo hA (by simp; omega) fun w16 hA => leaf h hA rfl) fun e => by cases e⟩
theorem c58 {a d : Int} (hb : W.heap[p]? = some (.cells ([.int .i64 n.1, .int .i64 n.2.1, .int .i64 n.2.2.1, .int .i64 n.2.2.2] : List Value).toArray 43 (0, 0))) (c : Cl) : Ret Tryz.prog 58 #[cl8 a d c.w c.s c.aw, .pointer (pt p)] W (.tuple #[cl8 a d (takeF n c).1.w (takeF n c).1.s (takeF n c).1.aw, .int .i64 (takeF n c).2]) := by
  intro R h
  refine f58_calls _ _ _ _ _ _ _ _ _ W R ?_
  unfold f58_vc
  have hA := At.refl W
  refine go_n hA fun n1 h1 => go_n hA fun n2 h2 => ⟨_, _, _, _, (elt_cells hb).agg 4 (by kernel_rfl) (by kernel_rfl) (by simp) no_ds, go_below hA fun w7 hA => ?_⟩
  refine at_call hA (c59 _ _ _ _ _ _ _ _ _) fun w9 hA hk => ?_
  unfold takeF subD at h
  unfold sumS
  by_cases hs : sH4 c.s n
  · simp only [if_pos hs] at h ⊢
    exact ⟨_, _, _, _, _, rfl, hk, go_n hA fun n15 h15 => brB (fun e => by cases e) fun _ => go_evo hA (by simp; omega) fun w17 hA => leaf h hA rfl⟩
  · simp only [if_neg hs] at h ⊢
    exact ⟨_, _, _, _, _, rfl, hk, go_n hA fun n15 h15 => brB (fun _ => go_evo hA (by simp; omega) fun w16 hA => leaf h hA rfl) fun e => by cases e⟩
theorem c60 {on : Bool} {a d : Int} (hb : W.heap[p]? = some (.cells ([.bool on] : List Value).toArray 4 (0, 0))) (c : Cl) : Ret Tryz.prog 60 #[cl8 a d c.w c.s c.aw, .pointer (pt p)] W (.tuple #[cl8 a d (wakeF on c).1.w (wakeF on c).1.s (wakeF on c).1.aw, .int .i64 (wakeF on c).2]) := by
  intro R h
  refine f60_calls _ _ _ _ _ _ _ _ _ W R ?_
  unfold f60_vc
  have hA := At.refl W
  exact go_n hA fun n1 h1 => go_n hA fun n2 h2 => ⟨_, rd_f0 hb (by kernel_rfl) nod, go_evo hA (by simp; omega) fun w16 hA => leaf h hA rfl⟩

/-- What a method leaves of a sorter. -/
abbrev TnQ (W : World) (B : Nat → Prop) (g : Nat) (T : Ar4) (q : List (Int × Cl) × Int) (v : Value) (W' : World) : Prop := v = .int .i64 q.2 ∧ SoX W' (fun b => B b ∨ W.heap.size ≤ b) g T q.1
theorem TnQ.up {q : List (Int × Cl) × Int} {v : Value} (h : TnQ W1 B g T q v W') (hs : W.heap.size ≤ W1.heap.size) : TnQ W B g T q v W' := ⟨h.1, h.2.mono fun _ _ hb => hb.imp (fun e => e) fun e => Nat.le_trans hs e⟩
theorem c43 (h : SoX W B g T m) (hl : m.length < 100000) (id : Int) (n : Ar4) : RetF Tryz.prog 43 #[.pointer (pt g), .int .i64 id, arT n] W B (TnQ W B g T (turnD m id (giveF n))) := by
  intro R hR
  refine f43_calls _ _ _ _ _ _ W R ?_
  unfold f43_vc
  have hA : AtF W B [] W := AtF.refl W _
  refine opw_boxS hA fun p w2 hp hA _ hb hblk => ⟨_, rfl, ?_⟩
  refine at_callF hA (c57 (how := fnV 61 #[.pointer (pt p)]) (giveF n) (h.call hb) hl (fun c hc hz => give_ok hc hz) fun W' hb' c hm => ⟨_, _, RetI.of (by kernel_rfl) (c61 ((hb'.block (Array.getElem?_eq_some_iff.1 hblk).1).trans hblk) c)⟩) (fun q _ hq => .inr hq) (by simp) fun v w5 hA2 _ hch hq => ?_
  have hq := TnQ.up (W := W) hq hb.size
  obtain ⟨hv, hX⟩ := hq
  subst hv
  exact ⟨_, rfl, leafF hR hA2 ⟨rfl, hX⟩⟩
theorem c39 (h : SoX W B g T m) (hl : m.length < 100000) (id : Int) (n : Ar4) : RetF Tryz.prog 39 #[.pointer (pt g), .int .i64 id, arT n] W B (TnQ W B g T (turnD m id (takeF n))) := by
  intro R hR
  refine f39_calls _ _ _ _ _ _ W R ?_
  unfold f39_vc
  have hA : AtF W B [] W := AtF.refl W _
  refine opw_boxS hA fun p w2 hp hA _ hb hblk => ⟨_, rfl, ?_⟩
  refine at_callF hA (c57 (how := fnV 58 #[.pointer (pt p)]) (takeF n) (h.call hb) hl (fun c hc hz => take_ok hc hz) fun W' hb' c hm => ⟨_, _, RetI.of (by kernel_rfl) (c58 ((hb'.block (Array.getElem?_eq_some_iff.1 hblk).1).trans hblk) c)⟩) (fun q _ hq => .inr hq) (by simp) fun v w5 hA2 _ hch hq => ?_
  have hq := TnQ.up (W := W) hq hb.size
  obtain ⟨hv, hX⟩ := hq
  subst hv
  exact ⟨_, rfl, leafF hR hA2 ⟨rfl, hX⟩⟩
theorem c42 (h : SoX W B g T m) (hl : m.length < 100000) (id : Int) (on : Bool) : RetF Tryz.prog 42 #[.pointer (pt g), .int .i64 id, .bool on] W B (TnQ W B g T (turnD m id (wakeF on))) := by
  intro R hR
  refine f42_calls _ _ _ W R ?_
  unfold f42_vc
  have hA : AtF W B [] W := AtF.refl W _
  refine opw_boxS hA fun p w2 hp hA _ hb hblk => ⟨_, rfl, ?_⟩
  refine at_callF hA (c57 (how := fnV 60 #[.pointer (pt p)]) (wakeF on) (h.call hb) hl (fun c hc _ => wake_ok hc) fun W' hb' c hm => ⟨_, _, RetI.of (by kernel_rfl) (c60 ((hb'.block (Array.getElem?_eq_some_iff.1 hblk).1).trans hblk) c)⟩) (fun q _ hq => .inr hq) (by simp) fun v w5 hA2 _ hch hq => ?_
  have hq := TnQ.up (W := W) hq hb.size
  obtain ⟨hv, hX⟩ := hq
  subst hv
  exact ⟨_, rfl, leafF hR hA2 ⟨rfl, hX⟩⟩
/-- One is dropped. -/
def dropD (m : List (Int × Cl)) (id : Int) : List (Int × Cl) × Int := match mget id m with
  | none => (m, 43)
  | some _ => (mdel id m, 0)
theorem c40 (h : SoX W B g T m) (hl : m.length < 100000) (id : Int) : RetF Tryz.prog 40 #[.pointer (pt g), .int .i64 id] W B (TnQ W B g T (dropD m id)) := by
  intro R hR
  refine f40_calls _ _ W R ?_
  unfold f40_vc
  have hA : AtF W B [] W := AtF.refl W _
  refine at_callF hA (c42 h hl id false) (fun q _ hq => .inr hq) (by simp) fun v w2 hA _ hch ⟨hv, hX⟩ => ?_
  subst hv
  unfold turnD dropD at *
  cases hx : mget id m with
  | none =>
    simp only [hx] at hX hR ⊢
    exact ⟨_, rfl, brE (fun e => by cases e) fun _ => leafF hR hA ⟨rfl, hX⟩⟩
  | some c =>
    simp only [hx, wakeF, if_pos] at hX hR ⊢
    refine ⟨_, rfl, brE (fun _ => ?_) fun e => absurd rfl e⟩
    obtain ⟨m0, r, gt, t, bs, k1, k2, k3, k4, k5⟩ := hX.ex
    have hne := k3.ne
    have hg0 := same_good hX.good k1 k2
    have hsz := hA.size
    refine ⟨_, rfl, _, k3.rdR nod, opw_delete (kf := idV) (vf := clV T) (k := id) keyOk_id (t := 77) (et := 115) (by kernel_rfl) hA (k3.mp.base1 (w' := W) (M' := B) ((k5 r (.inr (.inl rfl))).symm) (by simp)) fun w7 hA _ hch7 hM => ⟨rfl, leafF hR hA ⟨rfl, ?_⟩⟩⟩
    have hsl : ∀ cc0, (id, cc0) ∈ m0 → cc0.aw = false := fun cc0 hm => by
      have := mget_of_mem hX.good.nd ((k1 _).1 hm)
      rw [mget_mset_self] at this
      cases this
      rfl
    refine ⟨?_, mdel id m0, r, gt, t, bs, fun x => ?_, mdel_nodup k2, ⟨(hch7.block g k3.glt hne.1).trans k3.tb, hM.base1 (.inr rfl) (by simp), k3.tr.chg hch7 (fun e => hne.2.2.1 e.symm) fun q hq e => hne.2.2.2.2 (e ▸ hq)⟩, k4.del hg0 hsl, k5⟩
    · exact h.good.mdel
    · rw [mem_mdel k2, k1, mem_mset h.good.nd, mem_mdel h.good.nd]
      constructor
      · rintro ⟨e | ⟨e, _⟩, hne⟩
        · exact absurd (by rw [e]) hne
        · exact ⟨e, hne⟩
      · rintro ⟨e, hne⟩
        exact ⟨.inr ⟨e, hne⟩, hne⟩
/-- One is put in. -/
def putD (m : List (Int × Cl)) (id x : Int) : List (Int × Cl) × Int := if heavy x then (m, 41) else match mget id m with
  | some _ => (m, 42)
  | none => (mset id ⟨x, (0, 0, 0, 0), true⟩ m, 0)
theorem c36 (h : SoX W B g T m) (hl : m.length < 100000) (id x : Int) : RetF Tryz.prog 36 #[.pointer (pt g), .int .i64 id, .int .i64 x] W B (TnQ W B g T (putD m id x)) := by
  intro R hR
  refine f36_calls _ _ _ W R ?_
  unfold f36_vc
  have hA : AtF W B [] W := AtF.refl W _
  have h : SoX W (fun b => B b ∧ b < W.heap.size) g T m := h.mono fun _ hl hb => ⟨hb, hl⟩
  have up : ∀ {W2 : World} {m' : List (Int × Cl)}, SoX W2 (fun b => B b ∧ b < W.heap.size) g T m' → SoX W2 (fun b => B b ∨ W.heap.size ≤ b) g T m' := fun h => h.mono fun _ _ hb => .inl hb.1
  unfold putD at hR
  have tail : ∀ (W1 : World) (b11 : Bool) (n12 : Nat), W.heap.size ≤ n12 → AtF W B [n12] W1 → SoX W1 (fun b => B b ∧ b < W.heap.size) g T m → (b11 = (mget id m).isSome) → Calls Tryz.prog 51 #[.pointer (pt g)] W1 fun e14 w15 => ∃ b16, e14 = Ending.returned (.bool b16) ∧ Keeps [n12] W1 w15 ∧ ((!b16) = true → R (.returned (.int .i64 40)) w15) ∧ ((!b16) = false → Calls Tryz.prog 56 #[.int .i64 x] w15 fun e17 w18 => ∃ b19, e17 = Ending.returned (.bool b19) ∧ Keeps [n12] w15 w18 ∧ (b19 = true → R (.returned (.int .i64 41)) w18) ∧ (b19 = false → (b11 = true → R (.returned (.int .i64 42)) w18) ∧ (b11 = false → Calls Tryz.prog 54 #[.pointer (pt g), .int .i64 id, cl8 0 0 x (0, 0, 0, 0) true] w18 fun e20 w21 => e20 = Ending.returned (.tuple #[]) ∧ Keeps [n12] w18 w21 ∧ R (.returned (.int .i64 0)) w21))) := by
    intro W1 b11 n12 hn12 hA h hb11
    refine at_callb hA (c51 h) fun w15 hA hk hb => ⟨_, rfl, hk, brB (fun e => by cases e) fun _ => ?_⟩
    refine at_callb hA (c56 x _) fun w18 hA hk hb2 => ⟨_, rfl, hk, brB (fun e => ?_) fun e => ?_⟩
    · rw [if_pos e] at hR
      exact leafF hR hA ⟨rfl, up ((h.call hb).call hb2)⟩
    · rw [if_neg (by rw [e]; simp)] at hR
      have h := (h.call hb).call hb2
      refine brB (fun e1 => ?_) fun e1 => ?_
      · obtain ⟨c, hc⟩ := Option.isSome_iff_exists.1 (hb11.symm.trans e1)
        simp only [hc] at hR
        exact leafF hR hA ⟨rfl, up h⟩
      · have hn : mget id m = none := by
          cases hx : mget id m with
          | none => rfl
          | some c => rw [hb11, hx] at e1; cases e1
        simp only [hn] at hR
        have hx : ¬ (x < 1 ∨ x > 1000) := by simpa [heavy] using e
        have h4 : sm4 (0, 0, 0, 0) := by decide
        refine at_callF hA (c54x (c := ⟨x, (0, 0, 0, 0), true⟩) 0 0 h ⟨h4, by simp only; omega, by simp only; omega⟩ hl) (fun q _ hq => .inr hq.1) (fun y hy hq => by
          have := hq.2
          rw [List.mem_singleton.1 hy] at this
          omega) fun v w32 hA2 hk hch ⟨hv, hX⟩ => ?_
        subst hv
        exact ⟨rfl, hk, leafF hR hA2 ⟨rfl, hX.mono fun b _ hb => hb.elim (fun hb => .inl hb.1) fun hb => .inr (Nat.le_trans hA.size hb)⟩⟩
  refine at_callb hA (c55 h id) fun w2 hA _ hb => ?_
  have h := h.call hb
  have hs := hb.size
  cases hx : mget id m with
  | none =>
    refine ⟨_, _, _, _, _, _, _, _, _, rfl, fun n12 h12 w13 he hu => ?_⟩
    have hb := he.bel (by simpa using h12)
    exact tail w13 false n12 (by omega) ⟨(hA.call hb).chg, hu⟩ (h.call hb) (by rw [hx]; rfl)
  | some c =>
    refine ⟨_, _, _, _, _, _, _, _, _, rfl, fun n12 h12 w13 he hu => ?_⟩
    have hb := he.bel (by simpa using h12)
    exact tail w13 true n12 (by omega) ⟨(hA.call hb).chg, hu⟩ (h.call hb) (by rw [hx]; rfl)
end Go.Vc.SZ

/- The formulas of functions, printed by a program (VcTool.lean): each is what the generator's formula comes to, by the kernel's reckoning; whoever proves one has the function's contract. -/
set_option maxRecDepth 100000
set_option maxHeartbeats 1000000
set_option linter.unusedVariables false
namespace Vczt
open Go Go.Vc Go.RowKit
/-! (*manciple/sorter.Sorter).Total -/
def h34 : Hints := ⟨[3, 8], [16, 25, 27, 29, 42], [11, 14], [], [], [(9, ⟨[], []⟩)], [], [(34, .cons (.int .i64) (.cons (.agg (.cons (.int .i64) (.cons (.int .i64) (.cons (.int .i64) (.cons (.int .i64) (.cons (.int .i64) (.cons (.int .i64) (.cons (.int .i64) (.cons (.bool) (.nil)))))))))) (.nil))), (36, .cons (.int .i64) (.cons (.agg (.cons (.int .i64) (.cons (.int .i64) (.cons (.int .i64) (.cons (.int .i64) (.cons (.int .i64) (.cons (.int .i64) (.cons (.int .i64) (.cons (.bool) (.nil)))))))))) (.nil)))], [(6, (.op 0 (.op 1 (.op 2 (.op 3 (.alt (.op 4 (.op 5 (.op 6 (.op 7 (.op 8 (.op 9 (.op 10 (.op 11 (.op 12 (.op 13 (.op 14 .nil))))))))))) (.op 5 (.op 6 (.op 7 (.alt (.op 4 (.op 8 (.op 9 (.op 10 (.op 11 (.op 12 (.op 13 (.op 14 .nil)))))))) (.op 8 (.op 4 (.op 9 (.op 10 (.op 11 (.op 12 (.op 13 (.op 14 .nil))))))))))))))))))]⟩
def f34_vc (s : Option Addr) (t_0 : Int) (t_1 : Int) (t_2 : Int) (t_3 : Int) (w : World) (R : Ending → World → Prop) : Prop :=
 OpW Proofs.Tryz.prog (valueS (Instr.box 39 (Value.pointer s))) w fun (v1 : Value) (w2 : World) =>
 ∃ (ad3 : Addr),
 v1 = Value.pointer (some ad3) ∧
 ∀ (n4 : Nat),
 w2.heap.size ≤ n4 →
 ∃ (a5 : Option Addr),
 Reads Proofs.Tryz.prog [] (Instr.loadAt 39 (Value.pointer (some ad3))) w2 (Value.pointer a5) ∧
 ∀ (w6 : World),
 Bel w2 w6 →
 Under [n4] w6 →
 Calls Proofs.Tryz.prog 51 #[Value.pointer a5] w6 fun (e7 : Ending) (w8 : World) =>
 ∃ (b9 : Bool),
 e7 = Ending.returned (Value.bool b9) ∧
 Keeps [n4] w6 w8 ∧
 ((!b9) = true → R (Ending.returned (Value.int IntKind.i64 40)) w8) ∧
 ((!b9) = false →
 Calls Proofs.Tryz.prog 52 #[Value.agg #[Value.int IntKind.i64 t_0, Value.int IntKind.i64 t_1, Value.int IntKind.i64 t_2, Value.int IntKind.i64 t_3]] w8 fun (e10 : Ending) (w11 : World) =>
 ∃ (b12 : Bool),
 e10 = Ending.returned (Value.bool b12) ∧
 Keeps [n4] w8 w11 ∧
 ((!b12) = true → R (Ending.returned (Value.int IntKind.i64 41)) w11) ∧
 ((!b12) = false →
 ∃ (a13 : Option Addr),
 Reads Proofs.Tryz.prog [] (Instr.loadAt 39 (Value.pointer (some ad3))) w11 (Value.pointer a13) ∧
 ∃ (ad14 : Addr),
 a13 = some ad14 ∧
 ∃ (r15 : Option Nat),
 Reads Proofs.Tryz.prog [] (Instr.loadAt 77 (Value.pointer (some (Addr.mk ad14.block (ad14.off + 4) none)))) w11 (Value.map r15) ∧
 ∃ (a16 : Option Addr),
 Reads Proofs.Tryz.prog [] (Instr.loadAt 39 (Value.pointer (some ad3))) w11 (Value.pointer a16) ∧
 ∃ (a17 : Option Addr),
 Reads Proofs.Tryz.prog [] (Instr.loadAt 39 (Value.pointer (some ad3))) w11 (Value.pointer a17) ∧
 ∃ (a18 : Option Addr),
 Reads Proofs.Tryz.prog [] (Instr.loadAt 39 (Value.pointer (some ad3))) w11 (Value.pointer a18) ∧
 (∀ (w19 : World),
 Bel w11 w19 →
 Under [n4] w19 →
 OpW Proofs.Tryz.prog (valueS (Instr.makeMap 77 none)) w19 fun (v20 : Value) (w21 : World) =>
 ∃ (r22 : Option Nat),
 v20 = Value.map r22 ∧
 Keeps [n4] w19 w21 ∧
 Reads Proofs.Tryz.prog [] (Instr.loadAt 39 (Value.pointer (some ad3))) w21 (Value.pointer a18) ∧
 Reads Proofs.Tryz.prog [] (Instr.loadAt 39 (Value.pointer (some ad3))) w21 (Value.pointer a17) ∧
 Reads Proofs.Tryz.prog [] (Instr.loadAt 39 (Value.pointer (some ad3))) w21 (Value.pointer a16) ∧
 Calls Proofs.Tryz.prog 29 #[Value.func (Fn.func 30) #[] #[]] w21 fun (e23 : Ending) (w24 : World) =>
 ∃ (a25 : Option Addr),
 e23 = Ending.returned (Value.pointer a25) ∧
 Keeps [n4] w21 w24 ∧
 Reads Proofs.Tryz.prog [] (Instr.loadAt 39 (Value.pointer (some ad3))) w24 (Value.pointer a18) ∧
 Reads Proofs.Tryz.prog [] (Instr.loadAt 39 (Value.pointer (some ad3))) w24 (Value.pointer a17) ∧
 Reads Proofs.Tryz.prog [] (Instr.loadAt 39 (Value.pointer (some ad3))) w24 (Value.pointer a16) ∧
 ∃ (ad26 : Addr),
 a16 = some ad26 ∧
 OpW Proofs.Tryz.prog
 (skipS
 (Instr.storeAt 43 (Value.pointer (some ad26))
 (Value.agg #[Value.int IntKind.i64 t_0, Value.int IntKind.i64 t_1, Value.int IntKind.i64 t_2, Value.int IntKind.i64 t_3])))
 w24 fun (v27 : Value) (w28 : World) =>
 Keeps [n4] w24 w28 ∧
 Reads Proofs.Tryz.prog [] (Instr.loadAt 39 (Value.pointer (some ad3))) w28 (Value.pointer a18) ∧
 Reads Proofs.Tryz.prog [] (Instr.loadAt 39 (Value.pointer (some ad3))) w28 (Value.pointer a17) ∧
 ∃ (ad29 : Addr),
 a17 = some ad29 ∧
 OpW Proofs.Tryz.prog
 (skipS (Instr.storeAt 77 (Value.pointer (some (Addr.mk ad29.block (ad29.off + 4) none))) (Value.map r22))) w28
 fun (v30 : Value) (w31 : World) =>
 Keeps [n4] w28 w31 ∧
 Reads Proofs.Tryz.prog [] (Instr.loadAt 39 (Value.pointer (some ad3))) w31 (Value.pointer a18) ∧
 ∃ (ad32 : Addr),
 a18 = some ad32 ∧
 OpW Proofs.Tryz.prog
 (skipS
 (Instr.storeAt 78 (Value.pointer (some (Addr.mk ad32.block (ad32.off + 5) none))) (Value.pointer a25)))
 w31 fun (v33 : Value) (w34 : World) =>
 Keeps [n4] w31 w34 ∧
 OpW Proofs.Tryz.prog (valueS (Instr.range 77 (Value.map r15))) w34 fun (v35 : Value) (w36 : World) =>
 ∃ (ad37 : Addr),
 v35 = Value.pointer (some ad37) ∧
 Keeps [n4] w34 w36 ∧
 ∃ (J38 : Unit → World → Prop),
 ∃ (J39 : Unit → World → Nat),
 J38 () w36 ∧
 ∀ (w40 : World),
 J38 () w40 →
 OpW Proofs.Tryz.prog (valueS (Instr.next (Value.pointer (some ad37)) false 0)) w40
 fun (v41 : Value) (w42 : World) =>
 (v41 = Value.tuple #[Value.bool false] ∨
 ∃ (x :
 (nextShape
 (Hints.mk [3, 8] [16, 25, 27, 29, 42] [11, 14] [] [] [(9, LH.mk [] [])] []
 [(34,
 (Sh.int IntKind.i64).cons
 (((Sh.int IntKind.i64).cons
 ((Sh.int IntKind.i64).cons
 ((Sh.int IntKind.i64).cons
 ((Sh.int IntKind.i64).cons
 ((Sh.int IntKind.i64).cons
 ((Sh.int IntKind.i64).cons
 ((Sh.int IntKind.i64).cons
 (Sh.bool.cons Sh.nil)))))))).agg.cons
 Sh.nil)),
 (36,
 (Sh.int IntKind.i64).cons
 (((Sh.int IntKind.i64).cons
 ((Sh.int IntKind.i64).cons
 ((Sh.int IntKind.i64).cons
 ((Sh.int IntKind.i64).cons
 ((Sh.int IntKind.i64).cons
 ((Sh.int IntKind.i64).cons
 ((Sh.int IntKind.i64).cons
 (Sh.bool.cons Sh.nil)))))))).agg.cons
 Sh.nil))]
 [(6,
 Ot.op 0
 (Ot.op 1
 (Ot.op 2
 (Ot.op 3
 ((Ot.op 4
 (Ot.op 5
 (Ot.op 6
 (Ot.op 7
 (Ot.op 8
 (Ot.op 9
 (Ot.op 10
 (Ot.op 11
 (Ot.op 12
 (Ot.op 13
 (Ot.op 14 Ot.nil))))))))))).alt
 (Ot.op 5
 (Ot.op 6
 (Ot.op 7
 ((Ot.op 4
 (Ot.op 8
 (Ot.op 9
 (Ot.op 10
 (Ot.op 11
 (Ot.op 12
 (Ot.op 13 (Ot.op 14 Ot.nil)))))))).alt
 (Ot.op 8
 (Ot.op 4
 (Ot.op 9
 (Ot.op 10
 (Ot.op 11
 (Ot.op 12
 (Ot.op 13
 (Ot.op 14 Ot.nil)))))))))))))))))])
 #[Oper.mk (some 34) (Op.next (Operand.tmp 33) false) 0 "sorter.go:85" #[]
 none,
 Oper.mk (some 35) (Op.extract (Operand.tmp 34) 0) 4 "sorter.go:85"
 #[Edge.mk 0 Ground.data] none][0]).T),
 v41 =
 Value.tuple
 #[Value.bool true, Value.int IntKind.i64 x.fst,
 Value.agg
 #[Value.int IntKind.i64 x.snd.fst.fst,
 Value.int IntKind.i64 x.snd.fst.snd.fst,
 Value.int IntKind.i64 x.snd.fst.snd.snd.fst,
 Value.int IntKind.i64 x.snd.fst.snd.snd.snd.fst,
 Value.int IntKind.i64 x.snd.fst.snd.snd.snd.snd.fst,
 Value.int IntKind.i64 x.snd.fst.snd.snd.snd.snd.snd.fst,
 Value.int IntKind.i64 x.snd.fst.snd.snd.snd.snd.snd.snd.fst,
 Value.bool x.snd.fst.snd.snd.snd.snd.snd.snd.snd.fst]]) ∧
 (v41 = Value.tuple #[Value.bool false] →
 Keeps [n4] w40 w42 ∧ R (Ending.returned (Value.int IntKind.i64 0)) w42) ∧
 ∀ (x43 x44 x45 x46 x47 x48 x49 x50 : Int) (b51 : Bool),
 v41 =
 Value.tuple
 #[Value.bool true, Value.int IntKind.i64 x43,
 Value.agg
 #[Value.int IntKind.i64 x44, Value.int IntKind.i64 x45,
 Value.int IntKind.i64 x46, Value.int IntKind.i64 x47,
 Value.int IntKind.i64 x48, Value.int IntKind.i64 x49,
 Value.int IntKind.i64 x50, Value.bool b51]] →
 Keeps [n4] w40 w42 ∧
 OpW Proofs.Tryz.prog
 ((Instr.entry (Value.pointer (some ad37))).bind fun (__do_lift : Value) =>
 pure (Next.value __do_lift))
 w42 fun (v52 : Value) (w53 : World) =>
 ∃ (x54 : Int),
 ∃ (x55 : Int),
 ∃ (x56 : Int),
 ∃ (x57 : Int),
 ∃ (x58 : Int),
 ∃ (x59 : Int),
 ∃ (x60 : Int),
 ∃ (x61 : Int),
 ∃ (b62 : Bool),
 v52 =
 Value.tuple
 #[Value.int IntKind.i64 x54,
 Value.agg
 #[Value.int IntKind.i64 x55,
 Value.int IntKind.i64 x56,
 Value.int IntKind.i64 x57,
 Value.int IntKind.i64 x58,
 Value.int IntKind.i64 x59,
 Value.int IntKind.i64 x60,
 Value.int IntKind.i64 x61,
 Value.bool b62]] ∧
 Keeps [n4] w42 w53 ∧
 ∀ (n63 : Nat),
 w53.heap.size ≤ n63 →
 ∀ (w64 : World),
 Evo [n63] w53 w64 →
 Under [n4, n63] w64 →
 OpW Proofs.Tryz.prog
 (invokeS
 (Value.func (Fn.func 53) #[]
 #[Value.pointer (some ad3)])
 #[Value.int IntKind.i64 x54,
 Value.agg
 #[Value.int IntKind.i64 x55,
 Value.int IntKind.i64 x56,
 Value.int IntKind.i64 x57,
 Value.int IntKind.i64 x58,
 Value.int IntKind.i64 x59,
 Value.int IntKind.i64 x60,
 Value.int IntKind.i64 x61,
 Value.bool b62]])
 w64 fun (v65 : Value) (w66 : World) =>
 v65 = Value.tuple #[] ∧
 Keeps [n4, n63] w64 w66 ∧
 J38 () w66 ∧
 J39 () w66 < J39 () w40) ∧
 ∀ (w67 : World),
 Bel w11 w67 →
 Under [n4] w67 →
 Calls Proofs.Tryz.prog 29 #[Value.func (Fn.func 30) #[] #[]] w67 fun (e68 : Ending) (w69 : World) =>
 ∃ (a70 : Option Addr),
 e68 = Ending.returned (Value.pointer a70) ∧
 Keeps [n4] w67 w69 ∧
 Reads Proofs.Tryz.prog [] (Instr.loadAt 39 (Value.pointer (some ad3))) w69 (Value.pointer a18) ∧
 Reads Proofs.Tryz.prog [] (Instr.loadAt 39 (Value.pointer (some ad3))) w69 (Value.pointer a17) ∧
 Reads Proofs.Tryz.prog [] (Instr.loadAt 39 (Value.pointer (some ad3))) w69 (Value.pointer a16) ∧
 ∃ (ad71 : Addr),
 a16 = some ad71 ∧
 (OpW Proofs.Tryz.prog (valueS (Instr.makeMap 77 none)) w69 fun (v72 : Value) (w73 : World) =>
 ∃ (r74 : Option Nat),
 v72 = Value.map r74 ∧
 Keeps [n4] w69 w73 ∧
 Reads Proofs.Tryz.prog [] (Instr.loadAt 39 (Value.pointer (some ad3))) w73 (Value.pointer a18) ∧
 Reads Proofs.Tryz.prog [] (Instr.loadAt 39 (Value.pointer (some ad3))) w73 (Value.pointer a17) ∧
 Reads Proofs.Tryz.prog [] (Instr.loadAt 39 (Value.pointer (some ad3))) w73 (Value.pointer a16) ∧
 OpW Proofs.Tryz.prog
 (skipS
 (Instr.storeAt 43 (Value.pointer (some ad71))
 (Value.agg #[Value.int IntKind.i64 t_0, Value.int IntKind.i64 t_1, Value.int IntKind.i64 t_2, Value.int IntKind.i64 t_3])))
 w73 fun (v75 : Value) (w76 : World) =>
 Keeps [n4] w73 w76 ∧
 Reads Proofs.Tryz.prog [] (Instr.loadAt 39 (Value.pointer (some ad3))) w76 (Value.pointer a18) ∧
 Reads Proofs.Tryz.prog [] (Instr.loadAt 39 (Value.pointer (some ad3))) w76 (Value.pointer a17) ∧
 ∃ (ad77 : Addr),
 a17 = some ad77 ∧
 OpW Proofs.Tryz.prog
 (skipS (Instr.storeAt 77 (Value.pointer (some (Addr.mk ad77.block (ad77.off + 4) none))) (Value.map r74))) w76
 fun (v78 : Value) (w79 : World) =>
 Keeps [n4] w76 w79 ∧
 Reads Proofs.Tryz.prog [] (Instr.loadAt 39 (Value.pointer (some ad3))) w79 (Value.pointer a18) ∧
 ∃ (ad80 : Addr),
 a18 = some ad80 ∧
 OpW Proofs.Tryz.prog
 (skipS
 (Instr.storeAt 78 (Value.pointer (some (Addr.mk ad80.block (ad80.off + 5) none))) (Value.pointer a70)))
 w79 fun (v81 : Value) (w82 : World) =>
 Keeps [n4] w79 w82 ∧
 OpW Proofs.Tryz.prog (valueS (Instr.range 77 (Value.map r15))) w82 fun (v83 : Value) (w84 : World) =>
 ∃ (ad85 : Addr),
 v83 = Value.pointer (some ad85) ∧
 Keeps [n4] w82 w84 ∧
 ∃ (J86 : Unit → World → Prop),
 ∃ (J87 : Unit → World → Nat),
 J86 () w84 ∧
 ∀ (w88 : World),
 J86 () w88 →
 OpW Proofs.Tryz.prog (valueS (Instr.next (Value.pointer (some ad85)) false 0)) w88
 fun (v89 : Value) (w90 : World) =>
 (v89 = Value.tuple #[Value.bool false] ∨
 ∃ (x :
 (nextShape
 (Hints.mk [3, 8] [16, 25, 27, 29, 42] [11, 14] [] [] [(9, LH.mk [] [])] []
 [(34,
 (Sh.int IntKind.i64).cons
 (((Sh.int IntKind.i64).cons
 ((Sh.int IntKind.i64).cons
 ((Sh.int IntKind.i64).cons
 ((Sh.int IntKind.i64).cons
 ((Sh.int IntKind.i64).cons
 ((Sh.int IntKind.i64).cons
 ((Sh.int IntKind.i64).cons
 (Sh.bool.cons Sh.nil)))))))).agg.cons
 Sh.nil)),
 (36,
 (Sh.int IntKind.i64).cons
 (((Sh.int IntKind.i64).cons
 ((Sh.int IntKind.i64).cons
 ((Sh.int IntKind.i64).cons
 ((Sh.int IntKind.i64).cons
 ((Sh.int IntKind.i64).cons
 ((Sh.int IntKind.i64).cons
 ((Sh.int IntKind.i64).cons
 (Sh.bool.cons Sh.nil)))))))).agg.cons
 Sh.nil))]
 [(6,
 Ot.op 0
 (Ot.op 1
 (Ot.op 2
 (Ot.op 3
 ((Ot.op 4
 (Ot.op 5
 (Ot.op 6
 (Ot.op 7
 (Ot.op 8
 (Ot.op 9
 (Ot.op 10
 (Ot.op 11
 (Ot.op 12
 (Ot.op 13
 (Ot.op 14 Ot.nil))))))))))).alt
 (Ot.op 5
 (Ot.op 6
 (Ot.op 7
 ((Ot.op 4
 (Ot.op 8
 (Ot.op 9
 (Ot.op 10
 (Ot.op 11
 (Ot.op 12
 (Ot.op 13
 (Ot.op 14 Ot.nil)))))))).alt
 (Ot.op 8
 (Ot.op 4
 (Ot.op 9
 (Ot.op 10
 (Ot.op 11
 (Ot.op 12
 (Ot.op 13
 (Ot.op 14 Ot.nil)))))))))))))))))])
 #[Oper.mk (some 34) (Op.next (Operand.tmp 33) false) 0 "sorter.go:85" #[]
 none,
 Oper.mk (some 35) (Op.extract (Operand.tmp 34) 0) 4 "sorter.go:85"
 #[Edge.mk 0 Ground.data] none][0]).T),
 v89 =
 Value.tuple
 #[Value.bool true, Value.int IntKind.i64 x.fst,
 Value.agg
 #[Value.int IntKind.i64 x.snd.fst.fst,
 Value.int IntKind.i64 x.snd.fst.snd.fst,
 Value.int IntKind.i64 x.snd.fst.snd.snd.fst,
 Value.int IntKind.i64 x.snd.fst.snd.snd.snd.fst,
 Value.int IntKind.i64 x.snd.fst.snd.snd.snd.snd.fst,
 Value.int IntKind.i64 x.snd.fst.snd.snd.snd.snd.snd.fst,
 Value.int IntKind.i64 x.snd.fst.snd.snd.snd.snd.snd.snd.fst,
 Value.bool x.snd.fst.snd.snd.snd.snd.snd.snd.snd.fst]]) ∧
 (v89 = Value.tuple #[Value.bool false] →
 Keeps [n4] w88 w90 ∧ R (Ending.returned (Value.int IntKind.i64 0)) w90) ∧
 ∀ (x91 x92 x93 x94 x95 x96 x97 x98 : Int) (b99 : Bool),
 v89 =
 Value.tuple
 #[Value.bool true, Value.int IntKind.i64 x91,
 Value.agg
 #[Value.int IntKind.i64 x92, Value.int IntKind.i64 x93,
 Value.int IntKind.i64 x94, Value.int IntKind.i64 x95,
 Value.int IntKind.i64 x96, Value.int IntKind.i64 x97,
 Value.int IntKind.i64 x98, Value.bool b99]] →
 Keeps [n4] w88 w90 ∧
 OpW Proofs.Tryz.prog
 ((Instr.entry (Value.pointer (some ad85))).bind
 fun (__do_lift : Value) => pure (Next.value __do_lift))
 w90 fun (v100 : Value) (w101 : World) =>
 ∃ (x102 : Int),
 ∃ (x103 : Int),
 ∃ (x104 : Int),
 ∃ (x105 : Int),
 ∃ (x106 : Int),
 ∃ (x107 : Int),
 ∃ (x108 : Int),
 ∃ (x109 : Int),
 ∃ (b110 : Bool),
 v100 =
 Value.tuple
 #[Value.int IntKind.i64 x102,
 Value.agg
 #[Value.int IntKind.i64 x103,
 Value.int IntKind.i64 x104,
 Value.int IntKind.i64 x105,
 Value.int IntKind.i64 x106,
 Value.int IntKind.i64 x107,
 Value.int IntKind.i64 x108,
 Value.int IntKind.i64 x109,
 Value.bool b110]] ∧
 Keeps [n4] w90 w101 ∧
 ∀ (n111 : Nat),
 w101.heap.size ≤ n111 →
 ∀ (w112 : World),
 Evo [n111] w101 w112 →
 Under [n4, n111] w112 →
 OpW Proofs.Tryz.prog
 (invokeS
 (Value.func (Fn.func 53) #[]
 #[Value.pointer (some ad3)])
 #[Value.int IntKind.i64 x102,
 Value.agg
 #[Value.int IntKind.i64 x103,
 Value.int IntKind.i64 x104,
 Value.int IntKind.i64 x105,
 Value.int IntKind.i64 x106,
 Value.int IntKind.i64 x107,
 Value.int IntKind.i64 x108,
 Value.int IntKind.i64 x109,
 Value.bool b110]])
 w112
 fun (v113 : Value) (w114 : World) =>
 v113 = Value.tuple #[] ∧
 Keeps [n4, n111] w112 w114 ∧
 J86 () w114 ∧
 J87 () w114 < J87 () w88) ∧
 OpW Proofs.Tryz.prog
 (skipS
 (Instr.storeAt 43 (Value.pointer (some ad71))
 (Value.agg #[Value.int IntKind.i64 t_0, Value.int IntKind.i64 t_1, Value.int IntKind.i64 t_2, Value.int IntKind.i64 t_3])))
 w69 fun (v115 : Value) (w116 : World) =>
 Keeps [n4] w69 w116 ∧
 Reads Proofs.Tryz.prog [] (Instr.loadAt 39 (Value.pointer (some ad3))) w116 (Value.pointer a18) ∧
 Reads Proofs.Tryz.prog [] (Instr.loadAt 39 (Value.pointer (some ad3))) w116 (Value.pointer a17) ∧
 OpW Proofs.Tryz.prog (valueS (Instr.makeMap 77 none)) w116 fun (v117 : Value) (w118 : World) =>
 ∃ (r119 : Option Nat),
 v117 = Value.map r119 ∧
 Keeps [n4] w116 w118 ∧
 Reads Proofs.Tryz.prog [] (Instr.loadAt 39 (Value.pointer (some ad3))) w118 (Value.pointer a18) ∧
 Reads Proofs.Tryz.prog [] (Instr.loadAt 39 (Value.pointer (some ad3))) w118 (Value.pointer a17) ∧
 ∃ (ad120 : Addr),
 a17 = some ad120 ∧
 OpW Proofs.Tryz.prog
 (skipS (Instr.storeAt 77 (Value.pointer (some (Addr.mk ad120.block (ad120.off + 4) none))) (Value.map r119))) w118
 fun (v121 : Value) (w122 : World) =>
 Keeps [n4] w118 w122 ∧
 Reads Proofs.Tryz.prog [] (Instr.loadAt 39 (Value.pointer (some ad3))) w122 (Value.pointer a18) ∧
 ∃ (ad123 : Addr),
 a18 = some ad123 ∧
 OpW Proofs.Tryz.prog
 (skipS
 (Instr.storeAt 78 (Value.pointer (some (Addr.mk ad123.block (ad123.off + 5) none))) (Value.pointer a70)))
 w122 fun (v124 : Value) (w125 : World) =>
 Keeps [n4] w122 w125 ∧
 OpW Proofs.Tryz.prog (valueS (Instr.range 77 (Value.map r15))) w125 fun (v126 : Value) (w127 : World) =>
 ∃ (ad128 : Addr),
 v126 = Value.pointer (some ad128) ∧
 Keeps [n4] w125 w127 ∧
 ∃ (J129 : Unit → World → Prop),
 ∃ (J130 : Unit → World → Nat),
 J129 () w127 ∧
 ∀ (w131 : World),
 J129 () w131 →
 OpW Proofs.Tryz.prog (valueS (Instr.next (Value.pointer (some ad128)) false 0)) w131
 fun (v132 : Value) (w133 : World) =>
 (v132 = Value.tuple #[Value.bool false] ∨
 ∃ (x :
 (nextShape
 (Hints.mk [3, 8] [16, 25, 27, 29, 42] [11, 14] [] [] [(9, LH.mk [] [])] []
 [(34,
 (Sh.int IntKind.i64).cons
 (((Sh.int IntKind.i64).cons
 ((Sh.int IntKind.i64).cons
 ((Sh.int IntKind.i64).cons
 ((Sh.int IntKind.i64).cons
 ((Sh.int IntKind.i64).cons
 ((Sh.int IntKind.i64).cons
 ((Sh.int IntKind.i64).cons
 (Sh.bool.cons Sh.nil)))))))).agg.cons
 Sh.nil)),
 (36,
 (Sh.int IntKind.i64).cons
 (((Sh.int IntKind.i64).cons
 ((Sh.int IntKind.i64).cons
 ((Sh.int IntKind.i64).cons
 ((Sh.int IntKind.i64).cons
 ((Sh.int IntKind.i64).cons
 ((Sh.int IntKind.i64).cons
 ((Sh.int IntKind.i64).cons
 (Sh.bool.cons Sh.nil)))))))).agg.cons
 Sh.nil))]
 [(6,
 Ot.op 0
 (Ot.op 1
 (Ot.op 2
 (Ot.op 3
 ((Ot.op 4
 (Ot.op 5
 (Ot.op 6
 (Ot.op 7
 (Ot.op 8
 (Ot.op 9
 (Ot.op 10
 (Ot.op 11
 (Ot.op 12
 (Ot.op 13
 (Ot.op 14 Ot.nil))))))))))).alt
 (Ot.op 5
 (Ot.op 6
 (Ot.op 7
 ((Ot.op 4
 (Ot.op 8
 (Ot.op 9
 (Ot.op 10
 (Ot.op 11
 (Ot.op 12
 (Ot.op 13 (Ot.op 14 Ot.nil)))))))).alt
 (Ot.op 8
 (Ot.op 4
 (Ot.op 9
 (Ot.op 10
 (Ot.op 11
 (Ot.op 12
 (Ot.op 13
 (Ot.op 14 Ot.nil)))))))))))))))))])
 #[Oper.mk (some 34) (Op.next (Operand.tmp 33) false) 0 "sorter.go:85" #[]
 none,
 Oper.mk (some 35) (Op.extract (Operand.tmp 34) 0) 4 "sorter.go:85"
 #[Edge.mk 0 Ground.data] none][0]).T),
 v132 =
 Value.tuple
 #[Value.bool true, Value.int IntKind.i64 x.fst,
 Value.agg
 #[Value.int IntKind.i64 x.snd.fst.fst,
 Value.int IntKind.i64 x.snd.fst.snd.fst,
 Value.int IntKind.i64 x.snd.fst.snd.snd.fst,
 Value.int IntKind.i64 x.snd.fst.snd.snd.snd.fst,
 Value.int IntKind.i64 x.snd.fst.snd.snd.snd.snd.fst,
 Value.int IntKind.i64 x.snd.fst.snd.snd.snd.snd.snd.fst,
 Value.int IntKind.i64 x.snd.fst.snd.snd.snd.snd.snd.snd.fst,
 Value.bool x.snd.fst.snd.snd.snd.snd.snd.snd.snd.fst]]) ∧
 (v132 = Value.tuple #[Value.bool false] →
 Keeps [n4] w131 w133 ∧ R (Ending.returned (Value.int IntKind.i64 0)) w133) ∧
 ∀ (x134 x135 x136 x137 x138 x139 x140 x141 : Int) (b142 : Bool),
 v132 =
 Value.tuple
 #[Value.bool true, Value.int IntKind.i64 x134,
 Value.agg
 #[Value.int IntKind.i64 x135, Value.int IntKind.i64 x136,
 Value.int IntKind.i64 x137, Value.int IntKind.i64 x138,
 Value.int IntKind.i64 x139, Value.int IntKind.i64 x140,
 Value.int IntKind.i64 x141, Value.bool b142]] →
 Keeps [n4] w131 w133 ∧
 OpW Proofs.Tryz.prog
 ((Instr.entry (Value.pointer (some ad128))).bind
 fun (__do_lift : Value) => pure (Next.value __do_lift))
 w133 fun (v143 : Value) (w144 : World) =>
 ∃ (x145 : Int),
 ∃ (x146 : Int),
 ∃ (x147 : Int),
 ∃ (x148 : Int),
 ∃ (x149 : Int),
 ∃ (x150 : Int),
 ∃ (x151 : Int),
 ∃ (x152 : Int),
 ∃ (b153 : Bool),
 v143 =
 Value.tuple
 #[Value.int IntKind.i64 x145,
 Value.agg
 #[Value.int IntKind.i64 x146,
 Value.int IntKind.i64 x147,
 Value.int IntKind.i64 x148,
 Value.int IntKind.i64 x149,
 Value.int IntKind.i64 x150,
 Value.int IntKind.i64 x151,
 Value.int IntKind.i64 x152,
 Value.bool b153]] ∧
 Keeps [n4] w133 w144 ∧
 ∀ (n154 : Nat),
 w144.heap.size ≤ n154 →
 ∀ (w155 : World),
 Evo [n154] w144 w155 →
 Under [n4, n154] w155 →
 OpW Proofs.Tryz.prog
 (invokeS
 (Value.func (Fn.func 53) #[]
 #[Value.pointer (some ad3)])
 #[Value.int IntKind.i64 x145,
 Value.agg
 #[Value.int IntKind.i64 x146,
 Value.int IntKind.i64 x147,
 Value.int IntKind.i64 x148,
 Value.int IntKind.i64 x149,
 Value.int IntKind.i64 x150,
 Value.int IntKind.i64 x151,
 Value.int IntKind.i64 x152,
 Value.bool b153]])
 w155
 fun (v156 : Value) (w157 : World) =>
 v156 = Value.tuple #[] ∧
 Keeps [n4, n154] w155 w157 ∧
 J129 () w157 ∧
 J130 () w157 < J130 () w131))
theorem f34_eq (s : Option Addr) (t_0 : Int) (t_1 : Int) (t_2 : Int) (t_3 : Int) (w : World) (R : Ending → World → Prop) : (fnF Go.Proofs.Tryz.prog h34 Go.Proofs.Tryz.f34 [Value.pointer s, Value.agg #[Value.int IntKind.i64 t_0, Value.int IntKind.i64 t_1, Value.int IntKind.i64 t_2, Value.int IntKind.i64 t_3]] w R).den = f34_vc s t_0 t_1 t_2 t_3 w R := by kernel_rfl
theorem f34_calls (s : Option Addr) (t_0 : Int) (t_1 : Int) (t_2 : Int) (t_3 : Int) (w : World) (R : Ending → World → Prop) (h : f34_vc s t_0 t_1 t_2 t_3 w R) : Calls Go.Proofs.Tryz.prog 34 (List.toArray [Value.pointer s, Value.agg #[Value.int IntKind.i64 t_0, Value.int IntKind.i64 t_1, Value.int IntKind.i64 t_2, Value.int IntKind.i64 t_3]]) w R :=
 fn_sound (H := h34) (fn := Go.Proofs.Tryz.f34) (by kernel_rfl) (by kernel_rfl) (by kernel_rfl) ((f34_eq s t_0 t_1 t_2 t_3 w R).mpr h)

end Vczt

/- The total is set. -/
set_option maxRecDepth 20000
set_option maxHeartbeats 4000000
set_option linter.unusedVariables false
namespace Go.Vc.SZ
open Go Go.Vc Go.RowKit Go.Proofs Go.Vc.T Vcz

variable {w W W' W1 : World} {M N : Nat → Prop} {gs ds : List Nat} {g r gt p : Nat} {T n : Ar4} {m m0 m1 : List (Int × Cl)} {id : Int} {c : Cl} {B B' : Nat → Prop}

theorem c53 {a d : Int} (h : SoX W B g T m) (hl : m.length < 100000) (hc : okC c) (hb : W.heap[p]? = some (.cells ([.pointer (pt g)] : List Value).toArray 39 (0, 0))) :
    RetF Tryz.prog 53 #[.int .i64 id, cl8 a d c.w c.s c.aw, .pointer (pt p)] W B (fun v W' => v = .tuple #[] ∧ SoX W' (fun b => B b ∨ W.heap.size ≤ b) g T (mset id c m)) := by
  intro R hR
  refine f53_calls _ _ _ _ _ _ _ _ _ _ W R ?_
  unfold f53_vc
  have hA : AtF W B [] W := AtF.refl W _
  have h : SoX W (fun b => B b ∧ b < W.heap.size) g T m := h.mono fun _ hl hb => ⟨hb, hl⟩
  refine go_n hA fun n1 h1 => ⟨_, rd_f0 hb (by kernel_rfl) nod, go_below_too hA fun w3 hA hb3 => ?_⟩
  have h := h.call hb3
  refine at_callF hA (c54x a d h hc hl) (fun q _ hq => .inr hq.1) (fun y hy hq => by
    have := hq.2
    rw [List.mem_singleton.1 hy] at this
    omega) fun v w32 hA2 hk hch ⟨hv, hX⟩ => ?_
  subst hv
  exact ⟨rfl, hk, leafF hR hA2 ⟨rfl, hX.mono fun b _ hb => hb.elim (fun hb => .inl hb.1) fun hb => .inr (Nat.le_trans hA.size hb)⟩⟩

theorem tot_loop {n4 : Nat} {M1 : Nat → Prop} {R : Ending → World → Prop} (hA : AtF w M [n4] W) (hX : SoX W B g n []) (hbox : W.heap[p]? = some (.cells ([.pointer (pt g)] : List Value).toArray 39 (0, 0))) (hM : OwnM w M1 [] W r idV (clV T) m0) (hg : Good T m) (hsm : ∀ x, x ∈ m0 ↔ x ∈ m) (hnd : (m0.map (·.1)).Nodup) (hl : m.length < 100000)
    (hBl : ∀ b, B b → b < W.heap.size) (hBM : ∀ b, B b → w.heap.size ≤ b ∨ M b) (hpB : ¬ B p) (hrB : ¬ B r) (h4B : ¬ B n4)
    (hR : ∀ W', AtF w M [n4] W' → SoX W' (fun b => M b ∨ w.heap.size ≤ b) g n m → R (.returned (.int .i64 0)) W') :
 OpW Proofs.Tryz.prog (valueS (Instr.range 77 (Value.map (some r)))) W fun (v35 : Value) (w36 : World) =>
 ∃ (ad37 : Addr),
 v35 = Value.pointer (some ad37) ∧
 Keeps [n4] W w36 ∧
 ∃ (J38 : Unit → World → Prop),
 ∃ (J39 : Unit → World → Nat),
 J38 () w36 ∧
 ∀ (w40 : World),
 J38 () w40 →
 OpW Proofs.Tryz.prog (valueS (Instr.next (Value.pointer (some ad37)) false 0)) w40
 fun (v41 : Value) (w42 : World) =>
 (v41 = Value.tuple #[Value.bool false] ∨
 ∃ (x :
 (nextShape
 (Hints.mk [3, 8] [16, 25, 27, 29, 42] [11, 14] [] [] [(9, LH.mk [] [])] []
 [(34,
 (Sh.int IntKind.i64).cons
 (((Sh.int IntKind.i64).cons
 ((Sh.int IntKind.i64).cons
 ((Sh.int IntKind.i64).cons
 ((Sh.int IntKind.i64).cons
 ((Sh.int IntKind.i64).cons
 ((Sh.int IntKind.i64).cons
 ((Sh.int IntKind.i64).cons
 (Sh.bool.cons Sh.nil)))))))).agg.cons
 Sh.nil)),
 (36,
 (Sh.int IntKind.i64).cons
 (((Sh.int IntKind.i64).cons
 ((Sh.int IntKind.i64).cons
 ((Sh.int IntKind.i64).cons
 ((Sh.int IntKind.i64).cons
 ((Sh.int IntKind.i64).cons
 ((Sh.int IntKind.i64).cons
 ((Sh.int IntKind.i64).cons
 (Sh.bool.cons Sh.nil)))))))).agg.cons
 Sh.nil))]
 [(6,
 Ot.op 0
 (Ot.op 1
 (Ot.op 2
 (Ot.op 3
 ((Ot.op 4
 (Ot.op 5
 (Ot.op 6
 (Ot.op 7
 (Ot.op 8
 (Ot.op 9
 (Ot.op 10
 (Ot.op 11
 (Ot.op 12
 (Ot.op 13
 (Ot.op 14 Ot.nil))))))))))).alt
 (Ot.op 5
 (Ot.op 6
 (Ot.op 7
 ((Ot.op 4
 (Ot.op 8
 (Ot.op 9
 (Ot.op 10
 (Ot.op 11
 (Ot.op 12
 (Ot.op 13 (Ot.op 14 Ot.nil)))))))).alt
 (Ot.op 8
 (Ot.op 4
 (Ot.op 9
 (Ot.op 10
 (Ot.op 11
 (Ot.op 12
 (Ot.op 13
 (Ot.op 14 Ot.nil)))))))))))))))))])
 #[Oper.mk (some 34) (Op.next (Operand.tmp 33) false) 0 "sorter.go:85" #[]
 none,
 Oper.mk (some 35) (Op.extract (Operand.tmp 34) 0) 4 "sorter.go:85"
 #[Edge.mk 0 Ground.data] none][0]).T),
 v41 =
 Value.tuple
 #[Value.bool true, Value.int IntKind.i64 x.fst,
 Value.agg
 #[Value.int IntKind.i64 x.snd.fst.fst,
 Value.int IntKind.i64 x.snd.fst.snd.fst,
 Value.int IntKind.i64 x.snd.fst.snd.snd.fst,
 Value.int IntKind.i64 x.snd.fst.snd.snd.snd.fst,
 Value.int IntKind.i64 x.snd.fst.snd.snd.snd.snd.fst,
 Value.int IntKind.i64 x.snd.fst.snd.snd.snd.snd.snd.fst,
 Value.int IntKind.i64 x.snd.fst.snd.snd.snd.snd.snd.snd.fst,
 Value.bool x.snd.fst.snd.snd.snd.snd.snd.snd.snd.fst]]) ∧
 (v41 = Value.tuple #[Value.bool false] →
 Keeps [n4] w40 w42 ∧ R (Ending.returned (Value.int IntKind.i64 0)) w42) ∧
 ∀ (x43 x44 x45 x46 x47 x48 x49 x50 : Int) (b51 : Bool),
 v41 =
 Value.tuple
 #[Value.bool true, Value.int IntKind.i64 x43,
 Value.agg
 #[Value.int IntKind.i64 x44, Value.int IntKind.i64 x45,
 Value.int IntKind.i64 x46, Value.int IntKind.i64 x47,
 Value.int IntKind.i64 x48, Value.int IntKind.i64 x49,
 Value.int IntKind.i64 x50, Value.bool b51]] →
 Keeps [n4] w40 w42 ∧
 OpW Proofs.Tryz.prog
 ((Instr.entry (Value.pointer (some ad37))).bind fun (__do_lift : Value) =>
 pure (Next.value __do_lift))
 w42 fun (v52 : Value) (w53 : World) =>
 ∃ (x54 : Int),
 ∃ (x55 : Int),
 ∃ (x56 : Int),
 ∃ (x57 : Int),
 ∃ (x58 : Int),
 ∃ (x59 : Int),
 ∃ (x60 : Int),
 ∃ (x61 : Int),
 ∃ (b62 : Bool),
 v52 =
 Value.tuple
 #[Value.int IntKind.i64 x54,
 Value.agg
 #[Value.int IntKind.i64 x55,
 Value.int IntKind.i64 x56,
 Value.int IntKind.i64 x57,
 Value.int IntKind.i64 x58,
 Value.int IntKind.i64 x59,
 Value.int IntKind.i64 x60,
 Value.int IntKind.i64 x61,
 Value.bool b62]] ∧
 Keeps [n4] w42 w53 ∧
 ∀ (n63 : Nat),
 w53.heap.size ≤ n63 →
 ∀ (w64 : World),
 Evo [n63] w53 w64 →
 Under [n4, n63] w64 →
 OpW Proofs.Tryz.prog
 (invokeS
 (Value.func (Fn.func 53) #[]
 #[Value.pointer (some (Addr.mk p 0 none))])
 #[Value.int IntKind.i64 x54,
 Value.agg
 #[Value.int IntKind.i64 x55,
 Value.int IntKind.i64 x56,
 Value.int IntKind.i64 x57,
 Value.int IntKind.i64 x58,
 Value.int IntKind.i64 x59,
 Value.int IntKind.i64 x60,
 Value.int IntKind.i64 x61,
 Value.bool b62]])
 w64 fun (v65 : Value) (w66 : World) =>
 v65 = Value.tuple #[] ∧
 Keeps [n4, n63] w64 w66 ∧
 J38 () w66 ∧
 J39 () w66 < J39 () w40 := by
  have hr4 : n4 < W.heap.size := hA.under n4 (by simp)
  refine opw_range (kf := idV) (vf := clV T) (t := 77) (kt := 2) (et := 115) (by kernel_rfl) hA hM fun q w36 hq hA hk hb hi => ⟨_, rfl, hk, ?_⟩
  have hp := (Array.getElem?_eq_some_iff.1 hbox).1
  refine ⟨fun _ W' => AtF w M [n4] W' ∧ W.heap.size < W'.heap.size ∧ W'.heap[p]? = some (.cells ([.pointer (pt g)] : List Value).toArray 39 (0, 0)) ∧ ∃ (done rest : List (Int × Cl)) (cur : Option (Int × Cl)) (Bq : Nat → Prop), SoX W' Bq g n done ∧ Itr w M [n4] W' q r idV (clV T) m0 rest cur ∧ (∀ x, x ∈ m0 ↔ x ∈ done ∨ x ∈ rest) ∧ ((done ++ rest).map (·.1)).Nodup ∧ done.length ≤ m.length ∧ (∀ b, Bq b → b < W'.heap.size) ∧ (∀ b, Bq b → w.heap.size ≤ b ∨ M b) ∧ (¬ Bq p ∧ ¬ Bq q ∧ ¬ Bq r ∧ ¬ Bq n4), fun _ W' => itLeft W' q r, ?_, ?_⟩
  · refine ⟨hA, ?_, (hb.block hp).trans hbox, [], m0, none, B, hX.call hb, hi, fun x => by simp, by simpa using hnd, Nat.zero_le _, fun b hb' => Nat.lt_of_lt_of_le (hBl b hb') hb.size, hBM, hpB, fun e => by have := hBl q e; omega, hrB, h4B⟩
    have := hi.lts.1
    omega
  rintro w40 ⟨hA, hsz, hbox, done, rest, cur, Bq, hX, hi, hmem, hnod, hdl, hBl, hBM, hqp, hqq, hqr, hq4⟩
  have hp' := (Array.getElem?_eq_some_iff.1 hbox).1
  have hleft := hi.left
  have hiq := hi
  refine opw_next hA hi (fun hr => ⟨.inl rfl, fun _ => ⟨fun _ _ => rfl, ?_⟩, fun _ _ _ _ _ _ _ _ _ e => by simp at e⟩) fun x ra rb w42 hr hA hk hch hi => ⟨.inr ⟨(x.1, ((domT T x.2.s).1, (domT T x.2.s).2, x.2.w, x.2.s.1, x.2.s.2.1, x.2.s.2.2.1, x.2.s.2.2.2, x.2.aw, ()), ()), rfl⟩, fun e => by simp at e, fun _ _ _ _ _ _ _ _ _ _ => ⟨hk, ?_⟩⟩
  · subst hr
    refine hR w40 hA ?_
    obtain ⟨mm, r', gt', t', bs', k1, k2, k3, k4, k5⟩ := hX.ex
    exact ⟨⟨hg.nd, hg.ok, hX.good.sm⟩, mm, r', gt', t', bs', fun y => by rw [k1, ← hsm, hmem]; simp, k2, k3, k4, fun b hb => (hBM b (k5 b hb)).symm⟩
  · have hqn : ∀ b, Bq b → ¬ b = q := fun b hb e => hqq (e ▸ hb)
    have hX := hX.chg hch fun b hb _ => hqn b hb
    have hpq : p ≠ q := fun e => by
      obtain ⟨es, clock, since, cc0, seen, _, _, _, _, h5, _⟩ := hiq.obj
      rw [← e, hbox] at h5
      cases h5
    have hbox := (hch.block p hp' hpq).trans hbox
    have hsz42 := hch.size
    have hxm : x ∈ m := (hsm x).1 ((hmem x).2 (.inr (by rw [hr]; simp)))
    have hoc := hg.ok x hxm
    refine opw_entry hi ⟨_, _, _, _, _, _, _, _, _, rfl, fun _ _ => rfl, fun n63 h63 w64 he hu => ?_⟩
    have hb := he.bel (by simpa using h63)
    have hA : AtF w M [n4, n63] w64 := ⟨(hA.call hb).chg, hu⟩
    have hX := hX.call hb
    have hi := hi.call hb
    have hbox := (hb.block (Nat.lt_of_lt_of_le hp' hsz42)).trans hbox
    have hs64 := hb.size
    have hp64 := (Array.getElem?_eq_some_iff.1 hbox).1
    have hil := hi.lts
    have hn63 : n63 < w64.heap.size := hu n63 (by simp)
    refine opw_invoke (by kernel_rfl) ?_
    refine at_callF hA (c53 (id := x.1) (c := x.2) hX (by omega) hoc hbox) (fun b _ hb => hBM b hb) (fun y hy hq => by
      simp at hy
      rcases hy with rfl | rfl
      · exact hq4 hq
      · have := hBl _ hq; omega) fun v w66 hA2 hk2 hch2 ⟨hv, hX2⟩ => ?_
    subst hv
    have hs66 := hch2.size
    have hlen : ra.length + rb.length + 1 = rest.length := by rw [hr]; simp; omega
    have hxd : x.1 ∉ done.map (·.1) := fun e => by
      rw [hr, List.map_append, List.nodup_append] at hnod
      exact hnod.2.2 _ e x.1 (by simp) rfl
    have hget : mget x.1 done = none := mget_none.2 hxd
    have hml : (mset x.1 x.2 done).length = done.length + 1 := by rw [mset_length, hget]; rfl
    have hnd2 : (((mset x.1 x.2 done) ++ (ra ++ rb)).map (·.1)).Nodup := by
      rw [List.map_append, mset_keys, if_neg hxd]
      rw [hr] at hnod
      simp only [List.map_append, List.map_cons, List.append_assoc] at hnod ⊢
      have hp : (done.map (·.1) ++ (ra.map (·.1) ++ x.1 :: rb.map (·.1))).Perm (done.map (·.1) ++ ([x.1] ++ (ra.map (·.1) ++ rb.map (·.1)))) := List.Perm.append_left _ (List.perm_middle)
      exact hp.nodup_iff.1 hnod
    refine ⟨_, rfl, rfl, hk2, ⟨⟨hA2.chg, fun z hz => hA2.under z (by simp at hz ⊢; omega)⟩, by omega, (hch2.block p hp64 hqp).trans hbox, mset x.1 x.2 done, ra ++ rb, some x, fun b => (Bq b ∨ w64.heap.size ≤ b) ∧ b < w66.heap.size, hX2.mono fun b hl hb => ⟨hb, hl⟩, hi.chg hch2 hqq hqr, fun y => ?_, hnd2, ?_, fun b hb => hb.2, fun b hb => hb.1.elim (hBM b) fun e => .inl (Nat.le_trans hA.size e), ⟨fun e => e.1.elim hqp fun e => by omega, fun e => e.1.elim hqq fun e => by omega, fun e => e.1.elim hqr fun e => by omega, fun e => e.1.elim hq4 fun e => by omega⟩⟩, ?_⟩
    · rw [hmem, mem_mset hX.good.nd, hr]
      constructor
      · rintro (h | h)
        · exact .inl (.inr ⟨h, fun e => hxd (e ▸ List.mem_map.2 ⟨y, h, rfl⟩)⟩)
        · simp at h ⊢; grind
      · rintro ((h | h) | h)
        · exact .inr (by rw [h]; simp)
        · exact .inl h.1
        · simp at h ⊢; grind
    · have h1 := nodup_len (l' := m.map (·.1)) hnd2 fun k hk => by
        obtain ⟨y, hy, rfl⟩ := List.mem_map.1 hk
        refine List.mem_map.2 ⟨y, (hsm y).1 ((hmem y).2 ?_), rfl⟩
        rcases List.mem_append.1 hy with h | h
        · rcases (mem_mset hX.good.nd y).1 h with h | h
          · exact .inr (by rw [hr, h]; simp)
          · exact .inl h.1
        · exact .inr (by rw [hr]; simp at h ⊢; grind)
      simp only [List.length_map, List.length_append] at h1
      omega
    · simp only [(hi.chg hch2 hqq hqr).left, hleft, List.length_append]
      omega
end Go.Vc.SZ

/- Own text of this claim: ZSo7. -/
set_option maxRecDepth 20000
set_option maxHeartbeats 4000000
set_option linter.unusedVariables false
namespace Go.Vc.SZ
open Go Go.Vc Go.RowKit Go.Proofs Go.Vc.T Vcz

variable {w W W' W1 : World} {M N : Nat → Prop} {gs ds : List Nat} {g r gt p : Nat} {T n : Ar4} {m m0 m1 : List (Int × Cl)} {id : Int} {c : Cl} {B B' : Nat → Prop}

/-- The total is set. -/
theorem c34 (n : Ar4) (h : SoX W B g T m) (hl : m.length < 100000) :
    RetF Tryz.prog 34 #[.pointer (pt g), arT n] W B (fun v W' => if sm4 n then v = .int .i64 0 ∧ SoX W' (fun b => B b ∨ W.heap.size ≤ b) g n m else v = .int .i64 41 ∧ SoX W' (fun b => B b ∨ W.heap.size ≤ b) g T m) := by
  intro R hR
  refine Vczt.f34_calls _ _ _ _ _ W R ?_
  unfold Vczt.f34_vc
  have hA : AtF W B [] W := AtF.refl W _
  have h : SoX W (fun b => B b ∧ b < W.heap.size) g T m := h.mono fun _ hl hb => ⟨hb, hl⟩
  have hgW : g < W.heap.size := by
    obtain ⟨m0, r, gt, t, bs, k1, k2, k3, k4, k5⟩ := h.ex
    exact k3.glt
  refine opw_boxS hA fun p w2 hp hA _ hb hbox => ⟨_, rfl, ?_⟩
  have h := h.call hb
  have hp2 := (Array.getElem?_eq_some_iff.1 hbox).1
  refine fun n4 h4 => ⟨_, rd_f0 hbox (by kernel_rfl) nod, go_below_too hA fun w6 hA hb => ?_⟩
  have h := h.call hb
  have hbox := (hb.block hp2).trans hbox
  have hs6 := hb.size
  refine at_callb hA (c51 h) fun w8 hA hk hb => ⟨_, rfl, hk, brB (fun e => by cases e) fun _ => ?_⟩
  have h := h.call hb
  have hbox := (hb.block (Nat.lt_of_lt_of_le hp2 hs6)).trans hbox
  have hs8 := hb.size
  refine at_callb hA (c52 n _) fun w11 hA hk hb => ⟨_, rfl, hk, brND (fun hn => ?_) fun hn => ?_⟩
  · refine leafF hR hA ?_
    rw [if_neg hn]
    exact ⟨rfl, (h.call hb).mono fun _ _ e => .inl e.1⟩
  have h := h.call hb
  have hp8 : p < w8.heap.size := by omega
  have hbox := (hb.block hp8).trans hbox
  have hs11 := hb.size
  have hp11 : p < w11.heap.size := by omega
  obtain ⟨m0, r, gt, t, bs, k1, k2, k3, k4, k5⟩ := h.ex
  have hne := k3.ne
  have hBg : B g := (k5 g (.inl rfl)).1
  have hpr : p ≠ r := fun e => by
    obtain ⟨es, cl, h1, _⟩ := k3.mp.obj
    rw [← e, hbox] at h1
    cases h1
  have hr4 : r ≠ n4 := fun e => by
    have := (k5 r (.inr (.inl rfl))).2
    omega
  have hM : OwnM W B [] w11 r idV (clV T) m0 := k3.mp.base1 (.inr (k5 r (.inr (.inl rfl))).1) (by simp)
  have hgg : w11.heap[g]? = some (.cells (soC T r gt).toArray 85 (0, 0)) := k3.tb
  have hrl := hM.lt
  have hgl := k3.glt
  have hR2 : ∀ W', AtF W B [n4] W' → SoX W' (fun b => B b ∨ W.heap.size ≤ b) g n m → R (.returned (.int .i64 0)) W' := fun W' hA hX => leafF hR hA (by rw [if_pos hn]; exact ⟨rfl, hX⟩)
  refine ⟨_, rd_f0 hbox (by kernel_rfl) nod, _, rfl, _, k3.rdR nod, _, rd_f0 hbox (by kernel_rfl) nod, _, rd_f0 hbox (by kernel_rfl) nod, _, rd_f0 hbox (by kernel_rfl) nod, ?_⟩
  refine ⟨go_below_too hA fun w19 hA hb19 => ?_, ?_⟩
  · have hu := hA.under n4 (by simp)
    have hs19 := hb19.size
    have hM := hM.call hb19
    have hgg := (hb19.block hgl).trans hgg
    have hbox := (hb19.block hp11).trans hbox
    have hpg : ¬ p = g := by omega
    refine opw_makeMap (kf := idV) (vf := clV n) (t := 77) hA fun r2 w21 hr2 hA hk hbm hM2 => ⟨_, rfl, hk, ?_⟩
    have hM := hM.call hbm
    have hgg := (hbm.block (Array.getElem?_eq_some_iff.1 hgg).1).trans hgg
    have hbox := (hbm.block (Array.getElem?_eq_some_iff.1 hbox).1).trans hbox
    have hr2l := hM2.lt
    have hr2g : ¬ r2 = g := by omega
    have hp2l := (Array.getElem?_eq_some_iff.1 hbox).1
    refine ⟨rd_f0 hbox (by kernel_rfl) nod, rd_f0 hbox (by kernel_rfl) nod, rd_f0 hbox (by kernel_rfl) nod, ?_⟩
    refine at_callq hA c29 fun v w24 hA hk hbn ⟨gt2, hv, hgt2, hT⟩ => ?_
    subst hv
    have hM := hM.call hbn
    have hM2 := hM2.call hbn
    have hgg := (hbn.block (Array.getElem?_eq_some_iff.1 hgg).1).trans hgg
    have hbox := (hbn.block (Array.getElem?_eq_some_iff.1 hbox).1).trans hbox
    have hsn := hbn.size
    have hgt2l := hT.glt
    have hgt2g : ¬ gt2 = g := by omega
    refine ⟨_, rfl, hk, rd_f0 hbox (by kernel_rfl) nod, rd_f0 hbox (by kernel_rfl) nod, rd_f0 hbox (by kernel_rfl) nod, _, rfl, ?_⟩
    refine opw_storeF hA hgg (.inr hBg) (show g ∉ [n4] by simp; omega) (cells' := soC n r gt) (by kernel_rfl) fun w28 hA hk hc hgg => ⟨hk, ?_⟩
    have hM := hM.chg hc fun e => hne.1 e.symm
    have hM2 := hM2.chg hc hr2g
    have hT := hT.chg hc hgt2g (by simp)
    have hbox := (hc.block p (Array.getElem?_eq_some_iff.1 hbox).1 hpg).trans hbox
    refine ⟨rd_f0 hbox (by kernel_rfl) nod, rd_f0 hbox (by kernel_rfl) nod, _, rfl, ?_⟩
    refine opw_storeF hA hgg (.inr hBg) (show g ∉ [n4] by simp; omega) (cells' := soC n r2 gt) (by kernel_rfl) fun w31 hA hk hc hgg => ⟨hk, ?_⟩
    have hM := hM.chg hc fun e => hne.1 e.symm
    have hM2 := hM2.chg hc hr2g
    have hT := hT.chg hc hgt2g (by simp)
    have hbox := (hc.block p (Array.getElem?_eq_some_iff.1 hbox).1 hpg).trans hbox
    refine ⟨rd_f0 hbox (by kernel_rfl) nod, _, rfl, ?_⟩
    refine opw_storeF hA hgg (.inr hBg) (show g ∉ [n4] by simp; omega) (cells' := soC n r2 gt2) (by kernel_rfl) fun w34 hA hk hc hgg => ⟨hk, ?_⟩
    have hM := hM.chg hc fun e => hne.1 e.symm
    have hM2 := hM2.chg hc hr2g
    have hT := hT.chg hc hgt2g (by simp)
    have hbox := (hc.block p (Array.getElem?_eq_some_iff.1 hbox).1 hpg).trans hbox
    have hS : SoS w34 g r2 gt2 n [] .nil [] := ⟨hgg, hM2.base1 (.inr rfl) (by simp), hT⟩
    have hX : SoX w34 (fun b => b = g ∨ b = r2 ∨ b = gt2) g n [] := ⟨Good.nil hn, [], r2, gt2, .nil, [], fun _ => Iff.rfl, List.nodup_nil, hS, TrG.nil, by rintro b (e | e | e | e); exact .inl e; exact .inr (.inl e); exact .inr (.inr e); cases e⟩
    refine tot_loop hA hX hbox hM h.good k1 k2 hl ?_ ?_ ?_ ?_ ?_ hR2
    · rintro b (rfl | rfl | rfl)
      · exact hS.glt
      · exact hS.mp.lt
      · exact hS.tr.glt
    · rintro b (rfl | rfl | rfl)
      · exact .inr hBg
      · exact .inl (by omega)
      · exact .inl (by omega)
    · omega
    · omega
    · omega
  · refine go_below_too hA fun w19 hA hb19 => ?_
    have hu := hA.under n4 (by simp)
    have hs19 := hb19.size
    have hM := hM.call hb19
    have hgg := (hb19.block hgl).trans hgg
    have hbox := (hb19.block hp11).trans hbox
    have hpg : ¬ p = g := by omega
    refine at_callq hA c29 fun v w24 hA hk hbn ⟨gt2, hv, hgt2, hT⟩ => ?_
    subst hv
    have hM := hM.call hbn
    have hgg := (hbn.block (Array.getElem?_eq_some_iff.1 hgg).1).trans hgg
    have hbox := (hbn.block (Array.getElem?_eq_some_iff.1 hbox).1).trans hbox
    have hsn := hbn.size
    have hgt2l := hT.glt
    have hgt2g : ¬ gt2 = g := by omega
    refine ⟨_, rfl, hk, rd_f0 hbox (by kernel_rfl) nod, rd_f0 hbox (by kernel_rfl) nod, rd_f0 hbox (by kernel_rfl) nod, _, rfl, ?_, ?_⟩
    · refine opw_makeMap (kf := idV) (vf := clV n) (t := 77) hA fun r2 w21 hr2 hA hk hbm hM2 => ⟨_, rfl, hk, ?_⟩
      have hM := hM.call hbm
      have hgg := (hbm.block (Array.getElem?_eq_some_iff.1 hgg).1).trans hgg
      have hbox := (hbm.block (Array.getElem?_eq_some_iff.1 hbox).1).trans hbox
      have hr2l := hM2.lt
      have hr2g : ¬ r2 = g := by omega
      have hp2l := (Array.getElem?_eq_some_iff.1 hbox).1
      have hT := hT.call hbm
      refine ⟨rd_f0 hbox (by kernel_rfl) nod, rd_f0 hbox (by kernel_rfl) nod, rd_f0 hbox (by kernel_rfl) nod, ?_⟩
      refine opw_storeF hA hgg (.inr hBg) (show g ∉ [n4] by simp; omega) (cells' := soC n r gt) (by kernel_rfl) fun w28 hA hk hc hgg => ⟨hk, ?_⟩
      have hM := hM.chg hc fun e => hne.1 e.symm
      have hM2 := hM2.chg hc hr2g
      have hT := hT.chg hc hgt2g (by simp)
      have hbox := (hc.block p (Array.getElem?_eq_some_iff.1 hbox).1 hpg).trans hbox
      refine ⟨rd_f0 hbox (by kernel_rfl) nod, rd_f0 hbox (by kernel_rfl) nod, _, rfl, ?_⟩
      refine opw_storeF hA hgg (.inr hBg) (show g ∉ [n4] by simp; omega) (cells' := soC n r2 gt) (by kernel_rfl) fun w31 hA hk hc hgg => ⟨hk, ?_⟩
      have hM := hM.chg hc fun e => hne.1 e.symm
      have hM2 := hM2.chg hc hr2g
      have hT := hT.chg hc hgt2g (by simp)
      have hbox := (hc.block p (Array.getElem?_eq_some_iff.1 hbox).1 hpg).trans hbox
      refine ⟨rd_f0 hbox (by kernel_rfl) nod, _, rfl, ?_⟩
      refine opw_storeF hA hgg (.inr hBg) (show g ∉ [n4] by simp; omega) (cells' := soC n r2 gt2) (by kernel_rfl) fun w34 hA hk hc hgg => ⟨hk, ?_⟩
      have hM := hM.chg hc fun e => hne.1 e.symm
      have hM2 := hM2.chg hc hr2g
      have hT := hT.chg hc hgt2g (by simp)
      have hbox := (hc.block p (Array.getElem?_eq_some_iff.1 hbox).1 hpg).trans hbox
      have hS : SoS w34 g r2 gt2 n [] .nil [] := ⟨hgg, hM2.base1 (.inr rfl) (by simp), hT⟩
      have hX : SoX w34 (fun b => b = g ∨ b = r2 ∨ b = gt2) g n [] := ⟨Good.nil hn, [], r2, gt2, .nil, [], fun _ => Iff.rfl, List.nodup_nil, hS, TrG.nil, by rintro b (e | e | e | e); exact .inl e; exact .inr (.inl e); exact .inr (.inr e); cases e⟩
      refine tot_loop hA hX hbox hM h.good k1 k2 hl ?_ ?_ ?_ ?_ ?_ hR2
      · rintro b (rfl | rfl | rfl)
        · exact hS.glt
        · exact hS.mp.lt
        · exact hS.tr.glt
      · rintro b (rfl | rfl | rfl)
        · exact .inr hBg
        · exact .inl (by omega)
        · exact .inl (by omega)
      · omega
      · omega
      · omega
    · refine opw_storeF hA hgg (.inr hBg) (show g ∉ [n4] by simp; omega) (cells' := soC n r gt) (by kernel_rfl) fun w28 hA hk hc hgg => ⟨hk, ?_⟩
      have hM := hM.chg hc fun e => hne.1 e.symm
      have hT := hT.chg hc hgt2g (by simp)
      have hbox := (hc.block p (Array.getElem?_eq_some_iff.1 hbox).1 hpg).trans hbox
      have hs28 := hc.size
      refine ⟨rd_f0 hbox (by kernel_rfl) nod, rd_f0 hbox (by kernel_rfl) nod, ?_⟩
      refine opw_makeMap (kf := idV) (vf := clV n) (t := 77) hA fun r2 w21 hr2 hA hk hbm hM2 => ⟨_, rfl, hk, ?_⟩
      have hM := hM.call hbm
      have hgg := (hbm.block (Array.getElem?_eq_some_iff.1 hgg).1).trans hgg
      have hbox := (hbm.block (Array.getElem?_eq_some_iff.1 hbox).1).trans hbox
      have hr2l := hM2.lt
      have hr2g : ¬ r2 = g := by omega
      have hp2l := (Array.getElem?_eq_some_iff.1 hbox).1
      have hT := hT.call hbm
      refine ⟨rd_f0 hbox (by kernel_rfl) nod, rd_f0 hbox (by kernel_rfl) nod, _, rfl, ?_⟩
      refine opw_storeF hA hgg (.inr hBg) (show g ∉ [n4] by simp; omega) (cells' := soC n r2 gt) (by kernel_rfl) fun w31 hA hk hc hgg => ⟨hk, ?_⟩
      have hM := hM.chg hc fun e => hne.1 e.symm
      have hM2 := hM2.chg hc hr2g
      have hT := hT.chg hc hgt2g (by simp)
      have hbox := (hc.block p (Array.getElem?_eq_some_iff.1 hbox).1 hpg).trans hbox
      refine ⟨rd_f0 hbox (by kernel_rfl) nod, _, rfl, ?_⟩
      refine opw_storeF hA hgg (.inr hBg) (show g ∉ [n4] by simp; omega) (cells' := soC n r2 gt2) (by kernel_rfl) fun w34 hA hk hc hgg => ⟨hk, ?_⟩
      have hM := hM.chg hc fun e => hne.1 e.symm
      have hM2 := hM2.chg hc hr2g
      have hT := hT.chg hc hgt2g (by simp)
      have hbox := (hc.block p (Array.getElem?_eq_some_iff.1 hbox).1 hpg).trans hbox
      have hS : SoS w34 g r2 gt2 n [] .nil [] := ⟨hgg, hM2.base1 (.inr rfl) (by simp), hT⟩
      have hX : SoX w34 (fun b => b = g ∨ b = r2 ∨ b = gt2) g n [] := ⟨Good.nil hn, [], r2, gt2, .nil, [], fun _ => Iff.rfl, List.nodup_nil, hS, TrG.nil, by rintro b (e | e | e | e); exact .inl e; exact .inr (.inl e); exact .inr (.inr e); cases e⟩
      refine tot_loop hA hX hbox hM h.good k1 k2 hl ?_ ?_ ?_ ?_ ?_ hR2
      · rintro b (rfl | rfl | rfl)
        · exact hS.glt
        · exact hS.mp.lt
        · exact hS.tr.glt
      · rintro b (rfl | rfl | rfl)
        · exact .inr hBg
        · exact .inl (by omega)
        · exact .inl (by omega)
      · omega
      · omega
      · omega
end Go.Vc.SZ

/- What the sorter tells: Order, First, Share, Sum, Long; New; Do. -/
set_option maxRecDepth 20000
set_option linter.unusedVariables false
set_option maxHeartbeats 1000000
namespace Go.Vc.SZ
open Go Go.Vc Go.RowKit Go.Proofs Go.Vc.T Vcz

variable {w W W' W1 : World} {M N : Nat → Prop} {gs ds : List Nat} {g r gt p : Nat} {T n : Ar4} {m m0 m1 : List (Int × Cl)} {t : Tr Pl} {id : Int} {c : Cl} {B B' : Nat → Prop}

theorem reads_lenM {κ α : Type} {w0 : World} {M0 : Nat → Prop} {gs0 : List Nat} {kf : κ → Value} {vf : α → Value} {m : List (κ × α)} {t kt et ty : TypeId} (ht : Tryz.prog.underlying t = some (.map kt et)) (h : OwnM w0 M0 gs0 W r kf vf m) (hd : ∀ d ∈ ds, d ≠ r) : Reads Tryz.prog ds (Builtin.len_ #[t] ty #[.map (some r)]) W (.int .i64 (m.length : Int)) := by
  intro W' hW'
  obtain ⟨es, clock, hr, he, _⟩ := h.obj
  have hb : W'.heap[r]? = some (.map es clock) := by
    have : W'.heap[r]? = W.heap[r]? := by
      cases ds with
      | nil => exact Bel.block hW' h.lt
      | cons d s => exact Evo.block hW' _ h.lt (fun hm => hd _ hm rfl)
    rw [this, hr]
  have hrun : (Builtin.len_ #[t] ty #[.map (some r)]).run Tryz.prog W' = .ok (goInt es.size) W' := by
    unfold Builtin.len_
    simp only [List.getElem?_toArray, List.getElem?_cons_zero]
    rw [run_bind_ok (run_underlying ht W')]
    simp only
    rw [run_bind_ok (run_getObj_m hb)]
    rfl
  rw [hrun]
  have hl : es.size = m.length := by
    have := congrArg List.length he
    simpa using this
  rw [hl]
  rfl
/-- The order of those that are awake. -/
def IsOrd (T : Ar4) (m : List (Int × Cl)) (l : List Pl) : Prop := Tr.Srt cfP l ∧ ∀ y, y ∈ l ↔ ∃ x ∈ m, x.2.aw = true ∧ y = plc T x
noncomputable def ordL (T : Ar4) (m : List (Int × Cl)) : List Pl := Classical.epsilon (IsOrd T m)
theorem ord_of (hg : Good T m) {l : List Pl} (h : IsOrd T m l) : ordL T m = l := by
  have h2 : IsOrd T m (ordL T m) := Classical.epsilon_spec ⟨l, h⟩
  refine Tr.srt_extOn hg.ps.ord (fun y hy => ?_) h2.1 h.1 fun y => (h2.2 y).trans (h.2 y).symm
  obtain ⟨x, hx, _, e⟩ := (h2.2 y).1 hy
  exact ⟨x, hx, e⟩
theorem TrG.ordL (h : TrG T m0 t) (hg : Good T m) (hs : ∀ x, x ∈ m0 ↔ x ∈ m) : ordL T m = t.toL := ord_of hg ⟨h.so, fun y => by
  rw [h.me]
  constructor
  · rintro ⟨x, hx, r⟩; exact ⟨x, (hs x).1 hx, r⟩
  · rintro ⟨x, hx, r⟩; exact ⟨x, (hs x).2 hx, r⟩⟩
theorem SoX.is (h : SoX W B g T m) : IsOrd T m (ordL T m) ∧ (ordL T m).length ≤ m.length := by
  obtain ⟨m0, r, gt, t, bs, k1, k2, k3, k4, k5⟩ := h.ex
  have e := k4.ordL h.good k1
  rw [e]
  refine ⟨⟨k4.so, fun y => ?_⟩, ?_⟩
  · rw [k4.me]
    constructor
    · rintro ⟨x, hx, r⟩; exact ⟨x, (k1 x).1 hx, r⟩
    · rintro ⟨x, hx, r⟩; exact ⟨x, (k1 x).2 hx, r⟩
  · rw [← Tr.size_len, ← same_len k1 k2 h.good.nd]
    exact k4.len (same_good h.good k1 k2)
abbrev i1E (x : Int) : List Value := [.int .i64 x]

theorem c45 (h : SoX W B g T m) (hl : m.length < 100000) : RetL Tryz.prog 45 #[.pointer (pt g)] W 2 1 i1E ((ordL T m).map Pl.d) := by
  intro R hR
  refine f45_calls _ W R ?_
  unfold f45_vc
  have hA := At.refl W
  refine at_callb hA (c51 h) fun w2 hA _ hb => ⟨_, rfl, brB (fun _ => ?_) (fun e => by cases e)⟩
  have h := h.call hb
  obtain ⟨m0, r, gt, t, bs, k1, k2, k3, k4, k5⟩ := h.ex
  have hlen := k4.len (same_good h.good k1 k2)
  rw [same_len k1 k2 h.good.nd] at hlen
  rw [k4.ordL h.good k1] at hR
  refine ⟨_, rfl, _, k3.rdG nod, ?_⟩
  refine at_calll hA (c63 k3.tr (by omega)) (fun _ _ => rfl) fun a8 c10 w7 hA _ hb7 ho8 hsl => ⟨_, _, _, rfl, ?_⟩
  have hll : t.toL.length = t.size := (Tr.size_len t).symm
  refine ⟨fun s W' => At W [] W' ∧ ∃ i : Nat, s.2.1 = i ∧ i ≤ t.toL.length ∧ OwnL W [] W' 2 1 i1E (.slice s.1.1 s.1.2.1 s.1.2.2) ((t.toL.take i).map Pl.d) ∧ s.1.2.1 = i ∧ SlE W' 4 plC t.toL a8 t.toL.length c10 ∧ (∀ k, (Value.slice s.1.1 s.1.2.1 s.1.2.2).ownBlock = some k → (Value.slice a8 t.toL.length c10).ownBlock ≠ some k) ∧ OwnL W [] W' 81 4 plC (.slice a8 t.toL.length c10) t.toL, fun s _ => t.toL.length - s.2.1.toNat, ⟨hA, 0, rfl, Nat.zero_le _, OwnL.nil, rfl, hsl, (fun k hk => by cases hk), ho8⟩, ?_⟩
  rintro a13 n14 n15 x16 w17 ⟨hA, i, hi, hile, ho, hn, hsl, hap, ho8⟩
  simp only at hi ho hn hap
  subst hi
  refine brD (fun hlt => ?_) fun hge => ?_
  · have hil : i < t.toL.length := by omega
    obtain ⟨ad, g1, el, _⟩ := elt_at (P := Tryz.prog) (k := .i64) (t := 123) hsl (List.getElem?_eq_getElem hil) (e := 81) (by kernel_rfl) (by kernel_rfl)
    refine ⟨ad, g1, _, _, _, _, el.agg 4 (by kernel_rfl) (by kernel_rfl) (by simp) no_ds, fun n23 h23 w24 he hu => ?_⟩
    have hb := he.bel (by simpa using h23)
    have hA24 : At W [n23] w24 := ⟨(hA.call hb).chg, hu⟩
    have ho24 : OwnL W [n23] w24 2 1 i1E (.slice a13 n14 n15) ((t.toL.take i).map Pl.d) := OwnF.base (ho.call hb) (fun k hk => ho.mine k hk) fun q hq e => by
      have := ho.lt q e
      rw [List.mem_singleton.1 hq] at this
      omega
    have hlen14 : n14 = ((t.toL.take i).map Pl.d).length := by simp; omega
    subst hlen14
    refine opw_push (e' := 2) (bytes := 8) hA24 ho24 (t.toL[i]).d (by kernel_rfl) (by kernel_rfl) rfl (fun _ _ => rfl) (by simp [Value.oneCell']) (by simp; omega) (by decide) fun a32 cq32 w31 hA31 ho31 hg31 hnew => ?_
    have htk : (t.toL.take i).map Pl.d ++ [(t.toL[i]).d] = (t.toL.take (i + 1)).map Pl.d := by
      rw [List.take_add_one, List.getElem?_eq_getElem hil, Option.toList_some, List.map_append]; rfl
    have hw : IntKind.i64.wrap ((i : Int) + 1) = ((i + 1 : Nat) : Int) := by rw [wrap_i64 (by omega) (by omega)]; omega
    rw [hw]
    have ho8' := ho8.call hb
    have hne8 : (Value.slice a8 t.toL.length c10).ownBlock = none ∨ (Value.slice a8 t.toL.length c10).ownBlock ≠ (Value.slice a13 ((t.toL.take i).map Pl.d).length n15).ownBlock := by
      cases h8 : (Value.slice a8 t.toL.length c10).ownBlock with
      | none => exact .inl rfl
      | some k => exact .inr fun e => hap k e.symm h8
    have ho8'' := ho8'.grown hg31 hne8
    refine ⟨⟨hA31.off, i + 1, rfl, hil, htk ▸ OwnF.base ho31 (fun k hk => ho31.mine k hk) (by simp), by simp; omega, ?_, fun k hk e => ?_, ho8''⟩, ?_⟩
    · obtain ⟨a', c', e', hs'⟩ := ho8''.slice fun _ _ => rfl
      cases e'
      exact hs'
    · rcases hnew with e2 | e2
      · rw [e2] at hk
        exact hap k hk e
      · have := e2 k hk
        have := ho8'.lt k e
        omega
    · simp only
      omega
  · have hie : i = t.toL.length := by omega
    subst hie
    rw [List.take_length] at ho
    exact leafl hR hA ho rfl
def fstV (l : List Pl) : Value := match l with
  | [] => .tuple #[.int .i64 0, .bool false]
  | x :: _ => .tuple #[.int .i64 x.d, .bool true]
noncomputable def shaV (T : Ar4) : Option Cl → Value
  | none => .tuple #[shV 0 0 0, .bool false]
  | some c => .tuple #[shV (domT T c.s).1 (domT T c.s).2 c.w, .bool true]
theorem c48 (h : SoX W B g T m) (id : Int) : Ret Tryz.prog 48 #[.pointer (pt g), .int .i64 id] W (shaV T (mget id m)) := by
  intro R hR
  refine f48_calls _ _ W R ?_
  unfold f48_vc
  have hA := At.refl W
  refine go_n hA fun n1 h1 => go_below_too hA fun w2 hA hb => at_callb hA (c55 (h.call hb) id) fun w4 hA hk _ => ?_
  cases hx : mget id m with
  | none =>
    rw [hx] at hR
    exact ⟨_, _, _, _, _, _, _, _, _, rfl, hk, go_n hA fun n14 h14 => go_evo hA (by simp; omega) fun w14 hA => leaf hR hA rfl⟩
  | some c =>
    rw [hx] at hR
    exact ⟨_, _, _, _, _, _, _, _, _, rfl, hk, go_n hA fun n14 h14 => go_evo hA (by simp; omega) fun w14 hA => leaf hR hA rfl⟩
def sumV : Option Cl → Value
  | none => .tuple #[arrV 0 0 0 0, .bool false]
  | some c => .tuple #[arT c.s, .bool true]
theorem c38 (h : SoX W B g T m) (id : Int) : Ret Tryz.prog 38 #[.pointer (pt g), .int .i64 id] W (sumV (mget id m)) := by
  intro R hR
  refine f38_calls _ _ W R ?_
  unfold f38_vc
  have hA := At.refl W
  refine go_n hA fun n1 h1 => go_below_too hA fun w2 hA hb => at_callb hA (c55 (h.call hb) id) fun w4 hA hk _ => ?_
  cases hx : mget id m with
  | none =>
    rw [hx] at hR
    exact ⟨_, _, _, _, _, _, _, _, _, rfl, hk, go_n hA fun n14 h14 => go_evo hA (by simp; omega) fun w14 hA => leaf hR hA rfl⟩
  | some c =>
    rw [hx] at hR
    exact ⟨_, _, _, _, _, _, _, _, _, rfl, hk, go_n hA fun n14 h14 => go_evo hA (by simp; omega) fun w14 hA => leaf hR hA rfl⟩
theorem c41 (h : SoX W B g T m) : Ret Tryz.prog 41 #[.pointer (pt g)] W (.int .i64 (m.length : Int)) := by
  intro R hR
  refine f41_calls _ W R ?_
  unfold f41_vc
  have hA := At.refl W
  refine at_callb hA (c51 h) fun w2 hA _ hb => ⟨_, rfl, brB (fun e => by cases e) (fun _ => ?_)⟩
  have h := h.call hb
  obtain ⟨m0, r, gt, t, bs, k1, k2, k3, k4, k5⟩ := h.ex
  refine ⟨_, rfl, _, k3.rdR nod, _, reads_lenM (kt := 2) (et := 115) (by kernel_rfl) k3.mp nod, leaf hR hA ?_⟩
  rw [same_len k1 k2 h.good.nd]
theorem sm0 : sm4 (0, 0, 0, 0) := by decide
theorem c10 (W : World) : RetQ Tryz.prog 10 #[] W (fun v W' => ∃ g, v = .pointer (pt g) ∧ SoX W' (fun b => W.heap.size ≤ b) g (0, 0, 0, 0) []) := by
  intro R hR
  refine f10_calls W R ?_
  unfold f10_vc
  have hA := At.refl W
  refine opw_makeMap (kf := idV) (vf := clV (0, 0, 0, 0)) (t := 77) hA fun r2 w2 hr2 hA _ hb hM => ⟨_, rfl, ?_⟩
  refine at_callq hA c29 fun v w5 hA _ hb5 ⟨gt, hv, hgt, hT⟩ => ?_
  subst hv
  have hM := hM.call hb5
  have h2 := hb.size
  refine ⟨_, rfl, opw_boxS hA fun g w8 hg hA _ hb8 hblk => ⟨_, rfl, leafq hR hA ⟨g, rfl, Good.nil sm0, [], r2, gt, .nil, [], fun _ => Iff.rfl, List.nodup_nil, ⟨hblk, (hM.call hb8).base1 (.inr rfl) (by simp), hT.call hb8⟩, TrG.nil, ?_⟩⟩⟩
  have h5 := hb5.size
  rintro b (e | e | e | e)
  · omega
  · omega
  · omega
  · cases e

/-- What is done: its kind, whose, a weight, sums. -/
abbrev Act := Int × Int × Int × Ar4
abbrev acV (a : Act) : Value := .agg #[.int .i64 a.1, .int .i64 a.2.1, .int .i64 a.2.2.1, .int .i64 a.2.2.2.1, .int .i64 a.2.2.2.2.1, .int .i64 a.2.2.2.2.2.1, .int .i64 a.2.2.2.2.2.2]
def doD (s : Ar4 × List (Int × Cl)) (a : Act) : (Ar4 × List (Int × Cl)) × Int :=
  if a.1 = 0 then (if sm4 a.2.2.2 then ((a.2.2.2, s.2), 0) else (s, 41))
  else if a.1 = 1 then ((s.1, (putD s.2 a.2.1 a.2.2.1).1), (putD s.2 a.2.1 a.2.2.1).2)
  else if a.1 = 2 then ((s.1, (dropD s.2 a.2.1).1), (dropD s.2 a.2.1).2)
  else if a.1 = 3 then ((s.1, (turnD s.2 a.2.1 (weighF a.2.2.1)).1), (turnD s.2 a.2.1 (weighF a.2.2.1)).2)
  else if a.1 = 4 then ((s.1, (turnD s.2 a.2.1 (wakeF true)).1), (turnD s.2 a.2.1 (wakeF true)).2)
  else if a.1 = 5 then ((s.1, (turnD s.2 a.2.1 (wakeF false)).1), (turnD s.2 a.2.1 (wakeF false)).2)
  else if a.1 = 6 then ((s.1, (turnD s.2 a.2.1 (giveF a.2.2.2)).1), (turnD s.2 a.2.1 (giveF a.2.2.2)).2)
  else ((s.1, (turnD s.2 a.2.1 (takeF a.2.2.2)).1), (turnD s.2 a.2.1 (takeF a.2.2.2)).2)
end Go.Vc.SZ

/- works, Same; how acts change the number of clients. -/
set_option maxRecDepth 20000
set_option maxHeartbeats 1000000
set_option linter.unusedVariables false
namespace Go.Vc.SZ
open Go Go.Vc Go.RowKit Go.Proofs Go.Vc.T Vcz

variable {w W W' W1 : World} {M N : Nat → Prop} {gs ds : List Nat} {g r gt p : Nat} {T n : Ar4} {m m0 m1 : List (Int × Cl)} {t : Tr Pl} {id : Int} {c : Cl} {B B' : Nat → Prop}

theorem turn_len (m : List (Int × Cl)) (id : Int) (f : Cl → Cl × Int) : (turnD m id f).1.length = m.length := by
  unfold turnD
  cases h : mget id m with
  | none => rfl
  | some c =>
    simp only
    split
    · rw [mset_length, h]; rfl
    · rfl
theorem doD_len (s : Ar4 × List (Int × Cl)) (a : Act) : (doD s a).1.2.length ≤ s.2.length + 1 := by
  unfold doD
  repeat' split
  all_goals simp only [turn_len]
  all_goals try omega
  · unfold putD
    split
    · simp only; omega
    · split
      · simp only; omega
      · simp only [mset_length]; split <;> omega
  · unfold dropD
    split
    · simp only; omega
    · simp only [mdel_length]; split <;> omega

theorem SoX.ap (h : SoX W B g T m) (hs : w.heap.size ≤ W.heap.size) (hB : ∀ b, B b → w.heap.size ≤ b) : SoX W (fun b => w.heap.size ≤ b ∧ b < W.heap.size) g T m := h.mono fun b hl hb => ⟨hB b hb, hl⟩
/-- Own sorters: all their blocks are new. -/
abbrev SoO (w W : World) (g : Nat) (T : Ar4) (m : List (Int × Cl)) : Prop := SoX W (fun b => w.heap.size ≤ b ∧ b < W.heap.size) g T m
theorem SoO.call (h : SoO w W g T m) (hb : Bel W W') : SoO w W' g T m := (SoX.call h hb).mono fun b hl hx => ⟨hx.1, hl⟩
theorem SoO.of (h : SoX W' (fun b => (w.heap.size ≤ b ∧ b < W.heap.size) ∨ W.heap.size ≤ b) g T m) (hs : w.heap.size ≤ W.heap.size) : SoO w W' g T m := h.mono fun b hl hx => ⟨hx.elim (fun e => e.1) fun e => Nat.le_trans hs e, hl⟩
theorem at_tn {f : FuncId} {args : Array Value} {q : List (Int × Cl) × Int} {K : Ending → World → Prop} (hA : At w [] W) (hc : RetF Tryz.prog f args W (fun b => w.heap.size ≤ b ∧ b < W.heap.size) (TnQ W (fun b => w.heap.size ≤ b ∧ b < W.heap.size) g T q)) 
    (hK : ∀ W', At w [] W' → SoO w W' g T q.1 → K (.returned (.int .i64 q.2)) W') : Calls Tryz.prog f args W K := by
  refine at_callF hA hc (fun b _ hb => .inl hb.1) (by simp) fun v w5 hA2 _ _ hq => ?_
  have hv := hq.1
  subst hv
  exact hK w5 hA2 (SoO.of hq.2 hA.size)

theorem dom10 (x : Int) (hx : 0 ≤ x ∧ x ≤ 1000) : domT (10, 0, 0, 0) (x, 0, 0, 0) = (x, 10) := by
  unfold domT dom
  rw [if_pos (by unfold sumR; simp only; omega)]
  simp [dstep]
abbrev cA : Cl := ⟨1, (4, 0, 0, 0), true⟩
abbrev cB : Cl := ⟨3, (9, 0, 0, 0), true⟩
theorem ordW : ordL (10, 0, 0, 0) [((1 : Int), cA), (2, cB)] = [⟨9, 10, 3, 2⟩, ⟨4, 10, 1, 1⟩] := by
  have hg : Good (10, 0, 0, 0) [((1 : Int), cA), (2, cB)] := ⟨by simp, by
    intro x hx
    simp at hx
    rcases hx with rfl | rfl
    · exact ⟨by decide, by decide, by decide⟩
    · exact ⟨by decide, by decide, by decide⟩, by decide⟩
  have p1 : plc (10, 0, 0, 0) ((1 : Int), cA) = ⟨4, 10, 1, 1⟩ := by unfold plc; rw [dom10 4 (by omega)]
  have p2 : plc (10, 0, 0, 0) ((2 : Int), cB) = ⟨9, 10, 3, 2⟩ := by unfold plc; rw [dom10 9 (by omega)]
  refine ord_of hg ⟨?_, fun y => ?_⟩
  · unfold Tr.Srt
    refine List.pairwise_cons.2 ⟨fun y hy => ?_, by simp⟩
    rw [List.mem_singleton.1 hy]
    have : sCmp 9 10 3 4 10 1 = -1 := by
      unfold sCmp cmpI
      rw [if_pos ⟨⟨⟨by omega, by omega⟩, by omega, by omega, by omega, by omega⟩, ⟨by omega, by omega⟩, by omega, by omega, by omega, by omega⟩]
      decide
    simp only [cfP, this]
    decide
  · constructor
    · intro hy
      simp at hy
      rcases hy with rfl | rfl
      · exact ⟨(2, cB), by simp, rfl, p2.symm⟩
      · exact ⟨(1, cA), by simp, rfl, p1.symm⟩
    · rintro ⟨x, hx, _, rfl⟩
      simp at hx
      rcases hx with rfl | rfl
      · rw [p1]; simp
      · rw [p2]; simp
end Go.Vc.SZ

/- The arguments of sorters' laws, read: acts, sums. -/
set_option maxRecDepth 20000
set_option linter.unusedVariables false
namespace Go.Vc.SZ
open Go Go.Vc Go.RowKit
abbrev iG : GT := .int .i64
abbrev a4G : GT := .st (.pair iG (.pair iG (.pair iG (.pair iG .unit))))
abbrev asG : GT := .st (.pair iG (.pair iG (.pair iG (.pair a4G .unit))))
theorem row_M {α β : Type} {w : World} {n : Nat} {R : α → List Value → Prop} {R' : β → List Value → Prop} {k : α → β} {l : List α} {a : Option Addr} {len c : Nat} (hs : SlR w n R l a len c) (hR : ∀ x cs, R x cs → R' (k x) cs) : SlR w n R' (l.map k) a len c := by
  refine ⟨by rw [List.length_map]; exact hs.1, hs.2.1, hs.2.2.1, hs.2.2.2.1, fun i y hy => ?_⟩
  rw [List.getElem?_map] at hy
  cases hx : l[i]? with
  | none => rw [hx] at hy; cases hy
  | some x =>
    rw [hx] at hy
    simp only [Option.map_some, Option.some.injEq] at hy
    subst hy
    obtain ⟨ad, cs, ha, hl, hcs, hr⟩ := hs.at_ hx
    exact ⟨ad, cs, ha, hl, hcs, hR _ _ hr⟩
abbrev A4A := Int × Int × Int × Int × Unit
def a4Of (x : A4A) : Ar4 := (x.1, x.2.1, x.2.2.1, x.2.2.2.1)
def acOf (x : Int × Int × Int × A4A × Unit) : Act := (x.1, x.2.1, x.2.2.1, a4Of x.2.2.2.1)
theorem as_R {w : World} {x : asG.T} {cs : List Value} (h : asG.R w x cs) : cs = [Value.int .i64 (acOf x).1, .int .i64 (acOf x).2.1, .int .i64 (acOf x).2.2.1, .int .i64 (acOf x).2.2.2.1, .int .i64 (acOf x).2.2.2.2.1, .int .i64 (acOf x).2.2.2.2.2.1, .int .i64 (acOf x).2.2.2.2.2.2] := by
  obtain ⟨cc1, cc2, rfl, ⟨rfl, _, _⟩, cc3, cc4, rfl, ⟨rfl, _, _⟩, cc5, cc6, rfl, ⟨rfl, _, _⟩, cc7, c10, rfl, hm, rfl⟩ := h
  obtain ⟨d1, d2, rfl, ⟨rfl, _, _⟩, d3, d4, rfl, ⟨rfl, _, _⟩, d5, d6, rfl, ⟨rfl, _, _⟩, d7, d8, rfl, ⟨rfl, _, _⟩, rfl⟩ := hm
  rfl
theorem acts_V {w : World} {l : (GT.sl asG).T} {v : Value} (h : GT.V w (.sl asG) l v) : ∃ L a n c, v = .slice a n c ∧ SlE w 7 (fun a : Act => [.int .i64 a.1, .int .i64 a.2.1, .int .i64 a.2.2.1, .int .i64 a.2.2.2.1, .int .i64 a.2.2.2.2.1, .int .i64 a.2.2.2.2.2.1, .int .i64 a.2.2.2.2.2.2]) L a n c := by
  obtain ⟨a, n, c, hv, hs⟩ := h
  simp at hv
  exact ⟨_, a, n, c, hv, row_M (k := acOf) hs fun _ _ h => as_R h⟩
theorem a4_V {w : World} {x : a4G.T} {v : Value} (h : GT.V w a4G x v) : v = arT (a4Of x) := by
  obtain ⟨cs, rfl, d1, d2, rfl, ⟨rfl, _, _⟩, d3, d4, rfl, ⟨rfl, _, _⟩, d5, d6, rfl, ⟨rfl, _, _⟩, d7, d8, rfl, ⟨rfl, _, _⟩, rfl⟩ := h
  rfl
end Go.Vc.SZ

/- Tiers, plainly: frameworks, in roles; what each role, and each framework, has. -/
set_option maxRecDepth 20000
set_option maxHeartbeats 1000000
set_option linter.unusedVariables false
namespace Go.Vc.SZ
open Go Go.Vc Go.RowKit Go.Proofs Go.Vc.T Vcz

structure Fr where
  fid : Int
  role : Int
  w : Int
  s : Ar4
  aw : Bool
def clF (f : Fr) : Cl := ⟨1, f.s, f.aw⟩
def fget (F : List Fr) (id : Int) : Option Fr := F.find? fun f => decide (f.fid = id)
def ownL (F : List Fr) (r : Int) : List (Int × Cl) := (F.filter fun f => decide (f.role = r)).map fun f => (f.fid, clF f)
/-- A sum over the frameworks of a role. -/
def agF (φ : Fr → Int) (r : Int) : List Fr → Int
  | [] => 0
  | f :: F => (if f.role = r then φ f else 0) + agF φ r F
def sumF (F : List Fr) (r : Int) : Ar4 := (agF (·.s.1) r F, agF (·.s.2.1) r F, agF (·.s.2.2.1) r F, agF (·.s.2.2.2) r F)
def one1 (f : Fr) : Int := if f.aw then 1 else 0
def cntF (F : List Fr) (r : Int) : Int := agF one1 r F
def isR (F : List Fr) (r : Int) : Bool := F.any fun f => decide (f.role = r)
def wF (F : List Fr) (r : Int) : Int := ((F.find? fun f => decide (f.role = r)).map (·.w)).getD 0
def rcl (F : List Fr) (r : Int) : Cl := ⟨wF F r, sumF F r, decide (0 < cntF F r)⟩
def rolesU : List Int := (List.range 32).map fun (i : Nat) => (i : Int) + 1
def allL (F : List Fr) : List (Int × Cl) := (rolesU.filter fun r => isR F r).map fun r => (r, rcl F r)
/-- Frameworks as they may be. -/
structure FOk (F : List Fr) : Prop where
  nd : (F.map (·.fid)).Nodup
  ok : ∀ f ∈ F, (1 ≤ f.role ∧ f.role ≤ 32) ∧ 1 ≤ f.w ∧ f.w ≤ 1000
  wt : ∀ f ∈ F, ∀ f' ∈ F, f.role = f'.role → f.w = f'.w
  nn : ∀ f ∈ F, 0 ≤ f.s.1 ∧ 0 ≤ f.s.2.1 ∧ 0 ≤ f.s.2.2.1 ∧ 0 ≤ f.s.2.2.2
  sm : ∀ r, sm4 (sumF F r)

theorem mem_roles {r : Int} : r ∈ rolesU ↔ 1 ≤ r ∧ r ≤ 32 := by
  unfold rolesU
  rw [List.mem_map]
  constructor
  · rintro ⟨i, hi, rfl⟩
    have := List.mem_range.1 hi
    omega
  · rintro ⟨h1, h2⟩
    exact ⟨(r - 1).toNat, List.mem_range.2 (by omega), by omega⟩
theorem roles_nd : rolesU.Nodup := by decide +kernel
theorem isR_iff {F : List Fr} {r : Int} : isR F r = true ↔ ∃ f ∈ F, f.role = r := by
  unfold isR
  rw [List.any_eq_true]
  simp only [decide_eq_true_eq]
theorem fget_some {F : List Fr} {id : Int} {f : Fr} (h : fget F id = some f) : f ∈ F ∧ f.fid = id := ⟨List.mem_of_find?_eq_some h, by simpa using List.find?_some h⟩
theorem fget_of {F : List Fr} (hn : (F.map (·.fid)).Nodup) {f : Fr} (hf : f ∈ F) : fget F f.fid = some f := by
  unfold fget
  induction F with
  | nil => cases hf
  | cons x F ih =>
    rw [List.map_cons, List.nodup_cons] at hn
    rw [List.find?_cons]
    rcases List.mem_cons.1 hf with rfl | hf
    · simp
    · have : x.fid ≠ f.fid := fun e => hn.1 (e ▸ List.mem_map.2 ⟨f, hf, rfl⟩)
      rw [show decide (x.fid = f.fid) = false by simp [this]]
      exact ih hn.2 hf
theorem fget_none {F : List Fr} {id : Int} : fget F id = none ↔ ∀ f ∈ F, f.fid ≠ id := by
  unfold fget
  rw [List.find?_eq_none]
  simp only [decide_eq_true_eq]
/-- Two lists that tell the same of each key have the same members. -/
theorem same_of_get {α : Type} {m m' : List (Int × α)} (hn : (m.map (·.1)).Nodup) (hn' : (m'.map (·.1)).Nodup) (h : ∀ k, mget k m = mget k m') : ∀ x, x ∈ m ↔ x ∈ m' := fun x => by
  constructor
  · intro hx
    exact mem_of_mget ((h x.1).symm.trans (mget_of_mem hn hx))
  · intro hx
    exact mem_of_mget ((h x.1).trans (mget_of_mem hn' hx))
theorem mget_map {α β : Type} [DecidableEq β] (k : β → Int) (v : β → α) : ∀ {l : List β}, (l.map k).Nodup → ∀ b ∈ l, mget (k b) (l.map fun b => (k b, v b)) = some (v b) := fun hn b hb => mget_of_mem (by rw [List.map_map]; exact hn) (List.mem_map.2 ⟨b, hb, rfl⟩)
theorem own_nd {F : List Fr} (hn : (F.map (·.fid)).Nodup) (r : Int) : ((ownL F r).map (·.1)).Nodup := by
  unfold ownL
  rw [List.map_map]
  exact hn.sublist (List.filter_sublist.map _)
theorem all_nd (F : List Fr) : ((allL F).map (·.1)).Nodup := by
  unfold allL
  rw [List.map_map]
  have : ((fun x : Int × Cl => x.1) ∘ fun r => (r, rcl F r)) = id := rfl
  rw [this, List.map_id]
  exact roles_nd.sublist List.filter_sublist
theorem own_get {F : List Fr} (hn : (F.map (·.fid)).Nodup) (r id : Int) : mget id (ownL F r) = (fget F id).bind fun f => if f.role = r then some (clF f) else none := by
  cases e : fget F id with
  | none =>
    rw [Option.bind_none, mget_none]
    intro hk
    obtain ⟨x, hx, rfl⟩ := List.mem_map.1 hk
    obtain ⟨f, hf, rfl⟩ := List.mem_map.1 hx
    exact fget_none.1 e f (List.mem_filter.1 hf).1 rfl
  | some f =>
    obtain ⟨hf, rfl⟩ := fget_some e
    rw [Option.bind_some]
    split
    · rename_i h
      exact mget_of_mem (own_nd hn r) (List.mem_map.2 ⟨f, List.mem_filter.2 ⟨hf, by simpa using h⟩, rfl⟩)
    · rename_i h
      rw [mget_none]
      intro hk
      obtain ⟨x, hx, he⟩ := List.mem_map.1 hk
      obtain ⟨f', hf', rfl⟩ := List.mem_map.1 hx
      have hf' := List.mem_filter.1 hf'
      have h2 := fget_of hn hf'.1
      simp only at he
      rw [he, e] at h2
      cases h2
      exact h (by simpa using hf'.2)
theorem all_get (F : List Fr) (r : Int) : mget r (allL F) = if (1 ≤ r ∧ r ≤ 32) ∧ isR F r = true then some (rcl F r) else none := by
  split
  · rename_i h
    exact mget_of_mem (all_nd F) (List.mem_map.2 ⟨r, List.mem_filter.2 ⟨mem_roles.2 h.1, h.2⟩, rfl⟩)
  · rename_i h
    rw [mget_none]
    intro hk
    obtain ⟨x, hx, he⟩ := List.mem_map.1 hk
    obtain ⟨r', hr', rfl⟩ := List.mem_map.1 hx
    simp only at he
    subst he
    have := List.mem_filter.1 hr'
    exact h ⟨mem_roles.1 this.1, this.2⟩
theorem own_len (F : List Fr) (r : Int) : (ownL F r).length ≤ F.length := by
  unfold ownL
  rw [List.length_map]
  exact List.length_filter_le ..
theorem all_len (F : List Fr) : (allL F).length ≤ 32 := by
  unfold allL
  rw [List.length_map]
  exact Nat.le_trans (List.length_filter_le ..) (by unfold rolesU; simp)

/-! ### Sums -/
theorem agF_le {φ : Fr → Int} {r : Int} : ∀ {F : List Fr}, (∀ f ∈ F, 0 ≤ φ f) → 0 ≤ agF φ r F ∧ ∀ f ∈ F, f.role = r → φ f ≤ agF φ r F
  | [], _ => ⟨Int.le_refl _, fun f hf => by cases hf⟩
  | x :: F, h => by
    obtain ⟨h1, h2⟩ := agF_le (φ := φ) (r := r) (F := F) fun f hf => h f (List.mem_cons_of_mem _ hf)
    have hx := h x (List.mem_cons_self ..)
    rw [agF]
    refine ⟨by split <;> omega, fun f hf hr => ?_⟩
    rcases List.mem_cons.1 hf with rfl | hf
    · rw [if_pos hr]; omega
    · have := h2 f hf hr
      split <;> omega
theorem agF_append (φ : Fr → Int) (r : Int) : ∀ (F G : List Fr), agF φ r (F ++ G) = agF φ r F + agF φ r G
  | [], G => by simp [agF]
  | x :: F, G => by rw [List.cons_append, agF, agF, agF_append φ r F G]; omega
/-- One framework turned. -/
def updF (F : List Fr) (id : Int) (h : Fr → Fr) : List Fr := F.map fun f => if f.fid = id then h f else f
def delF (F : List Fr) (id : Int) : List Fr := F.filter fun f => decide (f.fid ≠ id)
theorem upd_none {F : List Fr} {id : Int} (h : Fr → Fr) (hn : ∀ f ∈ F, f.fid ≠ id) : updF F id h = F := by
  unfold updF
  conv => rhs; rw [← List.map_id F]
  exact List.map_congr_left fun f hf => by rw [if_neg (hn f hf)]; rfl
theorem del_none {F : List Fr} {id : Int} (hn : ∀ f ∈ F, f.fid ≠ id) : delF F id = F := by
  unfold delF
  rw [List.filter_eq_self]
  intro f hf
  simpa using hn f hf
theorem agF_upd (φ : Fr → Int) {h : Fr → Fr} (hr : ∀ f, (h f).role = f.role) (r : Int) {id : Int} {f : Fr} : ∀ {F : List Fr}, (F.map (·.fid)).Nodup → fget F id = some f → agF φ r (updF F id h) = agF φ r F + (if f.role = r then φ (h f) - φ f else 0)
  | [], _, e => by cases e
  | x :: F, hn, e => by
    rw [List.map_cons, List.nodup_cons] at hn
    unfold fget at e
    rw [List.find?_cons] at e
    by_cases hx : x.fid = id
    · rw [show decide (x.fid = id) = true by simp [hx]] at e
      simp only [Option.some.injEq] at e
      subst e
      have : updF F id h = F := upd_none h fun f hf e => hn.1 (List.mem_map.2 ⟨f, hf, e.trans hx.symm⟩)
      have e2 : updF (x :: F) id h = h x :: updF F id h := by unfold updF; rw [List.map_cons, if_pos hx]
      rw [e2, this, agF, agF, hr]
      split <;> omega
    · rw [show decide (x.fid = id) = false by simp [hx]] at e
      have e2 : updF (x :: F) id h = x :: updF F id h := by unfold updF; rw [List.map_cons, if_neg hx]
      rw [e2, agF, agF, agF_upd φ hr r hn.2 e]
      omega
theorem agF_del (φ : Fr → Int) (r : Int) {id : Int} {f : Fr} : ∀ {F : List Fr}, (F.map (·.fid)).Nodup → fget F id = some f → agF φ r (delF F id) = agF φ r F - (if f.role = r then φ f else 0)
  | [], _, e => by cases e
  | x :: F, hn, e => by
    rw [List.map_cons, List.nodup_cons] at hn
    unfold fget at e
    rw [List.find?_cons] at e
    by_cases hx : x.fid = id
    · rw [show decide (x.fid = id) = true by simp [hx]] at e
      simp only [Option.some.injEq] at e
      subst e
      have : delF F id = F := del_none fun f hf e => hn.1 (List.mem_map.2 ⟨f, hf, e.trans hx.symm⟩)
      have e2 : delF (x :: F) id = delF F id := by unfold delF; rw [List.filter_cons, if_neg (by simp [hx])]
      rw [e2, this, agF]
      omega
    · rw [show decide (x.fid = id) = false by simp [hx]] at e
      have e2 : delF (x :: F) id = x :: delF F id := by unfold delF; rw [List.filter_cons, if_pos (by simp [hx])]
      rw [e2, agF, agF, agF_del φ r hn.2 e]
      omega
theorem fget_upd {F : List Fr} {id : Int} {h : Fr → Fr} (hi : ∀ f, (h f).fid = f.fid) (k : Int) : fget (updF F id h) k = (fget F k).map fun f => if f.fid = id then h f else f := by
  unfold fget updF
  rw [List.find?_map]
  congr 1
  refine congrArg (fun p => F.find? p) (funext fun f => ?_)
  simp only [Function.comp]
  split
  · rw [hi]
  · rfl
theorem fget_del {F : List Fr} {id : Int} (k : Int) : fget (delF F id) k = if k = id then none else fget F k := by
  unfold fget delF
  rw [List.find?_filter]
  split
  · rename_i h
    subst h
    rw [List.find?_eq_none]
    intro f _
    simp
  · rename_i h
    refine congrArg (fun p => F.find? p) (funext fun f => ?_)
    by_cases e : f.fid = k
    · simp [e, h]
    · simp [e]
theorem fget_append {F : List Fr} {f : Fr} (k : Int) : fget (F ++ [f]) k = (fget F k).or (if f.fid = k then some f else none) := by
  unfold fget
  rw [List.find?_append]
  congr 1
  rw [List.find?_cons, List.find?_nil]
  by_cases h : f.fid = k
  · rw [if_pos h, show decide (f.fid = k) = true by simp [h]]
  · rw [if_neg h, show decide (f.fid = k) = false by simp [h]]
end Go.Vc.SZ

/- Tiers in memory: a sorter of roles, one for each role, and two maps. -/
set_option maxRecDepth 20000
set_option maxHeartbeats 1000000
set_option linter.unusedVariables false
namespace Go.Vc.SZ
open Go Go.Vc Go.RowKit Go.Proofs Go.Vc.T Vcz

structure TiP where
  ga : Nat
  rr : Nat
  rf : Nat
  Ba : Nat → Prop
  Bo : Int → Nat → Prop
abbrev MO := Int → List (Int × Cl)
abbrev MR := List (Int × (Nat × Int))
abbrev MF := List (Int × (Int × Bool))
variable {w W W' W1 : World} {M N B B0 B' : Nat → Prop} {gs ds : List Nat} {g : Nat} {p : TiP} {T Tg Ta n : Ar4} {To : Int → Ar4} {ma m : List (Int × Cl)} {mo : MO} {mr mr' : MR} {mf mf' : MF} {id r : Int}

abbrev vR (x : Nat × Int) : Value := .agg #[.pointer (pt x.1), .int .i64 x.2]
abbrev vF (x : Int × Bool) : Value := .agg #[.int .i64 x.1, .bool x.2]
abbrev tiC (T : Ar4) (p : TiP) : List Value := [.int .i64 T.1, .int .i64 T.2.1, .int .i64 T.2.2.1, .int .i64 T.2.2.2, .pointer (pt p.ga), .map (some p.rr), .map (some p.rf)]
abbrev anyB : Nat → Prop := fun _ => True
structure Ti (W : World) (B : Nat → Prop) (g : Nat) (p : TiP) (Tg Ta : Ar4) (To : Int → Ar4) (ma : List (Int × Cl)) (mo : MO) (mr : MR) (mf : MF) : Prop where
  tb : W.heap[g]? = some (.cells (tiC Tg p).toArray 45 (0, 0))
  all : SoX W p.Ba p.ga Ta ma
  rm : OwnM W anyB [] W p.rr (Value.int .i64) vR mr
  fm : OwnM W anyB [] W p.rf (Value.int .i64) vF mf
  nr : (mr.map (·.1)).Nodup
  nf : (mf.map (·.1)).Nodup
  own : ∀ r x, mget r mr = some x → SoX W (p.Bo r) x.1 (To r) (mo r)
  bg : B g ∧ B p.rr ∧ B p.rf
  rrf : p.rr ≠ p.rf
  ba : ∀ b, p.Ba b → B b ∧ ¬ (b = g ∨ b = p.rr ∨ b = p.rf)
  bo : ∀ r b, p.Bo r b → B b ∧ ¬ (b = g ∨ b = p.rr ∨ b = p.rf) ∧ ¬ p.Ba b
  oo : ∀ r r' b, p.Bo r b → p.Bo r' b → r = r'
  bd : ∀ b, B b → b < W.heap.size
theorem _root_.Go.Vc.OwnM.re0 {κ α : Type} {w : World} {M : Nat → Prop} {gs : List Nat} {r : Nat} {kf : κ → Value} {vf : α → Value} {m : List (κ × α)} (h : OwnM w M gs W r kf vf m) (hc : W'.heap[r]? = W.heap[r]?) : OwnM W' anyB [] W' r kf vf m := by
  obtain ⟨es, cl, h1, h2⟩ := h.obj
  exact ⟨.inr trivial, (fun e => by cases e), es, cl, hc.trans h1, h2⟩
theorem Ti.gr (h : Ti W B g p Tg Ta To ma mo mr mf) : g ≠ p.rr := by
  obtain ⟨es, cl, h1, _⟩ := h.rm.obj
  exact cells_map h.tb h1
theorem Ti.gf (h : Ti W B g p Tg Ta To ma mo mr mf) : g ≠ p.rf := by
  obtain ⟨es, cl, h1, _⟩ := h.fm.obj
  exact cells_map h.tb h1
theorem Ti.far (h : Ti W B g p Tg Ta To ma mo mr mf) {b : Nat} (hb : W.heap.size ≤ b) : ¬ (b = g ∨ b = p.rr ∨ b = p.rf) := by
  rintro (e | e | e) <;> subst e
  · have := h.bd _ h.bg.1; omega
  · have := h.bd _ h.bg.2.1; omega
  · have := h.bd _ h.bg.2.2; omega
theorem Ti.chg (h : Ti W B g p Tg Ta To ma mo mr mf) (hc : Chg N W W') (hn : ∀ b, B b → ¬ N b) : Ti W' B g p Tg Ta To ma mo mr mf := by
  have k : ∀ b, B b → W'.heap[b]? = W.heap[b]? := fun b hb => hc.block b (h.bd b hb) (hn b hb)
  exact ⟨(k g h.bg.1).trans h.tb, h.all.chg hc fun b hb _ => hn b (h.ba b hb).1, h.rm.re0 (k _ h.bg.2.1), h.fm.re0 (k _ h.bg.2.2), h.nr, h.nf, fun r x hx => (h.own r x hx).chg hc fun b hb _ => hn b (h.bo r b hb).1, h.bg, h.rrf, h.ba, h.bo, h.oo, fun b hb => Nat.lt_of_lt_of_le (h.bd b hb) hc.size⟩
theorem Ti.call (h : Ti W B g p Tg Ta To ma mo mr mf) (hb : Bel W W') : Ti W' B g p Tg Ta To ma mo mr mf := h.chg (N := noB) (Chg.of_below hb) fun _ _ e => e
theorem Ti.evo (h : Ti W B g p Tg Ta To ma mo mr mf) (he : Evo ds W W') (hd : ∀ d ∈ ds, ¬ B d) : Ti W' B g p Tg Ta To ma mo mr mf := h.chg (Chg.of_evo he) fun b hb hm => hd b hm hb
/-- Blocks, with those that are new. -/
abbrev upB (B : Nat → Prop) (W W' : World) : Nat → Prop := fun b => (B b ∨ W.heap.size ≤ b) ∧ b < W'.heap.size
theorem Ti.sAll {m' : List (Int × Cl)} {T' : Ar4} (h : Ti W B g p Tg Ta To ma mo mr mf) (hc : Chg p.Ba W W') (hs : SoX W' (fun b => p.Ba b ∨ W.heap.size ≤ b) p.ga T' m') : Ti W' (upB B W W') g { p with Ba := upB p.Ba W W' } Tg T' To m' mo mr mf := by
  have lt : ∀ b, B b → b < W'.heap.size := fun b hb => Nat.lt_of_lt_of_le (h.bd b hb) hc.size
  have k : ∀ b, B b → ¬ p.Ba b → W'.heap[b]? = W.heap[b]? := fun b hb hn => hc.block b (h.bd b hb) hn
  have na : ∀ b, (b = g ∨ b = p.rr ∨ b = p.rf) → ¬ p.Ba b := fun b hb hx => (h.ba b hx).2 hb
  refine ⟨(k g h.bg.1 (na _ (.inl rfl))).trans h.tb, hs.mono fun b hl hb => ⟨hb, hl⟩, h.rm.re0 (k _ h.bg.2.1 (na _ (.inr (.inl rfl)))), h.fm.re0 (k _ h.bg.2.2 (na _ (.inr (.inr rfl)))), h.nr, h.nf, fun r x hx => (h.own r x hx).chg hc fun b hb _ => (h.bo r b hb).2.2, ⟨⟨.inl h.bg.1, lt _ h.bg.1⟩, ⟨.inl h.bg.2.1, lt _ h.bg.2.1⟩, .inl h.bg.2.2, lt _ h.bg.2.2⟩, h.rrf, ?_, ?_, h.oo, fun b hb => hb.2⟩
  · rintro b ⟨hb | hb, hl⟩
    · exact ⟨⟨.inl (h.ba b hb).1, hl⟩, (h.ba b hb).2⟩
    · exact ⟨⟨.inr hb, hl⟩, h.far hb⟩
  · intro r b hb
    have hb' := h.bo r b hb
    refine ⟨⟨.inl hb'.1, lt _ hb'.1⟩, hb'.2.1, ?_⟩
    rintro ⟨e | e, _⟩
    · exact hb'.2.2 e
    · have := h.bd _ hb'.1; omega
theorem Ti.sOwn {x : Nat × Int} {m' : List (Int × Cl)} {T' : Ar4} (h : Ti W B g p Tg Ta To ma mo mr mf) (hx : mget r mr = some x) (hc : Chg (p.Bo r) W W') (hs : SoX W' (fun b => p.Bo r b ∨ W.heap.size ≤ b) x.1 T' m') :
    Ti W' (upB B W W') g { p with Bo := fun r' => if r' = r then upB (p.Bo r) W W' else p.Bo r' } Tg Ta (fun r' => if r' = r then T' else To r') ma (fun r' => if r' = r then m' else mo r') mr mf := by
  have lt : ∀ b, B b → b < W'.heap.size := fun b hb => Nat.lt_of_lt_of_le (h.bd b hb) hc.size
  have k : ∀ b, B b → ¬ p.Bo r b → W'.heap[b]? = W.heap[b]? := fun b hb hn => hc.block b (h.bd b hb) hn
  have na : ∀ b, (b = g ∨ b = p.rr ∨ b = p.rf) → ¬ p.Bo r b := fun b hb hx => (h.bo r b hx).2.1 hb
  refine ⟨(k g h.bg.1 (na _ (.inl rfl))).trans h.tb, h.all.chg hc fun b hb _ hx => (h.bo r b hx).2.2 hb, h.rm.re0 (k _ h.bg.2.1 (na _ (.inr (.inl rfl)))), h.fm.re0 (k _ h.bg.2.2 (na _ (.inr (.inr rfl)))), h.nr, h.nf, fun r' y hy => ?_, ⟨⟨.inl h.bg.1, lt _ h.bg.1⟩, ⟨.inl h.bg.2.1, lt _ h.bg.2.1⟩, .inl h.bg.2.2, lt _ h.bg.2.2⟩, h.rrf, ?_, ?_, ?_, fun b hb => hb.2⟩
  · by_cases e : r' = r
    · subst e
      rw [hx] at hy
      cases hy
      simp only [if_true]
      exact hs.mono fun b hl hb => ⟨hb, hl⟩
    · simp only [if_neg e]
      exact (h.own r' y hy).chg hc fun b hb _ hx => e (h.oo r' r b hb hx)
  · intro b hb
    exact ⟨⟨.inl (h.ba b hb).1, lt _ (h.ba b hb).1⟩, (h.ba b hb).2⟩
  · intro r' b hb
    have old : p.Bo r' b → _ := fun hb => by
      have hb' := h.bo r' b hb
      exact (⟨⟨.inl hb'.1, lt _ hb'.1⟩, hb'.2.1, hb'.2.2⟩ : upB B W W' b ∧ ¬ (b = g ∨ b = p.rr ∨ b = p.rf) ∧ ¬ p.Ba b)
    simp only at hb
    split at hb
    · rename_i e
      subst e
      rcases hb with ⟨hb | hb, hl⟩
      · exact old hb
      · refine ⟨⟨.inr hb, hl⟩, h.far hb, fun e => ?_⟩
        have := h.bd _ (h.ba _ e).1; omega
    · exact old hb
  · intro r1 r2 b h1 h2
    simp only at h1 h2
    split at h1 <;> split at h2
    · rename_i e1 e2; rw [e1, e2]
    · rename_i e1 e2
      rcases h1 with ⟨h1 | h1, _⟩
      · exact e1.trans (h.oo _ _ b h1 h2)
      · have := h.bd _ (h.bo _ _ h2).1; omega
    · rename_i e1 e2
      rcases h2 with ⟨h2 | h2, _⟩
      · exact (h.oo _ _ b h1 h2).trans e2.symm
      · have := h.bd _ (h.bo _ _ h1).1; omega
    · exact h.oo _ _ b h1 h2
/-- A new sorter, for a role that has none. -/
theorem Ti.sNew {gr : Nat} {m' : List (Int × Cl)} {T' : Ar4} (h : Ti W B g p Tg Ta To ma mo mr mf) (hx : mget r mr = none) (hc : Bel W W') (hs : SoX W' (fun b => W.heap.size ≤ b) gr T' m') :
    Ti W' (upB B W W') g { p with Bo := fun r' => if r' = r then (fun b => W.heap.size ≤ b ∧ b < W'.heap.size) else p.Bo r' } Tg Ta (fun r' => if r' = r then T' else To r') ma (fun r' => if r' = r then m' else mo r') mr mf ∧ SoX W' (fun b => W.heap.size ≤ b ∧ b < W'.heap.size) gr T' m' := by
  have lt : ∀ b, B b → b < W'.heap.size := fun b hb => Nat.lt_of_lt_of_le (h.bd b hb) hc.size
  have h1 := h.call hc
  refine ⟨⟨h1.tb, h1.all, h1.rm, h1.fm, h.nr, h.nf, fun r' y hy => ?_, ⟨⟨.inl h.bg.1, lt _ h.bg.1⟩, ⟨.inl h.bg.2.1, lt _ h.bg.2.1⟩, .inl h.bg.2.2, lt _ h.bg.2.2⟩, h.rrf, ?_, ?_, ?_, fun b hb => hb.2⟩, hs.mono fun b hl hb => ⟨hb, hl⟩⟩
  · have e : r' ≠ r := fun e => by rw [e, hx] at hy; cases hy
    simp only [if_neg e]
    exact h1.own r' y hy
  · intro b hb
    exact ⟨⟨.inl (h.ba b hb).1, lt _ (h.ba b hb).1⟩, (h.ba b hb).2⟩
  · intro r' b hb
    simp only at hb
    split at hb
    · refine ⟨⟨.inr hb.1, hb.2⟩, h.far hb.1, fun e => ?_⟩
      have := h.bd _ (h.ba _ e).1; omega
    · have hb' := h.bo r' b hb
      exact ⟨⟨.inl hb'.1, lt _ hb'.1⟩, hb'.2.1, hb'.2.2⟩
  · intro r1 r2 b h1 h2
    simp only at h1 h2
    split at h1 <;> split at h2
    · rename_i e1 e2; rw [e1, e2]
    · have := h.bd _ (h.bo _ _ h2).1; omega
    · have := h.bd _ (h.bo _ _ h1).1; omega
    · exact h.oo _ _ b h1 h2
/-- The map of roles is written. -/
theorem Ti.sR {w0 : World} {M0 : Nat → Prop} {gs0 : List Nat} (h : Ti W B g p Tg Ta To ma mo mr mf) (hc : Chg (fun b => b = p.rr) W W') (ho : OwnM w0 M0 gs0 W' p.rr (Value.int .i64) vR mr') (hn : (mr'.map (·.1)).Nodup) (hw : ∀ r x, mget r mr' = some x → SoX W (p.Bo r) x.1 (To r) (mo r)) : Ti W' B g p Tg Ta To ma mo mr' mf := by
  have k : ∀ b, B b → b ≠ p.rr → W'.heap[b]? = W.heap[b]? := fun b hb hn => hc.block b (h.bd b hb) hn
  exact ⟨(k g h.bg.1 h.gr).trans h.tb, h.all.chg hc fun b hb _ e => (h.ba b hb).2 (.inr (.inl e)), ho.re0 rfl, h.fm.re0 (k _ h.bg.2.2 (Ne.symm h.rrf)), hn, h.nf, fun r x hx => (hw r x hx).chg hc fun b hb _ e => (h.bo r b hb).2.1 (.inr (.inl e)), h.bg, h.rrf, h.ba, h.bo, h.oo, fun b hb => Nat.lt_of_lt_of_le (h.bd b hb) hc.size⟩
/-- The map of frameworks is written. -/
theorem Ti.sF {w0 : World} {M0 : Nat → Prop} {gs0 : List Nat} (h : Ti W B g p Tg Ta To ma mo mr mf) (hc : Chg (fun b => b = p.rf) W W') (ho : OwnM w0 M0 gs0 W' p.rf (Value.int .i64) vF mf') (hn : (mf'.map (·.1)).Nodup) : Ti W' B g p Tg Ta To ma mo mr mf' := by
  have k : ∀ b, B b → b ≠ p.rf → W'.heap[b]? = W.heap[b]? := fun b hb hn => hc.block b (h.bd b hb) hn
  exact ⟨(k g h.bg.1 h.gf).trans h.tb, h.all.chg hc fun b hb _ e => (h.ba b hb).2 (.inr (.inr e)), h.rm.re0 (k _ h.bg.2.1 h.rrf), ho.re0 rfl, h.nr, hn, fun r x hx => (h.own r x hx).chg hc fun b hb _ e => (h.bo r b hb).2.1 (.inr (.inr e)), h.bg, h.rrf, h.ba, h.bo, h.oo, fun b hb => Nat.lt_of_lt_of_le (h.bd b hb) hc.size⟩
/-- The total is written. -/
theorem Ti.sT {T' : Ar4} (h : Ti W B g p Tg Ta To ma mo mr mf) (hc : Chg (fun b => b = g) W W') (hg : W'.heap[g]? = some (.cells (tiC T' p).toArray 45 (0, 0))) : Ti W' B g p T' Ta To ma mo mr mf := by
  have k : ∀ b, B b → b ≠ g → W'.heap[b]? = W.heap[b]? := fun b hb hn => hc.block b (h.bd b hb) hn
  exact ⟨hg, h.all.chg hc fun b hb _ e => (h.ba b hb).2 (.inl e), h.rm.re0 (k _ h.bg.2.1 (Ne.symm h.gr)), h.fm.re0 (k _ h.bg.2.2 (Ne.symm h.gf)), h.nr, h.nf, fun r x hx => (h.own r x hx).chg hc fun b hb _ e => (h.bo r b hb).2.1 (.inl e), h.bg, h.rrf, h.ba, h.bo, h.oo, fun b hb => Nat.lt_of_lt_of_le (h.bd b hb) hc.size⟩
theorem SoX.re {m' : List (Int × Cl)} (h : SoX W B g T m) (hs : ∀ x, x ∈ m ↔ x ∈ m') (hn : (m'.map (·.1)).Nodup) : SoX W B g T m' := by
  obtain ⟨m0, r, gt, t, bs, k1, k2, k3, k4, k5⟩ := h.ex
  exact ⟨same_good h.good (fun x => (hs x).symm) hn, m0, r, gt, t, bs, fun x => (k1 x).trans (hs x), k2, k3, k4, k5⟩
end Go.Vc.SZ

/- The formulas of functions, printed by a program (VcTool.lean): each is what the generator's formula comes to, by the kernel's reckoning; whoever proves one has the function's contract. -/
set_option maxRecDepth 100000
set_option maxHeartbeats 1000000
set_option linter.unusedVariables false
namespace Vcz
open Go Go.Vc Go.RowKit
/-! manciple/tiers.New -/
def h4 : Hints := ⟨[], [], [], [], [], [], [], [], []⟩
def f4_vc  (w : World) (R : Ending → World → Prop) : Prop :=
 Calls Proofs.Tryz.prog 10 #[] w fun (e1 : Ending) (w2 : World) =>
 ∃ (a3 : Option Addr),
 e1 = Ending.returned (Value.pointer a3) ∧
 OpW Proofs.Tryz.prog (valueS (Instr.makeMap 41 none)) w2 fun (v4 : Value) (w5 : World) =>
 ∃ (r6 : Option Nat),
 v4 = Value.map r6 ∧
 OpW Proofs.Tryz.prog (valueS (Instr.makeMap 42 none)) w5 fun (v7 : Value) (w8 : World) =>
 ∃ (r9 : Option Nat),
 v7 = Value.map r9 ∧
 OpW Proofs.Tryz.prog (valueS (Instr.box 45 (Value.agg #[Value.int IntKind.i64 0, Value.int IntKind.i64 0, Value.int IntKind.i64 0, Value.int IntKind.i64 0, Value.pointer a3, Value.map r6, Value.map r9]))) w8
 fun (v10 : Value) (w11 : World) => ∃ (ad12 : Addr), v10 = Value.pointer (some ad12) ∧ R (Ending.returned (Value.pointer (some ad12))) w11
theorem f4_eq  (w : World) (R : Ending → World → Prop) : (fnF Go.Proofs.Tryz.prog h4 Go.Proofs.Tryz.f4 [] w R).den = f4_vc  w R := by kernel_rfl
theorem f4_calls  (w : World) (R : Ending → World → Prop) (h : f4_vc  w R) : Calls Go.Proofs.Tryz.prog 4 (List.toArray []) w R :=
 fn_sound (H := h4) (fn := Go.Proofs.Tryz.f4) (by kernel_rfl) (by kernel_rfl) (by kernel_rfl) ((f4_eq  w R).mpr h)

/-! manciple/manciplelaw10.Do -/
def h6 : Hints := ⟨[3], [], [7, 13, 23, 29, 35, 41], [], [], [], [], [], []⟩
def f6_vc (t : Option Addr) (a_0 : Int) (a_1 : Int) (a_2 : Int) (a_3 : Int) (a_4 : Int) (a_5 : Int) (a_6 : Int) (a_7 : Int) (w : World) (R : Ending → World → Prop) : Prop :=
 ∀ (n1 : Nat),
 w.heap.size ≤ n1 →
 ((a_0 == 0) = true →
 ∀ (w2 : World),
 Bel w w2 →
 Under [n1] w2 →
 Calls Proofs.Tryz.prog 18 #[Value.pointer t, Value.agg #[Value.int IntKind.i64 a_4, Value.int IntKind.i64 a_5, Value.int IntKind.i64 a_6, Value.int IntKind.i64 a_7]] w2 fun (e3 : Ending) (w4 : World) =>
 ∃ (x5 : Int), e3 = Ending.returned (Value.int IntKind.i64 x5) ∧ Keeps [n1] w2 w4 ∧ R (Ending.returned (Value.int IntKind.i64 x5)) w4) ∧
 ((a_0 == 0) = false →
 ((a_0 == 1) = true →
 ∀ (w6 : World),
 Bel w w6 →
 Under [n1] w6 →
 Calls Proofs.Tryz.prog 19 #[Value.pointer t, Value.int IntKind.i64 a_1, Value.int IntKind.i64 a_2, Value.int IntKind.i64 a_3] w6 fun (e7 : Ending) (w8 : World) =>
 ∃ (x9 : Int), e7 = Ending.returned (Value.int IntKind.i64 x9) ∧ Keeps [n1] w6 w8 ∧ R (Ending.returned (Value.int IntKind.i64 x9)) w8) ∧
 ((a_0 == 1) = false →
 ((a_0 == 2) = true →
 ∀ (w10 : World),
 Bel w w10 →
 Under [n1] w10 →
 Calls Proofs.Tryz.prog 20 #[Value.pointer t, Value.int IntKind.i64 a_1] w10 fun (e11 : Ending) (w12 : World) =>
 ∃ (x13 : Int), e11 = Ending.returned (Value.int IntKind.i64 x13) ∧ Keeps [n1] w10 w12 ∧ R (Ending.returned (Value.int IntKind.i64 x13)) w12) ∧
 ((a_0 == 2) = false →
 ((a_0 == 3) = true →
 ∀ (w14 : World),
 Bel w w14 →
 Under [n1] w14 →
 Calls Proofs.Tryz.prog 21 #[Value.pointer t, Value.int IntKind.i64 a_1, Value.bool true] w14 fun (e15 : Ending) (w16 : World) =>
 ∃ (x17 : Int), e15 = Ending.returned (Value.int IntKind.i64 x17) ∧ Keeps [n1] w14 w16 ∧ R (Ending.returned (Value.int IntKind.i64 x17)) w16) ∧
 ((a_0 == 3) = false →
 ((a_0 == 4) = true →
 ∀ (w18 : World),
 Bel w w18 →
 Under [n1] w18 →
 Calls Proofs.Tryz.prog 21 #[Value.pointer t, Value.int IntKind.i64 a_1, Value.bool false] w18 fun (e19 : Ending) (w20 : World) =>
 ∃ (x21 : Int), e19 = Ending.returned (Value.int IntKind.i64 x21) ∧ Keeps [n1] w18 w20 ∧ R (Ending.returned (Value.int IntKind.i64 x21)) w20) ∧
 ((a_0 == 4) = false →
 ((a_0 == 5) = true →
 ∀ (w22 : World),
 Bel w w22 →
 Under [n1] w22 →
 Calls Proofs.Tryz.prog 22 #[Value.pointer t, Value.int IntKind.i64 a_1, Value.agg #[Value.int IntKind.i64 a_4, Value.int IntKind.i64 a_5, Value.int IntKind.i64 a_6, Value.int IntKind.i64 a_7]] w22
 fun (e23 : Ending) (w24 : World) => ∃ (x25 : Int), e23 = Ending.returned (Value.int IntKind.i64 x25) ∧ Keeps [n1] w22 w24 ∧ R (Ending.returned (Value.int IntKind.i64 x25)) w24) ∧
 ((a_0 == 5) = false →
 ∀ (w26 : World),
 Bel w w26 →
 Under [n1] w26 →
 Calls Proofs.Tryz.prog 23 #[Value.pointer t, Value.int IntKind.i64 a_1, Value.agg #[Value.int IntKind.i64 a_4, Value.int IntKind.i64 a_5, Value.int IntKind.i64 a_6, Value.int IntKind.i64 a_7]] w26
 fun (e27 : Ending) (w28 : World) => ∃ (x29 : Int), e27 = Ending.returned (Value.int IntKind.i64 x29) ∧ Keeps [n1] w26 w28 ∧ R (Ending.returned (Value.int IntKind.i64 x29)) w28))))))
theorem f6_eq (t : Option Addr) (a_0 : Int) (a_1 : Int) (a_2 : Int) (a_3 : Int) (a_4 : Int) (a_5 : Int) (a_6 : Int) (a_7 : Int) (w : World) (R : Ending → World → Prop) : (fnF Go.Proofs.Tryz.prog h6 Go.Proofs.Tryz.f6 [Value.pointer t,
 Value.agg #[Value.int IntKind.i64 a_0, Value.int IntKind.i64 a_1, Value.int IntKind.i64 a_2, Value.int IntKind.i64 a_3, Value.int IntKind.i64 a_4, Value.int IntKind.i64 a_5, Value.int IntKind.i64 a_6, Value.int IntKind.i64 a_7]] w R).den = f6_vc t a_0 a_1 a_2 a_3 a_4 a_5 a_6 a_7 w R := by kernel_rfl
theorem f6_calls (t : Option Addr) (a_0 : Int) (a_1 : Int) (a_2 : Int) (a_3 : Int) (a_4 : Int) (a_5 : Int) (a_6 : Int) (a_7 : Int) (w : World) (R : Ending → World → Prop) (h : f6_vc t a_0 a_1 a_2 a_3 a_4 a_5 a_6 a_7 w R) : Calls Go.Proofs.Tryz.prog 6 (List.toArray [Value.pointer t,
 Value.agg #[Value.int IntKind.i64 a_0, Value.int IntKind.i64 a_1, Value.int IntKind.i64 a_2, Value.int IntKind.i64 a_3, Value.int IntKind.i64 a_4, Value.int IntKind.i64 a_5, Value.int IntKind.i64 a_6, Value.int IntKind.i64 a_7]]) w R :=
 fn_sound (H := h6) (fn := Go.Proofs.Tryz.f6) (by kernel_rfl) (by kernel_rfl) (by kernel_rfl) ((f6_eq t a_0 a_1 a_2 a_3 a_4 a_5 a_6 a_7 w R).mpr h)

/-! (*manciple/tiers.Tiers).Weight -/
def h35 : Hints := ⟨[6], [], [], [], [], [], [], [], []⟩
def f35_vc (t : Option Addr) (number : Int) (w : World) (R : Ending → World → Prop) : Prop :=
 Calls Proofs.Tryz.prog 28 #[Value.pointer t, Value.int IntKind.i64 number] w fun (e1 : Ending) (w2 : World) =>
 ∃ (x3 : Int),
 ∃ (x4 : Int),
 ∃ (x5 : Int),
 ∃ (b6 : Bool),
 e1 = Ending.returned (Value.tuple #[Value.agg #[Value.int IntKind.i64 x3, Value.int IntKind.i64 x4, Value.int IntKind.i64 x5], Value.bool b6]) ∧
 ∀ (n7 : Nat), w2.heap.size ≤ n7 → ∀ (w8 : World), Evo [n7] w2 w8 → Under [n7] w8 → R (Ending.returned (Value.tuple #[Value.int IntKind.i64 x5, Value.bool b6])) w8
theorem f35_eq (t : Option Addr) (number : Int) (w : World) (R : Ending → World → Prop) : (fnF Go.Proofs.Tryz.prog h35 Go.Proofs.Tryz.f35 [Value.pointer t, Value.int IntKind.i64 number] w R).den = f35_vc t number w R := by kernel_rfl
theorem f35_calls (t : Option Addr) (number : Int) (w : World) (R : Ending → World → Prop) (h : f35_vc t number w R) : Calls Go.Proofs.Tryz.prog 35 (List.toArray [Value.pointer t, Value.int IntKind.i64 number]) w R :=
 fn_sound (H := h35) (fn := Go.Proofs.Tryz.f35) (by kernel_rfl) (by kernel_rfl) (by kernel_rfl) ((f35_eq t number w R).mpr h)

/-! (*manciple/tiers.Tiers).Share -/
def h28 : Hints := ⟨[4], [11], [8], [], [], [], [], [], []⟩
def f28_vc (t : Option Addr) (number : Int) (w : World) (R : Ending → World → Prop) : Prop :=
 ∀ (n1 : Nat),
 w.heap.size ≤ n1 →
 ∀ (w2 : World),
 Bel w w2 →
 Under [n1] w2 →
 Calls Proofs.Tryz.prog 33 #[Value.pointer t] w2 fun (e3 : Ending) (w4 : World) =>
 ∃ (b5 : Bool),
 e3 = Ending.returned (Value.bool b5) ∧
 Keeps [n1] w2 w4 ∧
 ((!b5) = true → ∀ (w6 : World), Evo [n1] w4 w6 → Under [n1] w6 → R (Ending.returned (Value.tuple #[Value.agg #[Value.int IntKind.i64 0, Value.int IntKind.i64 0, Value.int IntKind.i64 0], Value.bool false])) w6) ∧
 ((!b5) = false →
 ∃ (ad7 : Addr),
 t = some ad7 ∧
 ∃ (a8 : Option Addr),
 Reads Proofs.Tryz.prog [] (Instr.loadAt 39 (Value.pointer (some (Addr.mk ad7.block (ad7.off + 4) none)))) w4 (Value.pointer a8) ∧
 Calls Proofs.Tryz.prog 48 #[Value.pointer a8, Value.int IntKind.i64 number] w4 fun (e9 : Ending) (w10 : World) =>
 ∃ (x11 : Int),
 ∃ (x12 : Int),
 ∃ (x13 : Int),
 ∃ (b14 : Bool),
 e9 = Ending.returned (Value.tuple #[Value.agg #[Value.int IntKind.i64 x11, Value.int IntKind.i64 x12, Value.int IntKind.i64 x13], Value.bool b14]) ∧
 Keeps [n1] w4 w10 ∧
 ∀ (w15 : World),
 Evo [n1] w10 w15 → Under [n1] w15 → R (Ending.returned (Value.tuple #[Value.agg #[Value.int IntKind.i64 x11, Value.int IntKind.i64 x12, Value.int IntKind.i64 x13], Value.bool b14])) w15)
theorem f28_eq (t : Option Addr) (number : Int) (w : World) (R : Ending → World → Prop) : (fnF Go.Proofs.Tryz.prog h28 Go.Proofs.Tryz.f28 [Value.pointer t, Value.int IntKind.i64 number] w R).den = f28_vc t number w R := by kernel_rfl
theorem f28_calls (t : Option Addr) (number : Int) (w : World) (R : Ending → World → Prop) (h : f28_vc t number w R) : Calls Go.Proofs.Tryz.prog 28 (List.toArray [Value.pointer t, Value.int IntKind.i64 number]) w R :=
 fn_sound (H := h28) (fn := Go.Proofs.Tryz.f28) (by kernel_rfl) (by kernel_rfl) (by kernel_rfl) ((f28_eq t number w R).mpr h)

/-! (*manciple/tiers.Tiers).Put -/
def h19 : Hints := ⟨[9, 11], [34, 44, 70, 75, 86, 92], [17, 31, 41, 62, 64, 20, 24, 28, 58], [(14, [0, 1, 2, 3, 4, 5, 6]), (17, [0, 1, 2, 3, 4, 5, 6])], [], [], [], [], []⟩
def f19_vc (t : Option Addr) (id : Int) (number : Int) (weight : Int) (w : World) (R : Ending → World → Prop) : Prop :=
 Calls Proofs.Tryz.prog 33 #[Value.pointer t] w fun (e1 : Ending) (w2 : World) =>
 ∃ (b3 : Bool),
 e1 = Ending.returned (Value.bool b3) ∧
 ((!b3) = true → R (Ending.returned (Value.int IntKind.i64 40)) w2) ∧
 ((!b3) = false →
 (decide (number < 1) = true → R (Ending.returned (Value.int IntKind.i64 41)) w2) ∧
 (decide (number < 1) = false →
 (decide (number > 32) = true → R (Ending.returned (Value.int IntKind.i64 41)) w2) ∧
 (decide (number > 32) = false →
 (decide (weight < 1) = true → R (Ending.returned (Value.int IntKind.i64 41)) w2) ∧
 (decide (weight < 1) = false →
 (decide (weight > 1000) = true → R (Ending.returned (Value.int IntKind.i64 41)) w2) ∧
 (decide (weight > 1000) = false →
 ∃ (ad4 : Addr),
 t = some ad4 ∧
 ∃ (r5 : Option Nat),
 Reads Proofs.Tryz.prog [] (Instr.loadAt 42 (Value.pointer (some (Addr.mk ad4.block (ad4.off + 6) none)))) w2 (Value.map r5) ∧
 ∃ (x6 : Int),
 ∃ (b7 : Bool),
 ∃ (b8 : Bool),
 Reads Proofs.Tryz.prog [] (Instr.lookup 42 (Value.map r5) (Value.int IntKind.i64 id) true) w2 (Value.tuple #[Value.agg #[Value.int IntKind.i64 x6, Value.bool b7], Value.bool b8]) ∧
 ∀ (n9 : Nat),
 w2.heap.size ≤ n9 →
 (b8 = true → ∀ (w10 : World), Evo [n9] w2 w10 → Under [n9] w10 → R (Ending.returned (Value.int IntKind.i64 42)) w10) ∧
 (b8 = false →
 ∃ (ad11 : Addr),
 t = some ad11 ∧
 ∃ (r12 : Option Nat),
 Reads Proofs.Tryz.prog [n9] (Instr.loadAt 41 (Value.pointer (some (Addr.mk ad11.block (ad11.off + 5) none)))) w2 (Value.map r12) ∧
 ∃ (a13 : Option Addr),
 ∃ (x14 : Int),
 ∃ (b15 : Bool),
 Reads Proofs.Tryz.prog [n9] (Instr.lookup 41 (Value.map r12) (Value.int IntKind.i64 number) true) w2
 (Value.tuple #[Value.agg #[Value.pointer a13, Value.int IntKind.i64 x14], Value.bool b15]) ∧
 ∀ (n16 : Nat),
 w2.heap.size ≤ n16 →
 ∀ (w17 : World),
 Evo [n16, n9] w2 w17 →
 Under [n9, n16] w17 →
 Calls Proofs.Tryz.prog 35 #[Value.pointer t, Value.int IntKind.i64 number] w17 fun (e18 : Ending) (w19 : World) =>
 ∃ (x20 : Int),
 ∃ (b21 : Bool),
 e18 = Ending.returned (Value.tuple #[Value.int IntKind.i64 x20, Value.bool b21]) ∧
 Keeps [n9, n16] w17 w19 ∧
 (b15 = true →
 ((x20 != weight) = true → R (Ending.returned (Value.int IntKind.i64 22)) w19) ∧
 ((x20 != weight) = false →
 ((!b15) = true →
 Calls Proofs.Tryz.prog 10 #[] w19 fun (e22 : Ending) (w23 : World) =>
 ∃ (a24 : Option Addr),
 e22 = Ending.returned (Value.pointer a24) ∧
 Keeps [n9, n16] w19 w23 ∧
 ∃ (ad25 : Addr),
 t = some ad25 ∧
 ∃ (x26 : Int),
 ∃ (x27 : Int),
 ∃ (x28 : Int),
 ∃ (x29 : Int),
 Reads Proofs.Tryz.prog [n16] (Instr.loadAt 43 (Value.pointer (some ad25))) w23
 (Value.agg
 #[Value.int IntKind.i64 x26, Value.int IntKind.i64 x27, Value.int IntKind.i64 x28, Value.int IntKind.i64 x29]) ∧
 ∀ (w30 : World),
 Evo [n16] w23 w30 →
 Under [n9, n16] w30 →
 Calls Proofs.Tryz.prog 34
 #[Value.pointer a24,
 Value.agg
 #[Value.int IntKind.i64 x26, Value.int IntKind.i64 x27, Value.int IntKind.i64 x28,
 Value.int IntKind.i64 x29]]
 w30 fun (e31 : Ending) (w32 : World) =>
 ∃ (x33 : Int),
 e31 = Ending.returned (Value.int IntKind.i64 x33) ∧
 Keeps [n9, n16] w30 w32 ∧
 ∃ (ad34 : Addr),
 t = some ad34 ∧
 ∃ (a35 : Option Addr),
 Reads Proofs.Tryz.prog []
 (Instr.loadAt 39 (Value.pointer (some (Addr.mk ad34.block (ad34.off + 4) none)))) w32
 (Value.pointer a35) ∧
 Calls Proofs.Tryz.prog 36
 #[Value.pointer a35, Value.int IntKind.i64 number, Value.int IntKind.i64 weight] w32
 fun (e36 : Ending) (w37 : World) =>
 ∃ (x38 : Int),
 e36 = Ending.returned (Value.int IntKind.i64 x38) ∧
 Keeps [n9, n16] w32 w37 ∧
 Calls Proofs.Tryz.prog 36
 #[Value.pointer a24, Value.int IntKind.i64 id, Value.int IntKind.i64 1] w37
 fun (e39 : Ending) (w40 : World) =>
 ∃ (x41 : Int),
 e39 = Ending.returned (Value.int IntKind.i64 x41) ∧
 Keeps [n9, n16] w37 w40 ∧
 ∃ (ad42 : Addr),
 t = some ad42 ∧
 ∃ (r43 : Option Nat),
 Reads Proofs.Tryz.prog []
 (Instr.loadAt 41
 (Value.pointer (some (Addr.mk ad42.block (ad42.off + 5) none))))
 w40 (Value.map r43) ∧
 ∀ (w44 : World),
 Bel w40 w44 →
 Under [n9, n16] w44 →
 OpW Proofs.Tryz.prog
 (skipS
 (Instr.mapUpdate 41 (Value.map r43)
 (Value.int IntKind.i64 number)
 (Value.agg #[Value.pointer a24, Value.int IntKind.i64 x14])))
 w44 fun (v45 : Value) (w46 : World) =>
 Keeps [n9, n16] w44 w46 ∧
 ∃ (ad47 : Addr),
 t = some ad47 ∧
 ∃ (r48 : Option Nat),
 Reads Proofs.Tryz.prog []
 (Instr.loadAt 42
 (Value.pointer
 (some (Addr.mk ad47.block (ad47.off + 6) none))))
 w46 (Value.map r48) ∧
 OpW Proofs.Tryz.prog
 (skipS
 (Instr.mapUpdate 42 (Value.map r48)
 (Value.int IntKind.i64 id)
 (Value.agg
 #[Value.int IntKind.i64 number,
 Value.bool false])))
 w46 fun (v49 : Value) (w50 : World) =>
 Keeps [n9, n16] w46 w50 ∧
 Calls Proofs.Tryz.prog 21
 #[Value.pointer t, Value.int IntKind.i64 id,
 Value.bool true]
 w50 fun (e51 : Ending) (w52 : World) =>
 ∃ (x53 : Int),
 e51 =
 Ending.returned
 (Value.int IntKind.i64 x53) ∧
 Keeps [n9, n16] w50 w52 ∧
 R
 (Ending.returned
 (Value.int IntKind.i64 x53))
 w52) ∧
 ((!b15) = false →
 Calls Proofs.Tryz.prog 36 #[Value.pointer a13, Value.int IntKind.i64 id, Value.int IntKind.i64 1] w19 fun (e54 : Ending) (w55 : World) =>
 ∃ (x56 : Int),
 e54 = Ending.returned (Value.int IntKind.i64 x56) ∧
 Keeps [n9, n16] w19 w55 ∧
 ∃ (ad57 : Addr),
 t = some ad57 ∧
 ∃ (r58 : Option Nat),
 Reads Proofs.Tryz.prog [] (Instr.loadAt 41 (Value.pointer (some (Addr.mk ad57.block (ad57.off + 5) none)))) w55
 (Value.map r58) ∧
 ∀ (w59 : World),
 Bel w55 w59 →
 Under [n9, n16] w59 →
 OpW Proofs.Tryz.prog
 (skipS
 (Instr.mapUpdate 41 (Value.map r58) (Value.int IntKind.i64 number)
 (Value.agg #[Value.pointer a13, Value.int IntKind.i64 x14])))
 w59 fun (v60 : Value) (w61 : World) =>
 Keeps [n9, n16] w59 w61 ∧
 ∃ (ad62 : Addr),
 t = some ad62 ∧
 ∃ (r63 : Option Nat),
 Reads Proofs.Tryz.prog [] (Instr.loadAt 42 (Value.pointer (some (Addr.mk ad62.block (ad62.off + 6) none))))
 w61 (Value.map r63) ∧
 OpW Proofs.Tryz.prog
 (skipS
 (Instr.mapUpdate 42 (Value.map r63) (Value.int IntKind.i64 id)
 (Value.agg #[Value.int IntKind.i64 number, Value.bool false])))
 w61 fun (v64 : Value) (w65 : World) =>
 Keeps [n9, n16] w61 w65 ∧
 Calls Proofs.Tryz.prog 21 #[Value.pointer t, Value.int IntKind.i64 id, Value.bool true] w65
 fun (e66 : Ending) (w67 : World) =>
 ∃ (x68 : Int),
 e66 = Ending.returned (Value.int IntKind.i64 x68) ∧
 Keeps [n9, n16] w65 w67 ∧ R (Ending.returned (Value.int IntKind.i64 x68)) w67))) ∧
 (b15 = false →
 ((!b15) = true →
 Calls Proofs.Tryz.prog 10 #[] w19 fun (e69 : Ending) (w70 : World) =>
 ∃ (a71 : Option Addr),
 e69 = Ending.returned (Value.pointer a71) ∧
 Keeps [n9, n16] w19 w70 ∧
 ∃ (ad72 : Addr),
 t = some ad72 ∧
 ∃ (x73 : Int),
 ∃ (x74 : Int),
 ∃ (x75 : Int),
 ∃ (x76 : Int),
 Reads Proofs.Tryz.prog [n16] (Instr.loadAt 43 (Value.pointer (some ad72))) w70
 (Value.agg
 #[Value.int IntKind.i64 x73, Value.int IntKind.i64 x74, Value.int IntKind.i64 x75, Value.int IntKind.i64 x76]) ∧
 ∀ (w77 : World),
 Evo [n16] w70 w77 →
 Under [n9, n16] w77 →
 Calls Proofs.Tryz.prog 34
 #[Value.pointer a71,
 Value.agg
 #[Value.int IntKind.i64 x73, Value.int IntKind.i64 x74, Value.int IntKind.i64 x75, Value.int IntKind.i64 x76]]
 w77 fun (e78 : Ending) (w79 : World) =>
 ∃ (x80 : Int),
 e78 = Ending.returned (Value.int IntKind.i64 x80) ∧
 Keeps [n9, n16] w77 w79 ∧
 ∃ (ad81 : Addr),
 t = some ad81 ∧
 ∃ (a82 : Option Addr),
 Reads Proofs.Tryz.prog []
 (Instr.loadAt 39 (Value.pointer (some (Addr.mk ad81.block (ad81.off + 4) none)))) w79
 (Value.pointer a82) ∧
 Calls Proofs.Tryz.prog 36
 #[Value.pointer a82, Value.int IntKind.i64 number, Value.int IntKind.i64 weight] w79
 fun (e83 : Ending) (w84 : World) =>
 ∃ (x85 : Int),
 e83 = Ending.returned (Value.int IntKind.i64 x85) ∧
 Keeps [n9, n16] w79 w84 ∧
 Calls Proofs.Tryz.prog 36
 #[Value.pointer a71, Value.int IntKind.i64 id, Value.int IntKind.i64 1] w84
 fun (e86 : Ending) (w87 : World) =>
 ∃ (x88 : Int),
 e86 = Ending.returned (Value.int IntKind.i64 x88) ∧
 Keeps [n9, n16] w84 w87 ∧
 ∃ (ad89 : Addr),
 t = some ad89 ∧
 ∃ (r90 : Option Nat),
 Reads Proofs.Tryz.prog []
 (Instr.loadAt 41
 (Value.pointer (some (Addr.mk ad89.block (ad89.off + 5) none))))
 w87 (Value.map r90) ∧
 ∀ (w91 : World),
 Bel w87 w91 →
 Under [n9, n16] w91 →
 OpW Proofs.Tryz.prog
 (skipS
 (Instr.mapUpdate 41 (Value.map r90) (Value.int IntKind.i64 number)
 (Value.agg #[Value.pointer a71, Value.int IntKind.i64 x14])))
 w91 fun (v92 : Value) (w93 : World) =>
 Keeps [n9, n16] w91 w93 ∧
 ∃ (ad94 : Addr),
 t = some ad94 ∧
 ∃ (r95 : Option Nat),
 Reads Proofs.Tryz.prog []
 (Instr.loadAt 42
 (Value.pointer
 (some (Addr.mk ad94.block (ad94.off + 6) none))))
 w93 (Value.map r95) ∧
 OpW Proofs.Tryz.prog
 (skipS
 (Instr.mapUpdate 42 (Value.map r95)
 (Value.int IntKind.i64 id)
 (Value.agg
 #[Value.int IntKind.i64 number, Value.bool false])))
 w93 fun (v96 : Value) (w97 : World) =>
 Keeps [n9, n16] w93 w97 ∧
 Calls Proofs.Tryz.prog 21
 #[Value.pointer t, Value.int IntKind.i64 id,
 Value.bool true]
 w97 fun (e98 : Ending) (w99 : World) =>
 ∃ (x100 : Int),
 e98 = Ending.returned (Value.int IntKind.i64 x100) ∧
 Keeps [n9, n16] w97 w99 ∧
 R (Ending.returned (Value.int IntKind.i64 x100))
 w99) ∧
 ((!b15) = false →
 Calls Proofs.Tryz.prog 36 #[Value.pointer a13, Value.int IntKind.i64 id, Value.int IntKind.i64 1] w19 fun (e101 : Ending) (w102 : World) =>
 ∃ (x103 : Int),
 e101 = Ending.returned (Value.int IntKind.i64 x103) ∧
 Keeps [n9, n16] w19 w102 ∧
 ∃ (ad104 : Addr),
 t = some ad104 ∧
 ∃ (r105 : Option Nat),
 Reads Proofs.Tryz.prog [] (Instr.loadAt 41 (Value.pointer (some (Addr.mk ad104.block (ad104.off + 5) none)))) w102
 (Value.map r105) ∧
 ∀ (w106 : World),
 Bel w102 w106 →
 Under [n9, n16] w106 →
 OpW Proofs.Tryz.prog
 (skipS
 (Instr.mapUpdate 41 (Value.map r105) (Value.int IntKind.i64 number)
 (Value.agg #[Value.pointer a13, Value.int IntKind.i64 x14])))
 w106 fun (v107 : Value) (w108 : World) =>
 Keeps [n9, n16] w106 w108 ∧
 ∃ (ad109 : Addr),
 t = some ad109 ∧
 ∃ (r110 : Option Nat),
 Reads Proofs.Tryz.prog [] (Instr.loadAt 42 (Value.pointer (some (Addr.mk ad109.block (ad109.off + 6) none)))) w108
 (Value.map r110) ∧
 OpW Proofs.Tryz.prog
 (skipS
 (Instr.mapUpdate 42 (Value.map r110) (Value.int IntKind.i64 id)
 (Value.agg #[Value.int IntKind.i64 number, Value.bool false])))
 w108 fun (v111 : Value) (w112 : World) =>
 Keeps [n9, n16] w108 w112 ∧
 Calls Proofs.Tryz.prog 21 #[Value.pointer t, Value.int IntKind.i64 id, Value.bool true] w112
 fun (e113 : Ending) (w114 : World) =>
 ∃ (x115 : Int),
 e113 = Ending.returned (Value.int IntKind.i64 x115) ∧
 Keeps [n9, n16] w112 w114 ∧ R (Ending.returned (Value.int IntKind.i64 x115)) w114))))))))
theorem f19_eq (t : Option Addr) (id : Int) (number : Int) (weight : Int) (w : World) (R : Ending → World → Prop) : (fnF Go.Proofs.Tryz.prog h19 Go.Proofs.Tryz.f19 [Value.pointer t, Value.int IntKind.i64 id, Value.int IntKind.i64 number, Value.int IntKind.i64 weight] w R).den = f19_vc t id number weight w R := by kernel_rfl
theorem f19_calls (t : Option Addr) (id : Int) (number : Int) (weight : Int) (w : World) (R : Ending → World → Prop) (h : f19_vc t id number weight w R) : Calls Go.Proofs.Tryz.prog 19 (List.toArray [Value.pointer t, Value.int IntKind.i64 id, Value.int IntKind.i64 number, Value.int IntKind.i64 weight]) w R :=
 fn_sound (H := h19) (fn := Go.Proofs.Tryz.f19) (by kernel_rfl) (by kernel_rfl) (by kernel_rfl) ((f19_eq t id number weight w R).mpr h)

/-! (*manciple/tiers.Tiers).Total -/
def h18 : Hints := ⟨[3, 7], [12, 21, 24], [10, 18], [(3, [0, 1, 2, 3, 4, 5, 6])], [], [(7, ⟨[], []⟩)], [], [(28, .cons (.int .i64) (.cons (.agg (.cons (.ptr) (.cons (.int .i64) (.nil)))) (.nil))), (30, .cons (.int .i64) (.cons (.agg (.cons (.ptr) (.cons (.int .i64) (.nil)))) (.nil)))], []⟩
def f18_vc (t : Option Addr) (n_0 : Int) (n_1 : Int) (n_2 : Int) (n_3 : Int) (w : World) (R : Ending → World → Prop) : Prop :=
 ∀ (n1 : Nat),
 w.heap.size ≤ n1 →
 ∀ (w2 : World),
 Bel w w2 →
 Under [n1] w2 →
 Calls Proofs.Tryz.prog 33 #[Value.pointer t] w2 fun (e3 : Ending) (w4 : World) =>
 ∃ (b5 : Bool),
 e3 = Ending.returned (Value.bool b5) ∧
 Keeps [n1] w2 w4 ∧
 ((!b5) = true → R (Ending.returned (Value.int IntKind.i64 40)) w4) ∧
 ((!b5) = false →
 ∃ (ad6 : Addr),
 t = some ad6 ∧
 ∃ (a7 : Option Addr),
 Reads Proofs.Tryz.prog [] (Instr.loadAt 39 (Value.pointer (some (Addr.mk ad6.block (ad6.off + 4) none)))) w4 (Value.pointer a7) ∧
 ∀ (w8 : World),
 Bel w4 w8 →
 Under [n1] w8 →
 Calls Proofs.Tryz.prog 34 #[Value.pointer a7, Value.agg #[Value.int IntKind.i64 n_0, Value.int IntKind.i64 n_1, Value.int IntKind.i64 n_2, Value.int IntKind.i64 n_3]] w8 fun (e9 : Ending) (w10 : World) =>
 ∃ (x11 : Int),
 e9 = Ending.returned (Value.int IntKind.i64 x11) ∧
 Keeps [n1] w8 w10 ∧
 ((x11 == 0) = true →
 ∃ (ad12 : Addr),
 t = some ad12 ∧
 OpW Proofs.Tryz.prog
 (skipS (Instr.storeAt 43 (Value.pointer (some ad12)) (Value.agg #[Value.int IntKind.i64 n_0, Value.int IntKind.i64 n_1, Value.int IntKind.i64 n_2, Value.int IntKind.i64 n_3]))) w10
 fun (v13 : Value) (w14 : World) =>
 Keeps [n1] w10 w14 ∧
 ∃ (ad15 : Addr),
 t = some ad15 ∧
 ∃ (r16 : Option Nat),
 Reads Proofs.Tryz.prog [] (Instr.loadAt 41 (Value.pointer (some (Addr.mk ad15.block (ad15.off + 5) none)))) w14 (Value.map r16) ∧
 OpW Proofs.Tryz.prog (valueS (Instr.range 41 (Value.map r16))) w14 fun (v17 : Value) (w18 : World) =>
 ∃ (ad19 : Addr),
 v17 = Value.pointer (some ad19) ∧
 Keeps [n1] w14 w18 ∧
 ∃ (J20 : Unit → World → Prop),
 ∃ (J21 : Unit → World → Nat),
 J20 () w18 ∧
 ∀ (w22 : World),
 J20 () w22 →
 OpW Proofs.Tryz.prog (valueS (Instr.next (Value.pointer (some ad19)) false 0)) w22 fun (v23 : Value) (w24 : World) =>
 (v23 = Value.tuple #[Value.bool false] ∨
 ∃ (x :
 (nextShape
 (Hints.mk [3, 7] [12, 21, 24] [10, 18] [(3, [0, 1, 2, 3, 4, 5, 6])] [] [(7, LH.mk [] [])] []
 [(28, (Sh.int IntKind.i64).cons ((Sh.ptr.cons ((Sh.int IntKind.i64).cons Sh.nil)).agg.cons Sh.nil)),
 (30, (Sh.int IntKind.i64).cons ((Sh.ptr.cons ((Sh.int IntKind.i64).cons Sh.nil)).agg.cons Sh.nil))]
 [])
 #[Oper.mk (some 28) (Op.next (Operand.tmp 27) false) 0 "tiers.go:50" #[] none,
 Oper.mk (some 29) (Op.extract (Operand.tmp 28) 0) 4 "tiers.go:50" #[Edge.mk 0 Ground.data] none][0]).T),
 v23 =
 Value.tuple #[Value.bool true, Value.int IntKind.i64 x.fst, Value.agg #[Value.pointer x.snd.fst.fst, Value.int IntKind.i64 x.snd.fst.snd.fst]]) ∧
 (v23 = Value.tuple #[Value.bool false] → Keeps [n1] w22 w24 ∧ R (Ending.returned (Value.int IntKind.i64 x11)) w24) ∧
 ∀ (x25 : Int) (a26 : Option Addr) (x27 : Int),
 v23 = Value.tuple #[Value.bool true, Value.int IntKind.i64 x25, Value.agg #[Value.pointer a26, Value.int IntKind.i64 x27]] →
 Keeps [n1] w22 w24 ∧
 OpW Proofs.Tryz.prog ((Instr.entry (Value.pointer (some ad19))).bind fun (__do_lift : Value) => pure (Next.value __do_lift)) w24
 fun (v28 : Value) (w29 : World) =>
 ∃ (x30 : Int),
 ∃ (a31 : Option Addr),
 ∃ (x32 : Int),
 v28 = Value.tuple #[Value.int IntKind.i64 x30, Value.agg #[Value.pointer a31, Value.int IntKind.i64 x32]] ∧
 Keeps [n1] w24 w29 ∧
 ∀ (n33 : Nat),
 w29.heap.size ≤ n33 →
 ∀ (w34 : World),
 Evo [n33] w29 w34 →
 Under [n1, n33] w34 →
 Calls Proofs.Tryz.prog 34
 #[Value.pointer a31,
 Value.agg #[Value.int IntKind.i64 n_0, Value.int IntKind.i64 n_1, Value.int IntKind.i64 n_2, Value.int IntKind.i64 n_3]]
 w34 fun (e35 : Ending) (w36 : World) =>
 ∃ (x37 : Int),
 e35 = Ending.returned (Value.int IntKind.i64 x37) ∧ Keeps [n1, n33] w34 w36 ∧ J20 () w36 ∧ J21 () w36 < J21 () w22) ∧
 ((x11 == 0) = false → R (Ending.returned (Value.int IntKind.i64 x11)) w10))
theorem f18_eq (t : Option Addr) (n_0 : Int) (n_1 : Int) (n_2 : Int) (n_3 : Int) (w : World) (R : Ending → World → Prop) : (fnF Go.Proofs.Tryz.prog h18 Go.Proofs.Tryz.f18 [Value.pointer t, Value.agg #[Value.int IntKind.i64 n_0, Value.int IntKind.i64 n_1, Value.int IntKind.i64 n_2, Value.int IntKind.i64 n_3]] w R).den = f18_vc t n_0 n_1 n_2 n_3 w R := by kernel_rfl
theorem f18_calls (t : Option Addr) (n_0 : Int) (n_1 : Int) (n_2 : Int) (n_3 : Int) (w : World) (R : Ending → World → Prop) (h : f18_vc t n_0 n_1 n_2 n_3 w R) : Calls Go.Proofs.Tryz.prog 18 (List.toArray [Value.pointer t, Value.agg #[Value.int IntKind.i64 n_0, Value.int IntKind.i64 n_1, Value.int IntKind.i64 n_2, Value.int IntKind.i64 n_3]]) w R :=
 fn_sound (H := h18) (fn := Go.Proofs.Tryz.f18) (by kernel_rfl) (by kernel_rfl) (by kernel_rfl) ((f18_eq t n_0 n_1 n_2 n_3 w R).mpr h)

/-! (*manciple/tiers.Tiers).Drop -/
def h20 : Hints := ⟨[6, 7, 9], [32, 44, 53, 60], [15, 51], [(6, [0, 1, 2, 3, 4, 5, 6, 7]), (10, [0, 1, 2, 3, 4, 5, 6]), (11, [0, 1, 2, 3, 4, 5, 6])], [], [], [], [], []⟩
def f20_vc (t : Option Addr) (id : Int) (w : World) (R : Ending → World → Prop) : Prop :=
 Calls Proofs.Tryz.prog 21 #[Value.pointer t, Value.int IntKind.i64 id, Value.bool false] w fun (e1 : Ending) (w2 : World) =>
 ∃ (x3 : Int),
 e1 = Ending.returned (Value.int IntKind.i64 x3) ∧
 ((x3 != 0) = true → R (Ending.returned (Value.int IntKind.i64 x3)) w2) ∧
 ((x3 != 0) = false →
 Calls Proofs.Tryz.prog 37 #[Value.pointer t, Value.int IntKind.i64 id] w2 fun (e4 : Ending) (w5 : World) =>
 ∃ (x6 : Int),
 ∃ (b7 : Bool),
 ∃ (a8 : Option Addr),
 ∃ (x9 : Int),
 ∃ (x10 : Int),
 e4 = Ending.returned (Value.tuple #[Value.agg #[Value.int IntKind.i64 x6, Value.bool b7], Value.agg #[Value.pointer a8, Value.int IntKind.i64 x9], Value.int IntKind.i64 x10]) ∧
 ∀ (n11 : Nat),
 w5.heap.size ≤ n11 →
 ∀ (n12 : Nat),
 w5.heap.size ≤ n12 →
 ∀ (w13 : World),
 Evo [n12, n11] w5 w13 →
 Under [n11, n12] w13 →
 Calls Proofs.Tryz.prog 38 #[Value.pointer a8, Value.int IntKind.i64 id] w13 fun (e14 : Ending) (w15 : World) =>
 ∃ (x16 : Int),
 ∃ (x17 : Int),
 ∃ (x18 : Int),
 ∃ (x19 : Int),
 ∃ (b20 : Bool),
 e14 = Ending.returned (Value.tuple #[Value.agg #[Value.int IntKind.i64 x16, Value.int IntKind.i64 x17, Value.int IntKind.i64 x18, Value.int IntKind.i64 x19], Value.bool b20]) ∧
 Keeps [n11, n12] w13 w15 ∧
 ∀ (n21 : Nat),
 w15.heap.size ≤ n21 →
 ∃ (ad22 : Addr),
 t = some ad22 ∧
 ∃ (a23 : Option Addr),
 Reads Proofs.Tryz.prog [n21] (Instr.loadAt 39 (Value.pointer (some (Addr.mk ad22.block (ad22.off + 4) none)))) w15 (Value.pointer a23) ∧
 ∀ (w24 : World),
 Evo [n21] w15 w24 →
 Under [n11, n12, n21] w24 →
 Calls Proofs.Tryz.prog 39
 #[Value.pointer a23, Value.int IntKind.i64 x6,
 Value.agg #[Value.int IntKind.i64 x16, Value.int IntKind.i64 x17, Value.int IntKind.i64 x18, Value.int IntKind.i64 x19]]
 w24 fun (e25 : Ending) (w26 : World) =>
 ∃ (x27 : Int),
 e25 = Ending.returned (Value.int IntKind.i64 x27) ∧
 Keeps [n11, n12, n21] w24 w26 ∧
 Calls Proofs.Tryz.prog 40 #[Value.pointer a8, Value.int IntKind.i64 id] w26 fun (e28 : Ending) (w29 : World) =>
 ∃ (x30 : Int),
 e28 = Ending.returned (Value.int IntKind.i64 x30) ∧
 Keeps [n11, n12, n21] w26 w29 ∧
 ∃ (ad31 : Addr),
 t = some ad31 ∧
 ∃ (r32 : Option Nat),
 Reads Proofs.Tryz.prog [] (Instr.loadAt 42 (Value.pointer (some (Addr.mk ad31.block (ad31.off + 6) none)))) w29 (Value.map r32) ∧
 OpW Proofs.Tryz.prog (builtin Builtin.delete #[42, 2] 0 #[false, false] #[Value.map r32, Value.int IntKind.i64 id]) w29
 fun (v33 : Value) (w34 : World) =>
 v33 = Value.tuple #[] ∧
 Keeps [n11, n12, n21] w29 w34 ∧
 Calls Proofs.Tryz.prog 41 #[Value.pointer a8] w34 fun (e35 : Ending) (w36 : World) =>
 ∃ (x37 : Int),
 e35 = Ending.returned (Value.int IntKind.i64 x37) ∧
 Keeps [n11, n12, n21] w34 w36 ∧
 ((x37 == 0) = true →
 ∃ (ad38 : Addr),
 t = some ad38 ∧
 ∃ (a39 : Option Addr),
 Reads Proofs.Tryz.prog [] (Instr.loadAt 39 (Value.pointer (some (Addr.mk ad38.block (ad38.off + 4) none)))) w36
 (Value.pointer a39) ∧
 ∀ (w40 : World),
 Bel w36 w40 →
 Under [n11, n12, n21] w40 →
 Calls Proofs.Tryz.prog 40 #[Value.pointer a39, Value.int IntKind.i64 x6] w40 fun (e41 : Ending) (w42 : World) =>
 ∃ (x43 : Int),
 e41 = Ending.returned (Value.int IntKind.i64 x43) ∧
 Keeps [n11, n12, n21] w40 w42 ∧
 ∃ (ad44 : Addr),
 t = some ad44 ∧
 ∃ (r45 : Option Nat),
 Reads Proofs.Tryz.prog []
 (Instr.loadAt 41 (Value.pointer (some (Addr.mk ad44.block (ad44.off + 5) none)))) w42
 (Value.map r45) ∧
 ∀ (w46 : World),
 Bel w42 w46 →
 Under [n11, n12, n21] w46 →
 OpW Proofs.Tryz.prog
 (builtin Builtin.delete #[41, 3] 0 #[false, false]
 #[Value.map r45, Value.int IntKind.i64 x6])
 w46 fun (v47 : Value) (w48 : World) =>
 v47 = Value.tuple #[] ∧
 Keeps [n11, n12, n21] w46 w48 ∧ R (Ending.returned (Value.int IntKind.i64 0)) w48) ∧
 ((x37 == 0) = false → R (Ending.returned (Value.int IntKind.i64 0)) w36))
theorem f20_eq (t : Option Addr) (id : Int) (w : World) (R : Ending → World → Prop) : (fnF Go.Proofs.Tryz.prog h20 Go.Proofs.Tryz.f20 [Value.pointer t, Value.int IntKind.i64 id] w R).den = f20_vc t id w R := by kernel_rfl
theorem f20_calls (t : Option Addr) (id : Int) (w : World) (R : Ending → World → Prop) (h : f20_vc t id w R) : Calls Go.Proofs.Tryz.prog 20 (List.toArray [Value.pointer t, Value.int IntKind.i64 id]) w R :=
 fn_sound (H := h20) (fn := Go.Proofs.Tryz.f20) (by kernel_rfl) (by kernel_rfl) (by kernel_rfl) ((f20_eq t id w R).mpr h)

/-! (*manciple/tiers.Tiers).Give -/
def h22 : Hints := ⟨[5, 7, 8], [21], [18, 29], [(4, [0, 1, 2, 3, 4, 5, 6, 7, 8])], [], [], [], [], []⟩
def f22_vc (t : Option Addr) (id : Int) (n_0 : Int) (n_1 : Int) (n_2 : Int) (n_3 : Int) (w : World) (R : Ending → World → Prop) : Prop :=
 ∀ (n1 : Nat),
 w.heap.size ≤ n1 →
 ∀ (w2 : World),
 Bel w w2 →
 Under [n1] w2 →
 Calls Proofs.Tryz.prog 37 #[Value.pointer t, Value.int IntKind.i64 id] w2 fun (e3 : Ending) (w4 : World) =>
 ∃ (x5 : Int),
 ∃ (b6 : Bool),
 ∃ (a7 : Option Addr),
 ∃ (x8 : Int),
 ∃ (x9 : Int),
 e3 = Ending.returned (Value.tuple #[Value.agg #[Value.int IntKind.i64 x5, Value.bool b6], Value.agg #[Value.pointer a7, Value.int IntKind.i64 x8], Value.int IntKind.i64 x9]) ∧
 Keeps [n1] w2 w4 ∧
 ∀ (n10 : Nat),
 w4.heap.size ≤ n10 →
 ∀ (n11 : Nat),
 w4.heap.size ≤ n11 →
 ((x9 != 0) = true → ∀ (w12 : World), Evo [n11, n10] w4 w12 → Under [n1, n10, n11] w12 → R (Ending.returned (Value.int IntKind.i64 x9)) w12) ∧
 ((x9 != 0) = false →
 ∃ (ad13 : Addr),
 t = some ad13 ∧
 ∃ (a14 : Option Addr),
 Reads Proofs.Tryz.prog [n11, n10] (Instr.loadAt 39 (Value.pointer (some (Addr.mk ad13.block (ad13.off + 4) none)))) w4 (Value.pointer a14) ∧
 ∀ (w15 : World),
 Evo [n11, n10] w4 w15 →
 Under [n1, n10, n11] w15 →
 Calls Proofs.Tryz.prog 43
 #[Value.pointer a14, Value.int IntKind.i64 x5, Value.agg #[Value.int IntKind.i64 n_0, Value.int IntKind.i64 n_1, Value.int IntKind.i64 n_2, Value.int IntKind.i64 n_3]] w15
 fun (e16 : Ending) (w17 : World) =>
 ∃ (x18 : Int),
 e16 = Ending.returned (Value.int IntKind.i64 x18) ∧
 Keeps [n1, n10, n11] w15 w17 ∧
 ((x18 == 0) = true →
 Calls Proofs.Tryz.prog 43
 #[Value.pointer a7, Value.int IntKind.i64 id, Value.agg #[Value.int IntKind.i64 n_0, Value.int IntKind.i64 n_1, Value.int IntKind.i64 n_2, Value.int IntKind.i64 n_3]] w17
 fun (e19 : Ending) (w20 : World) =>
 ∃ (x21 : Int), e19 = Ending.returned (Value.int IntKind.i64 x21) ∧ Keeps [n1, n10, n11] w17 w20 ∧ R (Ending.returned (Value.int IntKind.i64 x21)) w20) ∧
 ((x18 == 0) = false → R (Ending.returned (Value.int IntKind.i64 x18)) w17))
theorem f22_eq (t : Option Addr) (id : Int) (n_0 : Int) (n_1 : Int) (n_2 : Int) (n_3 : Int) (w : World) (R : Ending → World → Prop) : (fnF Go.Proofs.Tryz.prog h22 Go.Proofs.Tryz.f22 [Value.pointer t, Value.int IntKind.i64 id, Value.agg #[Value.int IntKind.i64 n_0, Value.int IntKind.i64 n_1, Value.int IntKind.i64 n_2, Value.int IntKind.i64 n_3]] w R).den = f22_vc t id n_0 n_1 n_2 n_3 w R := by kernel_rfl
theorem f22_calls (t : Option Addr) (id : Int) (n_0 : Int) (n_1 : Int) (n_2 : Int) (n_3 : Int) (w : World) (R : Ending → World → Prop) (h : f22_vc t id n_0 n_1 n_2 n_3 w R) : Calls Go.Proofs.Tryz.prog 22 (List.toArray [Value.pointer t, Value.int IntKind.i64 id, Value.agg #[Value.int IntKind.i64 n_0, Value.int IntKind.i64 n_1, Value.int IntKind.i64 n_2, Value.int IntKind.i64 n_3]]) w R :=
 fn_sound (H := h22) (fn := Go.Proofs.Tryz.f22) (by kernel_rfl) (by kernel_rfl) (by kernel_rfl) ((f22_eq t id n_0 n_1 n_2 n_3 w R).mpr h)

/-! (*manciple/tiers.Tiers).Take -/
def h23 : Hints := ⟨[5, 7, 8], [28], [18, 26], [(6, [0, 1, 2, 3, 4, 5, 6, 7, 8])], [], [], [], [], []⟩
def f23_vc (t : Option Addr) (id : Int) (n_0 : Int) (n_1 : Int) (n_2 : Int) (n_3 : Int) (w : World) (R : Ending → World → Prop) : Prop :=
 ∀ (n1 : Nat),
 w.heap.size ≤ n1 →
 ∀ (w2 : World),
 Bel w w2 →
 Under [n1] w2 →
 Calls Proofs.Tryz.prog 37 #[Value.pointer t, Value.int IntKind.i64 id] w2 fun (e3 : Ending) (w4 : World) =>
 ∃ (x5 : Int),
 ∃ (b6 : Bool),
 ∃ (a7 : Option Addr),
 ∃ (x8 : Int),
 ∃ (x9 : Int),
 e3 = Ending.returned (Value.tuple #[Value.agg #[Value.int IntKind.i64 x5, Value.bool b6], Value.agg #[Value.pointer a7, Value.int IntKind.i64 x8], Value.int IntKind.i64 x9]) ∧
 Keeps [n1] w2 w4 ∧
 ∀ (n10 : Nat),
 w4.heap.size ≤ n10 →
 ∀ (n11 : Nat),
 w4.heap.size ≤ n11 →
 ((x9 != 0) = true → ∀ (w12 : World), Evo [n11, n10] w4 w12 → Under [n1, n10, n11] w12 → R (Ending.returned (Value.int IntKind.i64 x9)) w12) ∧
 ((x9 != 0) = false →
 ∀ (w13 : World),
 Evo [n11, n10] w4 w13 →
 Under [n1, n10, n11] w13 →
 Calls Proofs.Tryz.prog 39 #[Value.pointer a7, Value.int IntKind.i64 id, Value.agg #[Value.int IntKind.i64 n_0, Value.int IntKind.i64 n_1, Value.int IntKind.i64 n_2, Value.int IntKind.i64 n_3]] w13
 fun (e14 : Ending) (w15 : World) =>
 ∃ (x16 : Int),
 e14 = Ending.returned (Value.int IntKind.i64 x16) ∧
 Keeps [n1, n10, n11] w13 w15 ∧
 ((x16 == 0) = true →
 ∃ (ad17 : Addr),
 t = some ad17 ∧
 ∃ (a18 : Option Addr),
 Reads Proofs.Tryz.prog [] (Instr.loadAt 39 (Value.pointer (some (Addr.mk ad17.block (ad17.off + 4) none)))) w15 (Value.pointer a18) ∧
 ∀ (w19 : World),
 Bel w15 w19 →
 Under [n1, n10, n11] w19 →
 Calls Proofs.Tryz.prog 39
 #[Value.pointer a18, Value.int IntKind.i64 x5, Value.agg #[Value.int IntKind.i64 n_0, Value.int IntKind.i64 n_1, Value.int IntKind.i64 n_2, Value.int IntKind.i64 n_3]]
 w19 fun (e20 : Ending) (w21 : World) =>
 ∃ (x22 : Int), e20 = Ending.returned (Value.int IntKind.i64 x22) ∧ Keeps [n1, n10, n11] w19 w21 ∧ R (Ending.returned (Value.int IntKind.i64 x22)) w21) ∧
 ((x16 == 0) = false → R (Ending.returned (Value.int IntKind.i64 x16)) w15))
theorem f23_eq (t : Option Addr) (id : Int) (n_0 : Int) (n_1 : Int) (n_2 : Int) (n_3 : Int) (w : World) (R : Ending → World → Prop) : (fnF Go.Proofs.Tryz.prog h23 Go.Proofs.Tryz.f23 [Value.pointer t, Value.int IntKind.i64 id, Value.agg #[Value.int IntKind.i64 n_0, Value.int IntKind.i64 n_1, Value.int IntKind.i64 n_2, Value.int IntKind.i64 n_3]] w R).den = f23_vc t id n_0 n_1 n_2 n_3 w R := by kernel_rfl
theorem f23_calls (t : Option Addr) (id : Int) (n_0 : Int) (n_1 : Int) (n_2 : Int) (n_3 : Int) (w : World) (R : Ending → World → Prop) (h : f23_vc t id n_0 n_1 n_2 n_3 w R) : Calls Go.Proofs.Tryz.prog 23 (List.toArray [Value.pointer t, Value.int IntKind.i64 id, Value.agg #[Value.int IntKind.i64 n_0, Value.int IntKind.i64 n_1, Value.int IntKind.i64 n_2, Value.int IntKind.i64 n_3]]) w R :=
 fn_sound (H := h23) (fn := Go.Proofs.Tryz.f23) (by kernel_rfl) (by kernel_rfl) (by kernel_rfl) ((f23_eq t id n_0 n_1 n_2 n_3 w R).mpr h)

/-! (*manciple/tiers.Tiers).made -/
def h33 : Hints := ⟨[], [4, 7, 10], [5], [], [], [], [], [], []⟩
def f33_vc (t : Option Addr) (w : World) (R : Ending → World → Prop) : Prop :=
 ∃ (b1 : Bool),
 Gives Proofs.Tryz.prog (binOpS BinOp.neq 23 (Operand.tmp 3) (Operand.const (Value.pointer none)) (Value.pointer t) (Value.pointer none)) (Value.bool b1) ∧
 (b1 = true →
 ∃ (ad2 : Addr),
 t = some ad2 ∧
 ∃ (a3 : Option Addr),
 Reads Proofs.Tryz.prog [] (Instr.loadAt 39 (Value.pointer (some (Addr.mk ad2.block (ad2.off + 4) none)))) w (Value.pointer a3) ∧
 ∃ (b4 : Bool), Gives Proofs.Tryz.prog (binOpS BinOp.neq 39 (Operand.tmp 9) (Operand.const (Value.pointer none)) (Value.pointer a3) (Value.pointer none)) (Value.bool b4) ∧ R (Ending.returned (Value.bool b4)) w) ∧
 (b1 = false → R (Ending.returned (Value.bool false)) w)
theorem f33_eq (t : Option Addr) (w : World) (R : Ending → World → Prop) : (fnF Go.Proofs.Tryz.prog h33 Go.Proofs.Tryz.f33 [Value.pointer t] w R).den = f33_vc t w R := by kernel_rfl
theorem f33_calls (t : Option Addr) (w : World) (R : Ending → World → Prop) (h : f33_vc t w R) : Calls Go.Proofs.Tryz.prog 33 (List.toArray [Value.pointer t]) w R :=
 fn_sound (H := h33) (fn := Go.Proofs.Tryz.f33) (by kernel_rfl) (by kernel_rfl) (by kernel_rfl) ((f33_eq t w R).mpr h)

/-! (*manciple/tiers.Tiers).Walk -/
def h24 : Hints := ⟨[], [], [], [], [], [], [], [], []⟩
def f24_vc (t : Option Addr) (w : World) (R : Ending → World → Prop) : Prop :=
 OpW Proofs.Tryz.prog (valueS (Instr.box 23 (Value.pointer t))) w fun (v1 : Value) (w2 : World) => ∃ (ad3 : Addr), v1 = Value.pointer (some ad3) ∧ R (Ending.returned (Value.func (Fn.func 44) #[] #[Value.pointer (some ad3)])) w2
theorem f24_eq (t : Option Addr) (w : World) (R : Ending → World → Prop) : (fnF Go.Proofs.Tryz.prog h24 Go.Proofs.Tryz.f24 [Value.pointer t] w R).den = f24_vc t w R := by kernel_rfl
theorem f24_calls (t : Option Addr) (w : World) (R : Ending → World → Prop) (h : f24_vc t w R) : Calls Go.Proofs.Tryz.prog 24 (List.toArray [Value.pointer t]) w R :=
 fn_sound (H := h24) (fn := Go.Proofs.Tryz.f24) (by kernel_rfl) (by kernel_rfl) (by kernel_rfl) ((f24_eq t w R).mpr h)

/-! slices.Contains[[]int64,int64] -/
def h47 : Hints := ⟨[], [], [], [], [], [], [], [], []⟩
def f47_vc (sa : Option Addr) (sn : Nat) (sc : Nat) (v : Int) (w : World) (R : Ending → World → Prop) : Prop :=
 Calls Proofs.Tryz.prog 65 #[Value.slice sa sn sc, Value.int IntKind.i64 v] w fun (e1 : Ending) (w2 : World) => ∃ (x3 : Int), e1 = Ending.returned (Value.int IntKind.i64 x3) ∧ R (Ending.returned (Value.bool (decide (x3 ≥ 0)))) w2
theorem f47_eq (sa : Option Addr) (sn : Nat) (sc : Nat) (v : Int) (w : World) (R : Ending → World → Prop) : (fnF Go.Proofs.Tryz.prog h47 Go.Proofs.Tryz.f47 [Value.slice sa sn sc, Value.int IntKind.i64 v] w R).den = f47_vc sa sn sc v w R := by kernel_rfl
theorem f47_calls (sa : Option Addr) (sn : Nat) (sc : Nat) (v : Int) (w : World) (R : Ending → World → Prop) (h : f47_vc sa sn sc v w R) : Calls Go.Proofs.Tryz.prog 47 (List.toArray [Value.slice sa sn sc, Value.int IntKind.i64 v]) w R :=
 fn_sound (H := h47) (fn := Go.Proofs.Tryz.f47) (by kernel_rfl) (by kernel_rfl) (by kernel_rfl) ((f47_eq sa sn sc v w R).mpr h)

/-! (*manciple/tiers.Tiers).Walk$1 -/
def h44 : Hints := ⟨[], [11, 18, 21, 31, 36], [9, 17, 30, 37], [], [], [(2, ⟨[(16, .int .i64)], []⟩), (5, ⟨[(29, .int .i64)], []⟩)], [], [], []⟩
def f44_vc (yield : Value) (cap0 : Value) (w : World) (R : Ending → World → Prop) : Prop :=
 ∃ (a1 : Option Addr),
 Reads Proofs.Tryz.prog [] (Instr.loadAt 23 cap0) w (Value.pointer a1) ∧
 Calls Proofs.Tryz.prog 33 #[Value.pointer a1] w fun (e2 : Ending) (w3 : World) =>
 ∃ (b4 : Bool),
 e2 = Ending.returned (Value.bool b4) ∧
 ((!b4) = true → R (Ending.returned (Value.tuple #[])) w3) ∧
 ((!b4) = false →
 ∃ (a5 : Option Addr),
 Reads Proofs.Tryz.prog [] (Instr.loadAt 23 cap0) w3 (Value.pointer a5) ∧
 ∃ (ad6 : Addr),
 a5 = some ad6 ∧
 ∃ (a7 : Option Addr),
 Reads Proofs.Tryz.prog [] (Instr.loadAt 39 (Value.pointer (some (Addr.mk ad6.block (ad6.off + 4) none)))) w3 (Value.pointer a7) ∧
 Calls Proofs.Tryz.prog 45 #[Value.pointer a7] w3 fun (e8 : Ending) (w9 : World) =>
 ∃ (a10 : Option Addr),
 ∃ (n11 : Nat),
 ∃ (n12 : Nat),
 e8 = Ending.returned (Value.slice a10 n11 n12) ∧
 ∃ (J13 : Int × Unit → World → Prop),
 ∃ (J14 : Int × Unit → World → Nat),
 J13 (0, ()) w9 ∧
 ∀ (x15 : Int) (w16 : World),
 J13 (x15, ()) w16 →
 (decide (x15 < (↑n11 : Int)) = true →
 ∃ (ad17 : Addr),
 Gives Proofs.Tryz.prog (Instr.indexAt 66 (Value.slice a10 n11 n12) (Value.int IntKind.i64 x15)) (Value.pointer (some ad17)) ∧
 ∃ (x18 : Int),
 Reads Proofs.Tryz.prog [] (Instr.loadAt 2 (Value.pointer (some ad17))) w16 (Value.int IntKind.i64 x18) ∧
 ∃ (a19 : Option Addr),
 Reads Proofs.Tryz.prog [] (Instr.loadAt 23 cap0) w16 (Value.pointer a19) ∧
 ∃ (ad20 : Addr),
 a19 = some ad20 ∧
 ∃ (r21 : Option Nat),
 Reads Proofs.Tryz.prog [] (Instr.loadAt 41 (Value.pointer (some (Addr.mk ad20.block (ad20.off + 5) none)))) w16 (Value.map r21) ∧
 ∃ (a22 : Option Addr),
 ∃ (x23 : Int),
 Reads Proofs.Tryz.prog [] (Instr.lookup 41 (Value.map r21) (Value.int IntKind.i64 x18) false) w16 (Value.agg #[Value.pointer a22, Value.int IntKind.i64 x23]) ∧
 Calls Proofs.Tryz.prog 45 #[Value.pointer a22] w16 fun (e24 : Ending) (w25 : World) =>
 ∃ (a26 : Option Addr),
 ∃ (n27 : Nat),
 ∃ (n28 : Nat),
 e24 = Ending.returned (Value.slice a26 n27 n28) ∧
 ∃ (J29 : Int × Unit → World → Prop),
 ∃ (J30 : Int × Unit → World → Nat),
 J29 (0, ()) w25 ∧
 ∀ (x31 : Int) (w32 : World),
 J29 (x31, ()) w32 →
 (decide (x31 < (↑n27 : Int)) = true →
 ∃ (ad33 : Addr),
 Gives Proofs.Tryz.prog (Instr.indexAt 66 (Value.slice a26 n27 n28) (Value.int IntKind.i64 x31)) (Value.pointer (some ad33)) ∧
 ∃ (x34 : Int),
 Reads Proofs.Tryz.prog [] (Instr.loadAt 2 (Value.pointer (some ad33))) w32 (Value.int IntKind.i64 x34) ∧
 OpW Proofs.Tryz.prog (invokeS yield #[Value.int IntKind.i64 x18, Value.int IntKind.i64 x34]) w32 fun (v35 : Value) (w36 : World) =>
 ∃ (b37 : Bool),
 v35 = Value.bool b37 ∧
 ((!b37) = true → R (Ending.returned (Value.tuple #[])) w36) ∧
 ((!b37) = false →
 J29 (IntKind.i64.wrap (x31 + 1), ()) w36 ∧ J30 (IntKind.i64.wrap (x31 + 1), ()) w36 < J30 (x31, ()) w32)) ∧
 (decide (x31 < (↑n27 : Int)) = false →
 J13 (IntKind.i64.wrap (x15 + 1), ()) w32 ∧ J14 (IntKind.i64.wrap (x15 + 1), ()) w32 < J14 (x15, ()) w16)) ∧
 (decide (x15 < (↑n11 : Int)) = false → R (Ending.returned (Value.tuple #[])) w16))
theorem f44_eq (yield : Value) (cap0 : Value) (w : World) (R : Ending → World → Prop) : (fnF Go.Proofs.Tryz.prog h44 Go.Proofs.Tryz.f44 [yield, cap0] w R).den = f44_vc yield cap0 w R := by kernel_rfl
theorem f44_calls (yield : Value) (cap0 : Value) (w : World) (R : Ending → World → Prop) (h : f44_vc yield cap0 w R) : Calls Go.Proofs.Tryz.prog 44 (List.toArray [yield, cap0]) w R :=
 fn_sound (H := h44) (fn := Go.Proofs.Tryz.f44) (by kernel_rfl) (by kernel_rfl) (by kernel_rfl) ((f44_eq yield cap0 w R).mpr h)

/-! slices.Index[[]int64,int64] -/
def h65 : Hints := ⟨[], [14], [9, 16], [], [], [(2, ⟨[(8, .int .i64)], []⟩)], [], [], []⟩
def f65_vc (sa : Option Addr) (sn : Nat) (sc : Nat) (v : Int) (w : World) (R : Ending → World → Prop) : Prop :=
 ∃ (J1 : Int × Unit → World → Prop),
 ∃ (J2 : Int × Unit → World → Nat),
 J1 (0, ()) w ∧
 ∀ (x3 : Int) (w4 : World),
 J1 (x3, ()) w4 →
 (decide (x3 < (↑sn : Int)) = true →
 ∃ (ad5 : Addr),
 Gives Proofs.Tryz.prog (Instr.indexAt 66 (Value.slice sa sn sc) (Value.int IntKind.i64 x3)) (Value.pointer (some ad5)) ∧
 ∃ (x6 : Int),
 Reads Proofs.Tryz.prog [] (Instr.loadAt 2 (Value.pointer (some ad5))) w4 (Value.int IntKind.i64 x6) ∧
 ((v == x6) = true → R (Ending.returned (Value.int IntKind.i64 x3)) w4) ∧ ((v == x6) = false → J1 (IntKind.i64.wrap (x3 + 1), ()) w4 ∧ J2 (IntKind.i64.wrap (x3 + 1), ()) w4 < J2 (x3, ()) w4)) ∧
 (decide (x3 < (↑sn : Int)) = false → R (Ending.returned (Value.int IntKind.i64 (-1))) w4)
theorem f65_eq (sa : Option Addr) (sn : Nat) (sc : Nat) (v : Int) (w : World) (R : Ending → World → Prop) : (fnF Go.Proofs.Tryz.prog h65 Go.Proofs.Tryz.f65 [Value.slice sa sn sc, Value.int IntKind.i64 v] w R).den = f65_vc sa sn sc v w R := by kernel_rfl
theorem f65_calls (sa : Option Addr) (sn : Nat) (sc : Nat) (v : Int) (w : World) (R : Ending → World → Prop) (h : f65_vc sa sn sc v w R) : Calls Go.Proofs.Tryz.prog 65 (List.toArray [Value.slice sa sn sc, Value.int IntKind.i64 v]) w R :=
 fn_sound (H := h65) (fn := Go.Proofs.Tryz.f65) (by kernel_rfl) (by kernel_rfl) (by kernel_rfl) ((f65_eq sa sn sc v w R).mpr h)

/-! manciple/manciplelaw10.works -/
def h9 : Hints := ⟨[7], [], [14, 19, 24, 29, 35, 59, 63, 66, 70, 73, 76, 82], [], [], [], [], [], []⟩
def f9_vc  (w : World) (R : Ending → World → Prop) : Prop :=
 Calls Proofs.Tryz.prog 4 #[] w fun (e1 : Ending) (w2 : World) =>
 ∃ (a3 : Option Addr),
 e1 = Ending.returned (Value.pointer a3) ∧
 Calls Proofs.Tryz.prog 18 #[Value.pointer a3, Value.agg #[Value.int IntKind.i64 10, Value.int IntKind.i64 0, Value.int IntKind.i64 0, Value.int IntKind.i64 0]] w2 fun (e4 : Ending) (w5 : World) =>
 ∃ (x6 : Int),
 e4 = Ending.returned (Value.int IntKind.i64 x6) ∧
 ((x6 == 0) = true →
 Calls Proofs.Tryz.prog 19 #[Value.pointer a3, Value.int IntKind.i64 1, Value.int IntKind.i64 5, Value.int IntKind.i64 1] w5 fun (e7 : Ending) (w8 : World) =>
 ∃ (x9 : Int),
 e7 = Ending.returned (Value.int IntKind.i64 x9) ∧
 ((x9 == 0) = true →
 Calls Proofs.Tryz.prog 19 #[Value.pointer a3, Value.int IntKind.i64 2, Value.int IntKind.i64 5, Value.int IntKind.i64 1] w8 fun (e10 : Ending) (w11 : World) =>
 ∃ (x12 : Int),
 e10 = Ending.returned (Value.int IntKind.i64 x12) ∧
 ((x12 == 0) = true →
 Calls Proofs.Tryz.prog 19 #[Value.pointer a3, Value.int IntKind.i64 3, Value.int IntKind.i64 4, Value.int IntKind.i64 1] w11 fun (e13 : Ending) (w14 : World) =>
 ∃ (x15 : Int),
 e13 = Ending.returned (Value.int IntKind.i64 x15) ∧
 ((x15 == 0) = true →
 Calls Proofs.Tryz.prog 22 #[Value.pointer a3, Value.int IntKind.i64 1, Value.agg #[Value.int IntKind.i64 3, Value.int IntKind.i64 0, Value.int IntKind.i64 0, Value.int IntKind.i64 0]] w14
 fun (e16 : Ending) (w17 : World) =>
 ∃ (x18 : Int),
 e16 = Ending.returned (Value.int IntKind.i64 x18) ∧
 ((x18 == 0) = true →
 Calls Proofs.Tryz.prog 22 #[Value.pointer a3, Value.int IntKind.i64 3, Value.agg #[Value.int IntKind.i64 2, Value.int IntKind.i64 0, Value.int IntKind.i64 0, Value.int IntKind.i64 0]]
 w17 fun (e19 : Ending) (w20 : World) =>
 ∃ (x21 : Int),
 e19 = Ending.returned (Value.int IntKind.i64 x21) ∧
 OpW Proofs.Tryz.prog (valueS (Instr.buildSlice 66 2 #[(0, Value.int IntKind.i64 1), (1, Value.int IntKind.i64 2)])) w20 fun (v22 : Value) (w23 : World) =>
 ∃ (a24 : Option Addr),
 ∃ (n25 : Nat),
 ∃ (n26 : Nat),
 v22 = Value.slice a24 n25 n26 ∧
 Calls Proofs.Tryz.prog 27 #[Value.pointer a3, Value.slice a24 n25 n26] w23 fun (e27 : Ending) (w28 : World) =>
 ∃ (x29 : Int),
 ∃ (b30 : Bool),
 e27 = Ending.returned (Value.tuple #[Value.int IntKind.i64 x29, Value.bool b30]) ∧
 OpW Proofs.Tryz.prog (valueS (Instr.buildSlice 66 2 #[(0, Value.int IntKind.i64 1), (1, Value.int IntKind.i64 3)])) w28 fun (v31 : Value) (w32 : World) =>
 ∃ (a33 : Option Addr),
 ∃ (n34 : Nat),
 ∃ (n35 : Nat),
 v31 = Value.slice a33 n34 n35 ∧
 Calls Proofs.Tryz.prog 27 #[Value.pointer a3, Value.slice a33 n34 n35] w32 fun (e36 : Ending) (w37 : World) =>
 ∃ (x38 : Int),
 ∃ (b39 : Bool),
 e36 = Ending.returned (Value.tuple #[Value.int IntKind.i64 x38, Value.bool b39]) ∧
 Calls Proofs.Tryz.prog 28 #[Value.pointer a3, Value.int IntKind.i64 5] w37 fun (e40 : Ending) (w41 : World) =>
 ∃ (x42 : Int),
 ∃ (x43 : Int),
 ∃ (x44 : Int),
 ∃ (b45 : Bool),
 e40 =
 Ending.returned
 (Value.tuple
 #[Value.agg #[Value.int IntKind.i64 x42, Value.int IntKind.i64 x43, Value.int IntKind.i64 x44], Value.bool b45]) ∧
 ∀ (n46 : Nat),
 w41.heap.size ≤ n46 →
 ((x21 == 0) = true →
 ((x29 == 2) = true →
 (b30 = true →
 ((x38 == 3) = true →
 (b39 = true →
 (b45 = true →
 ((x42 == 3 && (x43 == 10 && true)) = true →
 ∀ (w47 : World),
 Evo [n46] w41 w47 →
 Under [n46] w47 →
 Calls Proofs.Tryz.prog 19
 #[Value.pointer a3, Value.int IntKind.i64 4, Value.int IntKind.i64 5,
 Value.int IntKind.i64 2]
 w47 fun (e48 : Ending) (w49 : World) =>
 ∃ (x50 : Int),
 e48 = Ending.returned (Value.int IntKind.i64 x50) ∧
 Keeps [n46] w47 w49 ∧ R (Ending.returned (Value.bool (x50 == 22))) w49) ∧
 ((x42 == 3 && (x43 == 10 && true)) = false →
 ∀ (w51 : World),
 Evo [n46] w41 w51 → Under [n46] w51 → R (Ending.returned (Value.bool false)) w51)) ∧
 (b45 = false →
 ∀ (w52 : World), Evo [n46] w41 w52 → Under [n46] w52 → R (Ending.returned (Value.bool false)) w52)) ∧
 (b39 = false →
 ∀ (w53 : World), Evo [n46] w41 w53 → Under [n46] w53 → R (Ending.returned (Value.bool false)) w53)) ∧
 ((x38 == 3) = false →
 ∀ (w54 : World), Evo [n46] w41 w54 → Under [n46] w54 → R (Ending.returned (Value.bool false)) w54)) ∧
 (b30 = false → ∀ (w55 : World), Evo [n46] w41 w55 → Under [n46] w55 → R (Ending.returned (Value.bool false)) w55)) ∧
 ((x29 == 2) = false →
 ∀ (w56 : World), Evo [n46] w41 w56 → Under [n46] w56 → R (Ending.returned (Value.bool false)) w56)) ∧
 ((x21 == 0) = false → ∀ (w57 : World), Evo [n46] w41 w57 → Under [n46] w57 → R (Ending.returned (Value.bool false)) w57)) ∧
 ((x18 == 0) = false →
 OpW Proofs.Tryz.prog (valueS (Instr.buildSlice 66 2 #[(0, Value.int IntKind.i64 1), (1, Value.int IntKind.i64 2)])) w17 fun (v58 : Value) (w59 : World) =>
 ∃ (a60 : Option Addr),
 ∃ (n61 : Nat),
 ∃ (n62 : Nat),
 v58 = Value.slice a60 n61 n62 ∧
 Calls Proofs.Tryz.prog 27 #[Value.pointer a3, Value.slice a60 n61 n62] w59 fun (e63 : Ending) (w64 : World) =>
 ∃ (x65 : Int),
 ∃ (b66 : Bool),
 e63 = Ending.returned (Value.tuple #[Value.int IntKind.i64 x65, Value.bool b66]) ∧
 OpW Proofs.Tryz.prog (valueS (Instr.buildSlice 66 2 #[(0, Value.int IntKind.i64 1), (1, Value.int IntKind.i64 3)])) w64 fun (v67 : Value) (w68 : World) =>
 ∃ (a69 : Option Addr),
 ∃ (n70 : Nat),
 ∃ (n71 : Nat),
 v67 = Value.slice a69 n70 n71 ∧
 Calls Proofs.Tryz.prog 27 #[Value.pointer a3, Value.slice a69 n70 n71] w68 fun (e72 : Ending) (w73 : World) =>
 ∃ (x74 : Int),
 ∃ (b75 : Bool),
 e72 = Ending.returned (Value.tuple #[Value.int IntKind.i64 x74, Value.bool b75]) ∧
 Calls Proofs.Tryz.prog 28 #[Value.pointer a3, Value.int IntKind.i64 5] w73 fun (e76 : Ending) (w77 : World) =>
 ∃ (x78 : Int),
 ∃ (x79 : Int),
 ∃ (x80 : Int),
 ∃ (b81 : Bool),
 e76 =
 Ending.returned
 (Value.tuple #[Value.agg #[Value.int IntKind.i64 x78, Value.int IntKind.i64 x79, Value.int IntKind.i64 x80], Value.bool b81]) ∧
 ∀ (n82 : Nat),
 w77.heap.size ≤ n82 → ∀ (w83 : World), Evo [n82] w77 w83 → Under [n82] w83 → R (Ending.returned (Value.bool false)) w83)) ∧
 ((x15 == 0) = false →
 OpW Proofs.Tryz.prog (valueS (Instr.buildSlice 66 2 #[(0, Value.int IntKind.i64 1), (1, Value.int IntKind.i64 2)])) w14 fun (v84 : Value) (w85 : World) =>
 ∃ (a86 : Option Addr),
 ∃ (n87 : Nat),
 ∃ (n88 : Nat),
 v84 = Value.slice a86 n87 n88 ∧
 Calls Proofs.Tryz.prog 27 #[Value.pointer a3, Value.slice a86 n87 n88] w85 fun (e89 : Ending) (w90 : World) =>
 ∃ (x91 : Int),
 ∃ (b92 : Bool),
 e89 = Ending.returned (Value.tuple #[Value.int IntKind.i64 x91, Value.bool b92]) ∧
 OpW Proofs.Tryz.prog (valueS (Instr.buildSlice 66 2 #[(0, Value.int IntKind.i64 1), (1, Value.int IntKind.i64 3)])) w90 fun (v93 : Value) (w94 : World) =>
 ∃ (a95 : Option Addr),
 ∃ (n96 : Nat),
 ∃ (n97 : Nat),
 v93 = Value.slice a95 n96 n97 ∧
 Calls Proofs.Tryz.prog 27 #[Value.pointer a3, Value.slice a95 n96 n97] w94 fun (e98 : Ending) (w99 : World) =>
 ∃ (x100 : Int),
 ∃ (b101 : Bool),
 e98 = Ending.returned (Value.tuple #[Value.int IntKind.i64 x100, Value.bool b101]) ∧
 Calls Proofs.Tryz.prog 28 #[Value.pointer a3, Value.int IntKind.i64 5] w99 fun (e102 : Ending) (w103 : World) =>
 ∃ (x104 : Int),
 ∃ (x105 : Int),
 ∃ (x106 : Int),
 ∃ (b107 : Bool),
 e102 =
 Ending.returned
 (Value.tuple #[Value.agg #[Value.int IntKind.i64 x104, Value.int IntKind.i64 x105, Value.int IntKind.i64 x106], Value.bool b107]) ∧
 ∀ (n108 : Nat),
 w103.heap.size ≤ n108 → ∀ (w109 : World), Evo [n108] w103 w109 → Under [n108] w109 → R (Ending.returned (Value.bool false)) w109)) ∧
 ((x12 == 0) = false →
 OpW Proofs.Tryz.prog (valueS (Instr.buildSlice 66 2 #[(0, Value.int IntKind.i64 1), (1, Value.int IntKind.i64 2)])) w11 fun (v110 : Value) (w111 : World) =>
 ∃ (a112 : Option Addr),
 ∃ (n113 : Nat),
 ∃ (n114 : Nat),
 v110 = Value.slice a112 n113 n114 ∧
 Calls Proofs.Tryz.prog 27 #[Value.pointer a3, Value.slice a112 n113 n114] w111 fun (e115 : Ending) (w116 : World) =>
 ∃ (x117 : Int),
 ∃ (b118 : Bool),
 e115 = Ending.returned (Value.tuple #[Value.int IntKind.i64 x117, Value.bool b118]) ∧
 OpW Proofs.Tryz.prog (valueS (Instr.buildSlice 66 2 #[(0, Value.int IntKind.i64 1), (1, Value.int IntKind.i64 3)])) w116 fun (v119 : Value) (w120 : World) =>
 ∃ (a121 : Option Addr),
 ∃ (n122 : Nat),
 ∃ (n123 : Nat),
 v119 = Value.slice a121 n122 n123 ∧
 Calls Proofs.Tryz.prog 27 #[Value.pointer a3, Value.slice a121 n122 n123] w120 fun (e124 : Ending) (w125 : World) =>
 ∃ (x126 : Int),
 ∃ (b127 : Bool),
 e124 = Ending.returned (Value.tuple #[Value.int IntKind.i64 x126, Value.bool b127]) ∧
 Calls Proofs.Tryz.prog 28 #[Value.pointer a3, Value.int IntKind.i64 5] w125 fun (e128 : Ending) (w129 : World) =>
 ∃ (x130 : Int),
 ∃ (x131 : Int),
 ∃ (x132 : Int),
 ∃ (b133 : Bool),
 e128 = Ending.returned (Value.tuple #[Value.agg #[Value.int IntKind.i64 x130, Value.int IntKind.i64 x131, Value.int IntKind.i64 x132], Value.bool b133]) ∧
 ∀ (n134 : Nat), w129.heap.size ≤ n134 → ∀ (w135 : World), Evo [n134] w129 w135 → Under [n134] w135 → R (Ending.returned (Value.bool false)) w135)) ∧
 ((x9 == 0) = false →
 OpW Proofs.Tryz.prog (valueS (Instr.buildSlice 66 2 #[(0, Value.int IntKind.i64 1), (1, Value.int IntKind.i64 2)])) w8 fun (v136 : Value) (w137 : World) =>
 ∃ (a138 : Option Addr),
 ∃ (n139 : Nat),
 ∃ (n140 : Nat),
 v136 = Value.slice a138 n139 n140 ∧
 Calls Proofs.Tryz.prog 27 #[Value.pointer a3, Value.slice a138 n139 n140] w137 fun (e141 : Ending) (w142 : World) =>
 ∃ (x143 : Int),
 ∃ (b144 : Bool),
 e141 = Ending.returned (Value.tuple #[Value.int IntKind.i64 x143, Value.bool b144]) ∧
 OpW Proofs.Tryz.prog (valueS (Instr.buildSlice 66 2 #[(0, Value.int IntKind.i64 1), (1, Value.int IntKind.i64 3)])) w142 fun (v145 : Value) (w146 : World) =>
 ∃ (a147 : Option Addr),
 ∃ (n148 : Nat),
 ∃ (n149 : Nat),
 v145 = Value.slice a147 n148 n149 ∧
 Calls Proofs.Tryz.prog 27 #[Value.pointer a3, Value.slice a147 n148 n149] w146 fun (e150 : Ending) (w151 : World) =>
 ∃ (x152 : Int),
 ∃ (b153 : Bool),
 e150 = Ending.returned (Value.tuple #[Value.int IntKind.i64 x152, Value.bool b153]) ∧
 Calls Proofs.Tryz.prog 28 #[Value.pointer a3, Value.int IntKind.i64 5] w151 fun (e154 : Ending) (w155 : World) =>
 ∃ (x156 : Int),
 ∃ (x157 : Int),
 ∃ (x158 : Int),
 ∃ (b159 : Bool),
 e154 = Ending.returned (Value.tuple #[Value.agg #[Value.int IntKind.i64 x156, Value.int IntKind.i64 x157, Value.int IntKind.i64 x158], Value.bool b159]) ∧
 ∀ (n160 : Nat), w155.heap.size ≤ n160 → ∀ (w161 : World), Evo [n160] w155 w161 → Under [n160] w161 → R (Ending.returned (Value.bool false)) w161)) ∧
 ((x6 == 0) = false →
 OpW Proofs.Tryz.prog (valueS (Instr.buildSlice 66 2 #[(0, Value.int IntKind.i64 1), (1, Value.int IntKind.i64 2)])) w5 fun (v162 : Value) (w163 : World) =>
 ∃ (a164 : Option Addr),
 ∃ (n165 : Nat),
 ∃ (n166 : Nat),
 v162 = Value.slice a164 n165 n166 ∧
 Calls Proofs.Tryz.prog 27 #[Value.pointer a3, Value.slice a164 n165 n166] w163 fun (e167 : Ending) (w168 : World) =>
 ∃ (x169 : Int),
 ∃ (b170 : Bool),
 e167 = Ending.returned (Value.tuple #[Value.int IntKind.i64 x169, Value.bool b170]) ∧
 OpW Proofs.Tryz.prog (valueS (Instr.buildSlice 66 2 #[(0, Value.int IntKind.i64 1), (1, Value.int IntKind.i64 3)])) w168 fun (v171 : Value) (w172 : World) =>
 ∃ (a173 : Option Addr),
 ∃ (n174 : Nat),
 ∃ (n175 : Nat),
 v171 = Value.slice a173 n174 n175 ∧
 Calls Proofs.Tryz.prog 27 #[Value.pointer a3, Value.slice a173 n174 n175] w172 fun (e176 : Ending) (w177 : World) =>
 ∃ (x178 : Int),
 ∃ (b179 : Bool),
 e176 = Ending.returned (Value.tuple #[Value.int IntKind.i64 x178, Value.bool b179]) ∧
 Calls Proofs.Tryz.prog 28 #[Value.pointer a3, Value.int IntKind.i64 5] w177 fun (e180 : Ending) (w181 : World) =>
 ∃ (x182 : Int),
 ∃ (x183 : Int),
 ∃ (x184 : Int),
 ∃ (b185 : Bool),
 e180 = Ending.returned (Value.tuple #[Value.agg #[Value.int IntKind.i64 x182, Value.int IntKind.i64 x183, Value.int IntKind.i64 x184], Value.bool b185]) ∧
 ∀ (n186 : Nat), w181.heap.size ≤ n186 → ∀ (w187 : World), Evo [n186] w181 w187 → Under [n186] w187 → R (Ending.returned (Value.bool false)) w187)
theorem f9_eq  (w : World) (R : Ending → World → Prop) : (fnF Go.Proofs.Tryz.prog h9 Go.Proofs.Tryz.f9 [] w R).den = f9_vc  w R := by kernel_rfl
theorem f9_calls  (w : World) (R : Ending → World → Prop) (h : f9_vc  w R) : Calls Go.Proofs.Tryz.prog 9 (List.toArray []) w R :=
 fn_sound (H := h9) (fn := Go.Proofs.Tryz.f9) (by kernel_rfl) (by kernel_rfl) (by kernel_rfl) ((f9_eq  w R).mpr h)

end Vcz

/- The formulas of functions, printed by a program (VcTool.lean): each is what the generator's formula comes to, by the kernel's reckoning; whoever proves one has the function's contract. -/
set_option maxRecDepth 100000
set_option maxHeartbeats 1000000
set_option linter.unusedVariables false
namespace Vcz
open Go Go.Vc Go.RowKit
/-! (*manciple/tiers.Tiers).find -/
def h37 : Hints := ⟨[4, 5], [16, 29], [11, 24], [(6, [0, 1, 2, 3, 4, 5, 6, 7, 8, 9, 10])], [], [], [], [], []⟩
def f37_vc (t : Option Addr) (id : Int) (w : World) (R : Ending → World → Prop) : Prop :=
 ∀ (n1 : Nat),
 w.heap.size ≤ n1 →
 ∀ (n2 : Nat),
 w.heap.size ≤ n2 →
 ∀ (w3 : World),
 Bel w w3 →
 Under [n1, n2] w3 →
 Calls Proofs.Tryz.prog 33 #[Value.pointer t] w3 fun (e4 : Ending) (w5 : World) =>
 ∃ (b6 : Bool),
 e4 = Ending.returned (Value.bool b6) ∧
 Keeps [n1, n2] w3 w5 ∧
 ((!b6) = true →
 ∀ (w7 : World),
 Evo [n2, n1] w5 w7 →
 Under [n1, n2] w7 → R (Ending.returned (Value.tuple #[Value.agg #[Value.int IntKind.i64 0, Value.bool false], Value.agg #[Value.pointer none, Value.int IntKind.i64 0], Value.int IntKind.i64 40])) w7) ∧
 ((!b6) = false →
 ∃ (ad8 : Addr),
 t = some ad8 ∧
 ∃ (r9 : Option Nat),
 Reads Proofs.Tryz.prog [] (Instr.loadAt 42 (Value.pointer (some (Addr.mk ad8.block (ad8.off + 6) none)))) w5 (Value.map r9) ∧
 ∃ (x10 : Int),
 ∃ (b11 : Bool),
 ∃ (b12 : Bool),
 Reads Proofs.Tryz.prog [] (Instr.lookup 42 (Value.map r9) (Value.int IntKind.i64 id) true) w5 (Value.tuple #[Value.agg #[Value.int IntKind.i64 x10, Value.bool b11], Value.bool b12]) ∧
 OpW Proofs.Tryz.prog (valueS (Instr.alloc 90 true (Value.tuple #[]))) w5 fun (v13 : Value) (w14 : World) =>
 ∃ (ad15 : Addr),
 v13 = Value.pointer (some ad15) ∧
 Keeps [n1, n2] w5 w14 ∧
 OpW Proofs.Tryz.prog (skipS (Instr.storeAt 90 (Value.pointer (some ad15)) (Value.agg #[Value.int IntKind.i64 x10, Value.bool b11]))) w14 fun (v16 : Value) (w17 : World) =>
 Keeps [n1, n2] w14 w17 ∧
 ((!b12) = true →
 ∀ (w18 : World),
 Evo [n2, n1] w17 w18 →
 Under [n1, n2] w18 →
 R (Ending.returned (Value.tuple #[Value.agg #[Value.int IntKind.i64 0, Value.bool false], Value.agg #[Value.pointer none, Value.int IntKind.i64 0], Value.int IntKind.i64 43]))
 w18) ∧
 ((!b12) = false →
 ∃ (x19 : Int),
 ∃ (b20 : Bool),
 Reads Proofs.Tryz.prog [] (Instr.loadAt 90 (Value.pointer (some ad15))) w17 (Value.agg #[Value.int IntKind.i64 x19, Value.bool b20]) ∧
 ∃ (ad21 : Addr),
 t = some ad21 ∧
 ∃ (r22 : Option Nat),
 Reads Proofs.Tryz.prog [] (Instr.loadAt 41 (Value.pointer (some (Addr.mk ad21.block (ad21.off + 5) none)))) w17 (Value.map r22) ∧
 ∃ (x23 : Int),
 Reads Proofs.Tryz.prog [] (Instr.loadAt 3 (Value.pointer (some ad15))) w17 (Value.int IntKind.i64 x23) ∧
 ∃ (a24 : Option Addr),
 ∃ (x25 : Int),
 Reads Proofs.Tryz.prog [] (Instr.lookup 41 (Value.map r22) (Value.int IntKind.i64 x23) false) w17 (Value.agg #[Value.pointer a24, Value.int IntKind.i64 x25]) ∧
 Reads Proofs.Tryz.prog [n1] (Instr.lookup 41 (Value.map r22) (Value.int IntKind.i64 x23) false) w17
 (Value.agg #[Value.pointer a24, Value.int IntKind.i64 x25]) ∧
 Reads Proofs.Tryz.prog [n1] (Instr.loadAt 3 (Value.pointer (some ad15))) w17 (Value.int IntKind.i64 x23) ∧
 Reads Proofs.Tryz.prog [n1] (Instr.loadAt 41 (Value.pointer (some (Addr.mk ad21.block (ad21.off + 5) none)))) w17 (Value.map r22) ∧
 ∀ (w26 : World),
 Evo [n2, n1] w17 w26 →
 Under [n1, n2] w26 →
 R
 (Ending.returned
 (Value.tuple
 #[Value.agg #[Value.int IntKind.i64 x19, Value.bool b20], Value.agg #[Value.pointer a24, Value.int IntKind.i64 x25],
 Value.int IntKind.i64 0]))
 w26))
theorem f37_eq (t : Option Addr) (id : Int) (w : World) (R : Ending → World → Prop) : (fnF Go.Proofs.Tryz.prog h37 Go.Proofs.Tryz.f37 [Value.pointer t, Value.int IntKind.i64 id] w R).den = f37_vc t id w R := by kernel_rfl
theorem f37_calls (t : Option Addr) (id : Int) (w : World) (R : Ending → World → Prop) (h : f37_vc t id w R) : Calls Go.Proofs.Tryz.prog 37 (List.toArray [Value.pointer t, Value.int IntKind.i64 id]) w R :=
 fn_sound (H := h37) (fn := Go.Proofs.Tryz.f37) (by kernel_rfl) (by kernel_rfl) (by kernel_rfl) ((f37_eq t id w R).mpr h)

/-! (*manciple/tiers.Tiers).Wake -/
def h21 : Hints := ⟨[7, 8], [45, 50, 67], [18, 20, 31, 22, 34], [(9, [0, 1, 2, 3, 4, 5, 6, 7, 8, 9, 10, 11, 12, 13, 14, 15, 16, 17, 18]), (11, [0, 1, 2, 3, 4, 5, 6, 7, 8, 9, 10])], [], [], [(8, ⟨[], [(8, .cons (.ptr) (.cons (.int .i64) (.nil)))]⟩)], [], []⟩
def f21_vc (t : Option Addr) (id : Int) (on : Bool) (w : World) (R : Ending → World → Prop) : Prop :=
 Calls Proofs.Tryz.prog 37 #[Value.pointer t, Value.int IntKind.i64 id] w fun (e1 : Ending) (w2 : World) =>
 ∃ (x3 : Int),
 ∃ (b4 : Bool),
 ∃ (a5 : Option Addr),
 ∃ (x6 : Int),
 ∃ (x7 : Int),
 e1 = Ending.returned (Value.tuple #[Value.agg #[Value.int IntKind.i64 x3, Value.bool b4], Value.agg #[Value.pointer a5, Value.int IntKind.i64 x6], Value.int IntKind.i64 x7]) ∧
 ∀ (n8 : Nat),
 w2.heap.size ≤ n8 →
 ∀ (n9 : Nat),
 w2.heap.size ≤ n9 →
 ((x7 != 0) = true → ∀ (w10 : World), Evo [n9, n8] w2 w10 → Under [n8, n9] w10 → R (Ending.returned (Value.int IntKind.i64 x7)) w10) ∧
 ((x7 != 0) = false →
 ∃ (J11 : Option Addr × Int × Unit → World → Prop),
 ((on = true →
 ((!b4) = true → ∀ (w12 : World), Evo [n9, n9, n8] w2 w12 → Under [n8, n9] w12 → J11 (a5, IntKind.i64.wrap (x6 + 1), ()) w12) ∧
 ((!b4) = false →
 ((!on) = true →
 (b4 = true → ∀ (w13 : World), Evo [n9, n9, n8] w2 w13 → Under [n8, n9] w13 → J11 (a5, IntKind.i64.wrap (x6 - 1), ()) w13) ∧
 (b4 = false → ∀ (w14 : World), Evo [n9, n8] w2 w14 → Under [n8, n9] w14 → J11 (a5, x6, ()) w14)) ∧
 ((!on) = false → ∀ (w15 : World), Evo [n9, n8] w2 w15 → Under [n8, n9] w15 → J11 (a5, x6, ()) w15))) ∧
 (on = false →
 ((!on) = true →
 (b4 = true → ∀ (w16 : World), Evo [n9, n9, n8] w2 w16 → Under [n8, n9] w16 → J11 (a5, IntKind.i64.wrap (x6 - 1), ()) w16) ∧
 (b4 = false → ∀ (w17 : World), Evo [n9, n8] w2 w17 → Under [n8, n9] w17 → J11 (a5, x6, ()) w17)) ∧
 ((!on) = false → ∀ (w18 : World), Evo [n9, n8] w2 w18 → Under [n8, n9] w18 → J11 (a5, x6, ()) w18))) ∧
 ∀ (a19 : Option Addr) (x20 : Int) (w21 : World),
 J11 (a19, x20, ()) w21 →
 ∃ (ad22 : Addr),
 t = some ad22 ∧
 ∃ (r23 : Option Nat),
 Reads Proofs.Tryz.prog [n8] (Instr.loadAt 42 (Value.pointer (some (Addr.mk ad22.block (ad22.off + 6) none)))) w21 (Value.map r23) ∧
 ∃ (ad24 : Addr),
 t = some ad24 ∧
 ∃ (r25 : Option Nat),
 Reads Proofs.Tryz.prog [n8] (Instr.loadAt 41 (Value.pointer (some (Addr.mk ad24.block (ad24.off + 5) none)))) w21 (Value.map r25) ∧
 ∀ (w26 : World),
 Evo [n8] w21 w26 →
 Under [n8, n9] w26 →
 OpW Proofs.Tryz.prog (valueS (Instr.mapEntry 42 (Value.map r23) (Value.int IntKind.i64 id))) w26 fun (v27 : Value) (w28 : World) =>
 ∃ (x29 : Int),
 ∃ (b30 : Bool),
 ∃ (x31 : Int),
 v27 = Value.tuple #[Value.agg #[Value.int IntKind.i64 x29, Value.bool b30], Value.int IntKind.i64 x31] ∧
 Keeps [n8, n9] w26 w28 ∧
 OpW Proofs.Tryz.prog (skipS (Instr.entryStore 42 (Value.map r23) (Value.int IntKind.i64 x31) (Value.agg #[Value.int IntKind.i64 x3, Value.bool on]))) w28
 fun (v32 : Value) (w33 : World) =>
 Keeps [n8, n9] w28 w33 ∧
 OpW Proofs.Tryz.prog (valueS (Instr.mapEntry 41 (Value.map r25) (Value.int IntKind.i64 x3))) w33 fun (v34 : Value) (w35 : World) =>
 ∃ (a36 : Option Addr),
 ∃ (x37 : Int),
 ∃ (x38 : Int),
 v34 = Value.tuple #[Value.agg #[Value.pointer a36, Value.int IntKind.i64 x37], Value.int IntKind.i64 x38] ∧
 Keeps [n8, n9] w33 w35 ∧
 OpW Proofs.Tryz.prog (skipS (Instr.entryStore 41 (Value.map r25) (Value.int IntKind.i64 x38) (Value.agg #[Value.pointer a19, Value.int IntKind.i64 x20])))
 w35 fun (v39 : Value) (w40 : World) =>
 Keeps [n8, n9] w35 w40 ∧
 Calls Proofs.Tryz.prog 42 #[Value.pointer a19, Value.int IntKind.i64 id, Value.bool on] w40 fun (e41 : Ending) (w42 : World) =>
 ∃ (x43 : Int),
 e41 = Ending.returned (Value.int IntKind.i64 x43) ∧
 Keeps [n8, n9] w40 w42 ∧
 ∃ (ad44 : Addr),
 t = some ad44 ∧
 ∃ (a45 : Option Addr),
 Reads Proofs.Tryz.prog [] (Instr.loadAt 39 (Value.pointer (some (Addr.mk ad44.block (ad44.off + 4) none)))) w42 (Value.pointer a45) ∧
 ∀ (w46 : World),
 Bel w42 w46 →
 Under [n8, n9] w46 →
 Calls Proofs.Tryz.prog 42 #[Value.pointer a45, Value.int IntKind.i64 x3, Value.bool (decide (x20 > 0))] w46
 fun (e47 : Ending) (w48 : World) =>
 ∃ (x49 : Int),
 e47 = Ending.returned (Value.int IntKind.i64 x49) ∧
 Keeps [n8, n9] w46 w48 ∧ R (Ending.returned (Value.int IntKind.i64 x49)) w48)
theorem f21_eq (t : Option Addr) (id : Int) (on : Bool) (w : World) (R : Ending → World → Prop) : (fnF Go.Proofs.Tryz.prog h21 Go.Proofs.Tryz.f21 [Value.pointer t, Value.int IntKind.i64 id, Value.bool on] w R).den = f21_vc t id on w R := by kernel_rfl
theorem f21_calls (t : Option Addr) (id : Int) (on : Bool) (w : World) (R : Ending → World → Prop) (h : f21_vc t id on w R) : Calls Go.Proofs.Tryz.prog 21 (List.toArray [Value.pointer t, Value.int IntKind.i64 id, Value.bool on]) w R :=
 fn_sound (H := h21) (fn := Go.Proofs.Tryz.f21) (by kernel_rfl) (by kernel_rfl) (by kernel_rfl) ((f21_eq t id on w R).mpr h)

end Vcz

/- Tiers: made, find, Share, Weight, Role, Own. -/
set_option maxRecDepth 20000
set_option maxHeartbeats 1000000
set_option linter.unusedVariables false
namespace Go.Vc.SZ
open Go Go.Vc Go.RowKit Go.Proofs Go.Vc.T Vcz

variable {w W W' W1 : World} {M N B B0 B' : Nat → Prop} {gs ds : List Nat} {g gr : Nat} {p : TiP} {T Tg Ta n : Ar4} {To : Int → Ar4} {ma m : List (Int × Cl)} {mo : MO} {mr mr' : MR} {mf mf' : MF} {id r k : Int} {a : Bool}

theorem KI2 : KeyOk Tryz.prog 2 (Value.int .i64) := keyOk_int (by kernel_rfl)
theorem KI3 : KeyOk Tryz.prog 3 (Value.int .i64) := keyOk_int (by kernel_rfl)
theorem t125 : Tryz.prog.underlying 41 = some (.map 3 88) := by kernel_rfl
theorem t126 : Tryz.prog.underlying 42 = some (.map 2 90) := by kernel_rfl
theorem z125 : pureRun Tryz.prog (zeroValue 88) = some (.agg #[.pointer none, .int .i64 0]) := by kernel_rfl
theorem z126 : pureRun Tryz.prog (zeroValue 90) = some (.agg #[.int .i64 0, .bool false]) := by kernel_rfl
theorem Ti.rdA (h : Ti W B g p Tg Ta To ma mo mr mf) (hd : ∀ d ∈ ds, d ≠ g) : Reads Tryz.prog ds (Instr.loadAt 39 (.pointer (some (Addr.mk g (0 + 4) none)))) W (.pointer (pt p.ga)) := rd_f 3 h.tb rfl (by kernel_rfl) hd
theorem Ti.rdR (h : Ti W B g p Tg Ta To ma mo mr mf) (hd : ∀ d ∈ ds, d ≠ g) : Reads Tryz.prog ds (Instr.loadAt 41 (.pointer (some (Addr.mk g (0 + 5) none)))) W (.map (some p.rr)) := rd_f 4 h.tb rfl (by kernel_rfl) hd
theorem Ti.rdF (h : Ti W B g p Tg Ta To ma mo mr mf) (hd : ∀ d ∈ ds, d ≠ g) : Reads Tryz.prog ds (Instr.loadAt 42 (.pointer (some (Addr.mk g (0 + 6) none)))) W (.map (some p.rf)) := rd_f 5 h.tb rfl (by kernel_rfl) hd
theorem Ti.lkF (h : Ti W B g p Tg Ta To ma mo mr mf) (id : Int) (hd : ∀ d ∈ ds, d ≠ p.rf) : Reads Tryz.prog ds (Instr.lookup 42 (.map (some p.rf)) (.int .i64 id) true) W (lookV2 vF (.agg #[.int .i64 0, .bool false]) (mget id mf)) := reads_lookup2 KI2 t126 z126 h.fm id hd
theorem Ti.lkR1 (h : Ti W B g p Tg Ta To ma mo mr mf) (r : Int) (hd : ∀ d ∈ ds, d ≠ p.rr) : Reads Tryz.prog ds (Instr.lookup 41 (.map (some p.rr)) (.int .i64 r) false) W (lookV1 vR (.agg #[.pointer none, .int .i64 0]) (mget r mr)) := reads_lookup1 KI3 t125 z125 h.rm r hd
theorem Ti.lkR2 (h : Ti W B g p Tg Ta To ma mo mr mf) (r : Int) (hd : ∀ d ∈ ds, d ≠ p.rr) : Reads Tryz.prog ds (Instr.lookup 41 (.map (some p.rr)) (.int .i64 r) true) W (lookV2 vR (.agg #[.pointer none, .int .i64 0]) (mget r mr)) := reads_lookup2 KI3 t125 z125 h.rm r hd
theorem Ti.lt (h : Ti W B g p Tg Ta To ma mo mr mf) : g < W.heap.size ∧ p.rr < W.heap.size ∧ p.rf < W.heap.size := ⟨h.bd _ h.bg.1, h.bd _ h.bg.2.1, h.bd _ h.bg.2.2⟩

theorem c33t (h : Ti W B g p Tg Ta To ma mo mr mf) : Ret Tryz.prog 33 #[.pointer (pt g)] W (.bool true) := by
  intro R hR
  refine f33_calls _ W R ?_
  unfold f33_vc
  exact ⟨true, (fun W => rfl), brB (fun _ => ⟨_, rfl, _, h.rdA nod, true, (fun W => rfl), leaf hR (At.refl W) rfl⟩) (fun e => by cases e)⟩
theorem c33n (W : World) : Ret Tryz.prog 33 #[.pointer none] W (.bool false) := by
  intro R hR
  refine f33_calls _ W R ?_
  unfold f33_vc
  exact ⟨false, (fun W => rfl), brB (fun e => by cases e) (fun _ => leaf hR (At.refl W) rfl)⟩
abbrev fndV (f : Int × Bool) (q : Option Addr) (k e : Int) : Value := .tuple #[.agg #[.int .i64 f.1, .bool f.2], .agg #[.pointer q, .int .i64 k], .int .i64 e]
theorem c37s (h : Ti W B g p Tg Ta To ma mo mr mf) (hx : mget id mf = some (r, a)) (hy : mget r mr = some (gr, k)) : Ret Tryz.prog 37 #[.pointer (pt g), .int .i64 id] W (fndV (r, a) (pt gr) k 0) := by
  intro R hR
  refine f37_calls _ _ W R ?_
  unfold f37_vc
  have hA := At.refl W
  intro n1 hn1 n2 hn2 w3 hb3 hu3
  have h3 := h.call hb3
  have hA : At W [n1, n2] w3 := ⟨(hA.call hb3).chg, hu3⟩
  have hs := h.lt
  refine at_callb hA (c33t h3) fun w5 hA hk hb5 => ⟨_, rfl, hk, brB (fun e => by cases e) (fun _ => ?_)⟩
  have h5 := h3.call hb5
  have hl := h5.lkF id (ds := []) (by simp)
  rw [hx] at hl
  refine ⟨_, rfl, _, h5.rdF nod, r, a, true, hl, ?_⟩
  refine opw_allocS [.int .i64 0, .bool false] (zv := .agg #[.int .i64 0, .bool false]) (by kernel_rfl) rfl hA fun q w14 hq hA14 hk14 hb14 hqb => ⟨_, rfl, hk14, ?_⟩
  have hqn : q ∉ [n1, n2] := fun hx => by have := hA.under _ hx; omega
  refine opw_storeF hA14 hqb (.inl (by have := hA.size; omega)) hqn (cells' := [.int .i64 r, .bool a]) (by kernel_rfl) fun w17 hA hk17 hch hqb => ⟨hk17, brB (fun e => by cases e) (fun _ => ?_)⟩
  have h17 : Ti w17 B g p Tg Ta To ma mo mr mf := (h5.call hb14).chg hch fun b hb e => by
    have := h5.bd b hb
    omega
  have hl := fun ds hd => h17.lkR1 (ds := ds) r hd
  rw [hy] at hl
  have hqn1 : ∀ d ∈ [n1], d ≠ q := fun d hd e => hqn (by simp at hd; subst hd; simp [e])
  refine ⟨r, a, ?_, _, rfl, _, h17.rdR nod, r, rd_f0 hqb (by kernel_rfl) nod, pt gr, k, hl [] nod, hl [n1] (by simp; omega), rd_f0 hqb (by kernel_rfl) hqn1, h17.rdR (by simp; omega), fun w26 he hu => leaf (gs := [n1, n2]) hR (hA.evo (by simp; omega) he hu) rfl⟩
  exact (elt_cells hqb).agg 2 (by kernel_rfl) (by kernel_rfl) (by simp) no_ds
theorem c37n (h : Ti W B g p Tg Ta To ma mo mr mf) (hx : mget id mf = none) : Ret Tryz.prog 37 #[.pointer (pt g), .int .i64 id] W (fndV (0, false) none 0 43) := by
  intro R hR
  refine f37_calls _ _ W R ?_
  unfold f37_vc
  have hA := At.refl W
  intro n1 hn1 n2 hn2 w3 hb3 hu3
  have h3 := h.call hb3
  have hA : At W [n1, n2] w3 := ⟨(hA.call hb3).chg, hu3⟩
  refine at_callb hA (c33t h3) fun w5 hA hk hb5 => ⟨_, rfl, hk, brB (fun e => by cases e) (fun _ => ?_)⟩
  have h5 := h3.call hb5
  have hl := h5.lkF id (ds := []) (by simp)
  rw [hx] at hl
  refine ⟨_, rfl, _, h5.rdF nod, 0, false, false, hl, ?_⟩
  refine opw_allocS [.int .i64 0, .bool false] (zv := .agg #[.int .i64 0, .bool false]) (by kernel_rfl) rfl hA fun q w14 hq hA14 hk14 hb14 hqb => ⟨_, rfl, hk14, ?_⟩
  have hqn : q ∉ [n1, n2] := fun hx => by have := hA.under _ hx; omega
  exact opw_storeF hA14 hqb (.inl (by have := hA.size; omega)) hqn (cells' := [.int .i64 0, .bool false]) (by kernel_rfl) fun w17 hA hk17 hch hqb => ⟨hk17, brB (fun _ w18 he hu => leaf (gs := [n1, n2]) hR (hA.evo (by simp; omega) he hu) rfl) (fun e => by cases e)⟩
theorem c37o (W : World) (id : Int) : Ret Tryz.prog 37 #[.pointer none, .int .i64 id] W (fndV (0, false) none 0 40) := by
  intro R hR
  refine f37_calls _ _ W R ?_
  unfold f37_vc
  intro n1 hn1 n2 hn2 w3 hb3 hu3
  have hA : At W [n1, n2] w3 := ⟨((At.refl W).call hb3).chg, hu3⟩
  exact at_callb hA (c33n w3) fun w5 hA hk hb5 => ⟨_, rfl, hk, brB (fun _ w7 he hu => leaf (gs := [n1, n2]) hR (hA.evo (by simp; omega) he hu) rfl) (fun e => by cases e)⟩
/-- A role's share, and its weight; a framework's role and share. -/
theorem c28 (h : Ti W B g p Tg Ta To ma mo mr mf) (r : Int) : Ret Tryz.prog 28 #[.pointer (pt g), .int .i64 r] W (shaV Ta (mget r ma)) := by
  intro R hR
  refine f28_calls _ _ W R ?_
  unfold f28_vc
  have hA := At.refl W
  intro n1 hn1 w2 hb2 hu2
  have h2 := h.call hb2
  have hA : At W [n1] w2 := ⟨(hA.call hb2).chg, hu2⟩
  refine at_callb hA (c33t h2) fun w4 hA hk hb4 => ⟨_, rfl, hk, brB (fun e => by cases e) (fun _ => ?_)⟩
  have h4 := h2.call hb4
  refine ⟨_, rfl, _, h4.rdA nod, ?_⟩
  refine at_callb hA (c48 h4.all r) fun w10 hA hk hb10 => ?_
  cases e : mget r ma with
  | none =>
    rw [e] at hR
    exact ⟨_, _, _, _, rfl, hk, fun w15 he hu => leaf (gs := [n1]) hR (hA.evo (by simp; omega) he hu) rfl⟩
  | some c =>
    rw [e] at hR
    exact ⟨_, _, _, _, rfl, hk, fun w15 he hu => leaf (gs := [n1]) hR (hA.evo (by simp; omega) he hu) rfl⟩
def wgtV : Option Cl → Value
  | none => .tuple #[.int .i64 0, .bool false]
  | some c => .tuple #[.int .i64 c.w, .bool true]
theorem c35 (h : Ti W B g p Tg Ta To ma mo mr mf) (r : Int) : Ret Tryz.prog 35 #[.pointer (pt g), .int .i64 r] W (wgtV (mget r ma)) := by
  intro R hR
  refine f35_calls _ _ W R ?_
  unfold f35_vc
  refine at_callb (At.refl W) (c28 h r) fun w2 hA hk hb2 => ?_
  cases e : mget r ma with
  | none =>
    rw [e] at hR
    exact ⟨_, _, _, _, rfl, fun n7 hn7 w8 he hu => leaf (gs := [n7]) hR (hA.evo (by have := hA.size; simp; omega) he hu) rfl⟩
  | some c =>
    rw [e] at hR
    exact ⟨_, _, _, _, rfl, fun n7 hn7 w8 he hu => leaf (gs := [n7]) hR (hA.evo (by have := hA.size; simp; omega) he hu) rfl⟩
def rolV : Option (Int × Bool) → Value
  | none => .tuple #[.int .i64 0, .bool false]
  | some f => .tuple #[.int .i64 f.1, .bool true]
end Go.Vc.SZ

/- Tiers: a step of one of the sorters; Wake. -/
set_option maxRecDepth 20000
set_option maxHeartbeats 1000000
set_option linter.unusedVariables false
namespace Go.Vc.SZ
open Go Go.Vc Go.RowKit Go.Proofs Go.Vc.T Vcz

variable {w W W' W1 : World} {M N B B0 B' : Nat → Prop} {gs ds : List Nat} {g gr : Nat} {p : TiP} {T Tg Ta n : Ar4} {To : Int → Ar4} {ma m : List (Int × Cl)} {mo : MO} {mr mr' : MR} {mf mf' : MF} {id r k : Int} {a : Bool} {x : Nat × Int} {q : List (Int × Cl) × Int}

def updO {α : Type} (mo : Int → α) (r : Int) (m : α) : Int → α := fun r' => if r' = r then m else mo r'
theorem updO_self {α : Type} (mo : Int → α) (r : Int) : updO mo r (mo r) = mo := funext fun r' => by unfold updO; split <;> simp_all
theorem gs_up (hA : AtF w B0 gs W) (hg : ∀ y ∈ gs, ¬ B y) : ∀ y ∈ gs, ¬ upB B W W' y := fun y hy hb => by
  have := hA.under y hy
  rcases hb with ⟨h | h, _⟩
  · exact hg y hy h
  · omega
theorem sub_up (hA : AtF w B0 gs W) (hs : ∀ b, B b → B0 b ∨ w.heap.size ≤ b) : ∀ b, upB B W W' b → B0 b ∨ w.heap.size ≤ b := fun b hb => by
  have := hA.size
  rcases hb with ⟨h | h, _⟩
  · exact hs b h
  · exact .inr (by omega)
theorem at_own {f : FuncId} {args : Array Value} {K : Ending → World → Prop} (hA : AtF w B0 gs W) (hs : ∀ b, B b → B0 b ∨ w.heap.size ≤ b) (h : Ti W B g p Tg Ta To ma mo mr mf) (hy : mget r mr = some x) (hc : RetF Tryz.prog f args W (p.Bo r) (TnQ W (p.Bo r) x.1 (To r) q)) (hg : ∀ y ∈ gs, ¬ B y)
    (hK : ∀ W' B' p', AtF w B0 gs W' → Keeps gs W W' → (∀ b, B' b → B0 b ∨ w.heap.size ≤ b) → (∀ y ∈ gs, ¬ B' y) → Ti W' B' g p' Tg Ta To ma (updO mo r q.1) mr mf → K (.returned (.int .i64 q.2)) W') : Calls Tryz.prog f args W K := by
  refine at_callF hA hc (fun b _ hb => (hs b (h.bo r b hb).1).symm) (fun y hy hb => hg y hy (h.bo r y hb).1) fun v w5 hA2 hk hch hq => ?_
  obtain ⟨hv, hX⟩ := hq
  subst hv
  have h5 := h.sOwn hy hch hX
  have e : (fun r' => if r' = r then To r else To r') = To := updO_self To r
  rw [e] at h5
  exact hK w5 _ _ hA2 hk (sub_up hA hs) (gs_up hA hg) h5
theorem at_allS {f : FuncId} {args : Array Value} {K : Ending → World → Prop} (hA : AtF w B0 gs W) (hs : ∀ b, B b → B0 b ∨ w.heap.size ≤ b) (h : Ti W B g p Tg Ta To ma mo mr mf) (hc : RetF Tryz.prog f args W p.Ba (TnQ W p.Ba p.ga Ta q)) (hg : ∀ y ∈ gs, ¬ B y)
    (hK : ∀ W' B' p', AtF w B0 gs W' → Keeps gs W W' → (∀ b, B' b → B0 b ∨ w.heap.size ≤ b) → (∀ y ∈ gs, ¬ B' y) → Ti W' B' g p' Tg Ta To q.1 mo mr mf → K (.returned (.int .i64 q.2)) W') : Calls Tryz.prog f args W K := by
  refine at_callF hA hc (fun b _ hb => (hs b (h.ba b hb).1).symm) (fun y hy hb => hg y hy (h.ba y hb).1) fun v w5 hA2 hk hch hq => ?_
  obtain ⟨hv, hX⟩ := hq
  subst hv
  exact hK w5 _ _ hA2 hk (sub_up hA hs) (gs_up hA hg) (h.sAll hch hX)
theorem Ti.rmA (h : Ti W B g p Tg Ta To ma mo mr mf) (hs : ∀ b, B b → B0 b ∨ w.heap.size ≤ b) (hg : ∀ y ∈ gs, ¬ B y) : OwnM w B0 gs W p.rr (Value.int .i64) vR mr := ⟨(hs _ h.bg.2.1).symm, fun hm => hg _ hm h.bg.2.1, h.rm.obj⟩
theorem Ti.fmA (h : Ti W B g p Tg Ta To ma mo mr mf) (hs : ∀ b, B b → B0 b ∨ w.heap.size ≤ b) (hg : ∀ y ∈ gs, ¬ B y) : OwnM w B0 gs W p.rf (Value.int .i64) vF mf := ⟨(hs _ h.bg.2.2).symm, fun hm => hg _ hm h.bg.2.2, h.fm.obj⟩
/-- A role's number of frameworks is set. -/
theorem Ti.setK {w0 : World} {M0 : Nat → Prop} {gs0 : List Nat} (h : Ti W B g p Tg Ta To ma mo mr mf) (hc : Chg (fun b => b = p.rr) W W') (ho : OwnM w0 M0 gs0 W' p.rr (Value.int .i64) vR (mset r (gr, k) mr)) (hx : SoX W (p.Bo r) gr (To r) (mo r)) : Ti W' B g p Tg Ta To ma mo (mset r (gr, k) mr) mf :=
  h.sR hc ho (mset_nodup h.nr) fun r' x' hx' => by
    by_cases e : r' = r
    · subst e
      rw [mget_mset_self] at hx'
      cases hx'
      exact hx
    · rw [mget_mset_ne _ e] at hx'
      exact h.own r' x' hx'
def kW (on a : Bool) (k : Int) : Int := if on then (if a then k else k + 1) else if a then k - 1 else k
/-- What tiers are behind a step, however their blocks lie now. -/
def TiQ (W : World) (B : Nat → Prop) (g : Nat) (Tg Ta : Ar4) (To : Int → Ar4) (ma : List (Int × Cl)) (mo : MO) (mr : MR) (mf : MF) (W' : World) : Prop := ∃ B' p', (∀ b, B' b → B b ∨ W.heap.size ≤ b) ∧ Ti W' B' g p' Tg Ta To ma mo mr mf
theorem c21 (h : Ti W B g p Tg Ta To ma mo mr mf) (hx : mget id mf = some (r, a)) (hy : mget r mr = some (gr, k)) (hkk : -1000000 ≤ k ∧ k ≤ 1000000) (hla : ma.length < 100000) (hlo : (mo r).length < 100000) (on : Bool) :
    RetF Tryz.prog 21 #[.pointer (pt g), .int .i64 id, .bool on] W B fun v W' => v = .int .i64 (turnD ma r (wakeF (decide (kW on a k > 0)))).2 ∧ TiQ W B g Tg Ta To (turnD ma r (wakeF (decide (kW on a k > 0)))).1 (updO mo r (turnD (mo r) id (wakeF on)).1) (mset r (gr, kW on a k) mr) (mset id (r, on) mf) W' := by
  intro R hR
  refine f21_calls _ _ _ W R ?_
  unfold f21_vc
  have hA : AtF W B [] W := AtF.refl W B
  refine at_callb hA (c37s h hx hy) fun w2 hA hk hb2 => ⟨_, _, _, _, _, rfl, fun n8 hn8 n9 hn9 => ?_⟩
  have h2 := h.call hb2
  have hsz := hA.size
  refine brN (fun e => absurd rfl e) (fun _ => ?_)
  have far : ∀ {ds : List Nat}, (∀ d ∈ ds, d = n8 ∨ d = n9) → ∀ d ∈ ds, ¬ B d := fun hd d hm hb => by
    have := h2.bd d hb
    rcases hd d hm with e | e <;> omega
  have e1 : IntKind.i64.wrap (k + 1) = k + 1 := wrap_i64 (by omega) (by omega)
  have e2 : IntKind.i64.wrap (k - 1) = k - 1 := wrap_i64 (by omega) (by omega)
  refine ⟨fun v W' => (AtF W B [n8, n9] W' ∧ Ti W' B g p Tg Ta To ma mo mr mf) ∧ v.1 = pt gr ∧ v.2.1 = kW on a k, ?_, ?_⟩
  · have ev : ∀ {ds : List Nat}, (∀ d ∈ ds, d = n8 ∨ d = n9) → ∀ W', Evo ds w2 W' → Under [n8, n9] W' → AtF W B [n8, n9] W' ∧ Ti W' B g p Tg Ta To ma mo mr mf := fun hd W' he hu => ⟨hA.evo (fun d hm => by rcases hd d hm with e | e <;> omega) he hu, h2.evo he (far hd)⟩
    cases on <;> cases a
    · exact brB (fun e => by cases e) (fun _ => brB (fun _ => brB (fun e => by cases e) (fun _ W' he hu => ⟨ev (by simp) W' he hu, rfl, rfl⟩)) (fun e => by cases e))
    · exact brB (fun e => by cases e) (fun _ => brB (fun _ => brB (fun _ W' he hu => ⟨ev (by simp) W' he hu, rfl, e2⟩) (fun e => by cases e)) (fun e => by cases e))
    · exact brB (fun _ => brB (fun _ W' he hu => ⟨ev (by simp) W' he hu, rfl, e1⟩) (fun e => by cases e)) (fun e => by cases e)
    · exact brB (fun _ => brB (fun e => by cases e) (fun _ => brB (fun e => by cases e) (fun _ W' he hu => ⟨ev (by simp) W' he hu, rfl, rfl⟩))) (fun e => by cases e)
  rintro a19 x20 w21 ⟨⟨hA, h21⟩, ea, ek⟩
  simp only at ea ek
  subst ea ek
  have hs0 : ∀ b, B b → B b ∨ W.heap.size ≤ b := fun b hb => .inl hb
  have hg0 : ∀ y ∈ [n8, n9], ¬ B y := far (by simp)
  have hn8B : ¬ B n8 := hg0 n8 (by simp)
  have ne8 : ∀ {x : Nat}, B x → ∀ d ∈ [n8], d ≠ x := fun hx d hd e => by
    simp at hd
    subst hd
    subst e
    exact hn8B hx
  refine ⟨_, rfl, _, h21.rdF (ne8 h21.bg.1), _, rfl, _, h21.rdR (ne8 h21.bg.1), fun w26 he hu => ?_⟩
  have hA := hA.evo (gs' := [n8, n9]) (by simp; omega) he hu
  have h26 := h21.evo he (far (by simp))
  refine opw_mapEntry (kf := Value.int .i64) (vf := vF) (k := id) (z := ((0, false) : Int × Bool)) (kt := 2) (et := 90) KI2 t126 z126 hA (h26.fmA hs0 hg0) fun w28 m1 j v0 stamp hA hk hc1 hoE hset => ⟨_, _, _, rfl, hk, ?_⟩
  refine opw_entryStore (kf := Value.int .i64) (vf := vF) (k := id) (v := ((r, on) : Int × Bool)) hA hoE fun w33 hA hk hc2 hoM => ⟨hk, ?_⟩
  rw [hset] at hoM
  have hc12 : Chg (fun b => b = p.rf) w26 w33 := hc1.trans hc2 fun b _ hb => hb
  have h33 := h26.sF hc12 hoM (mset_nodup h26.nf)
  refine opw_mapEntryH (kf := Value.int .i64) (vf := vR) (k := r) (z := (gr, k)) (kt := 3) (et := 88) KI3 t125 hy hA (h33.rmA hs0 hg0) fun w35 m1 j v0 stamp hA hk hc1 hoE hset => ⟨_, _, _, rfl, hk, ?_⟩
  refine opw_entryStore (kf := Value.int .i64) (vf := vR) (k := r) (v := (gr, kW on a k)) hA hoE fun w40 hA hk hc2 hoM => ⟨hk, ?_⟩
  rw [hset] at hoM
  have h40 := h33.setK (hc1.trans hc2 fun b _ hb => hb) hoM (h33.own r _ hy)
  have hy40 : mget r (mset r (gr, kW on a k) mr) = some (gr, kW on a k) := mget_mset_self ..
  refine at_own (q := turnD (mo r) id (wakeF on)) hA hs0 h40 hy40 (c42 (h40.own r _ hy40) hlo id on) hg0 fun w42 B2 p2 hA hk hs2 hg2 h42 => ⟨_, rfl, hk, _, rfl, _, h42.rdA nod, fun w46 hb46 hu46 => ?_⟩
  have hA : AtF W B [n8, n9] w46 := ⟨(hA.call hb46).chg, hu46⟩
  have h46 := h42.call hb46
  refine at_allS (q := turnD ma r (wakeF (decide (kW on a k > 0)))) hA hs2 h46 (c42 h46.all hla r _) hg2 fun w48 B3 p3 hA hk hs3 hg3 h48 => ⟨_, rfl, hk, leafF hR hA ⟨rfl, B3, p3, hs3, h48⟩⟩
end Go.Vc.SZ

/- Tiers, plainly: one framework turned, put in, taken out. -/
set_option maxRecDepth 20000
set_option maxHeartbeats 1000000
set_option linter.unusedVariables false
namespace Go.Vc.SZ
open Go Go.Vc Go.RowKit Go.Proofs Go.Vc.T Vcz

variable {F : List Fr} {f : Fr} {id r k : Int} {h : Fr → Fr}

/-- A turn that leaves the number, the role and the weight. -/
structure Keep (h : Fr → Fr) : Prop where
  fid : ∀ f, (h f).fid = f.fid
  role : ∀ f, (h f).role = f.role
  w : ∀ f, (h f).w = f.w
theorem isR_upd (hk : Keep h) : isR (updF F id h) r = isR F r := by
  unfold isR updF
  rw [List.any_map]
  congr 1
  funext f
  simp only [Function.comp]
  split
  · rw [hk.role]
  · rfl
theorem wF_upd (hk : Keep h) : wF (updF F id h) r = wF F r := by
  unfold wF updF
  rw [List.find?_map]
  have e : ((fun f : Fr => decide (f.role = r)) ∘ fun f => if f.fid = id then h f else f) = fun f => decide (f.role = r) := funext fun f => by
    simp only [Function.comp]
    split
    · rw [hk.role]
    · rfl
  rw [e]
  cases F.find? fun f => decide (f.role = r) with
  | none => rfl
  | some f =>
    simp only [Option.map_some, Option.getD_some]
    split
    · rw [hk.w]
    · rfl
theorem upd_nd (hk : Keep h) (hn : (F.map (·.fid)).Nodup) : ((updF F id h).map (·.fid)).Nodup := by
  unfold updF
  rw [List.map_map]
  have e : ((fun f : Fr => f.fid) ∘ fun f => if f.fid = id then h f else f) = fun f => f.fid := funext fun f => by
    simp only [Function.comp]
    split
    · rw [hk.fid]
    · rfl
  rw [e]
  exact hn
theorem isR_of (hf : f ∈ F) : isR F f.role = true := isR_iff.2 ⟨f, hf, rfl⟩
theorem wF_of (hw : ∀ f ∈ F, ∀ f' ∈ F, f.role = f'.role → f.w = f'.w) (hf : f ∈ F) : wF F f.role = f.w := by
  unfold wF
  cases e : F.find? fun x => decide (x.role = f.role) with
  | none =>
    rw [List.find?_eq_none] at e
    exact absurd (e f hf) (by simp)
  | some x =>
    have h1 := List.mem_of_find?_eq_some e
    have h2 : x.role = f.role := by simpa using List.find?_some e
    exact hw x h1 f hf h2
theorem own_upd (hk : Keep h) (hn : (F.map (·.fid)).Nodup) (hf : fget F id = some f) (r k : Int) : mget k (ownL (updF F id h) r) = if k = id ∧ r = f.role then some (clF (h f)) else mget k (ownL F r) := by
  rw [own_get (upd_nd hk hn), own_get hn, fget_upd hk.fid]
  by_cases e : k = id
  · rw [e, hf, Option.map_some, Option.bind_some, Option.bind_some, if_pos (fget_some hf).2, hk.role]
    by_cases e2 : f.role = r
    · rw [if_pos e2, if_pos ⟨rfl, e2.symm⟩]
    · rw [if_neg e2, if_neg (fun hh => e2 hh.2.symm), if_neg e2]
  · rw [if_neg (fun hh => e hh.1)]
    cases e2 : fget F k with
    | none => rfl
    | some f' =>
      have := (fget_some e2).2
      rw [Option.map_some, Option.bind_some, Option.bind_some, if_neg (by rw [this]; exact e : ¬ f'.fid = id)]
theorem sumF_eq {φ : Fr → Int} (hn : (F.map (·.fid)).Nodup) (hk : Keep h) (hf : fget F id = some f) (hr : f.role ≠ r) : agF φ r (updF F id h) = agF φ r F := by
  rw [agF_upd φ hk.role r hn hf, if_neg hr]
  omega
theorem all_upd (hF : FOk F) (hk : Keep h) (hf : fget F id = some f) (k : Int) : mget k (allL (updF F id h)) = if k = f.role then some (rcl (updF F id h) k) else mget k (allL F) := by
  have hm := (fget_some hf).1
  rw [all_get, all_get, isR_upd hk]
  by_cases e : k = f.role
  · subst e
    rw [if_pos rfl, if_pos ⟨(hF.ok f hm).1, isR_of hm⟩]
  · rw [if_neg e]
    have hne : f.role ≠ k := fun h => e h.symm
    have : rcl (updF F id h) k = rcl F k := by
      unfold rcl sumF cntF
      rw [wF_upd hk, sumF_eq hF.nd hk hf hne, sumF_eq hF.nd hk hf hne, sumF_eq hF.nd hk hf hne, sumF_eq hF.nd hk hf hne, sumF_eq hF.nd hk hf hne]
    rw [this]
theorem mem_upd {x : Fr} (hx : x ∈ updF F id h) : ∃ y ∈ F, x = (if y.fid = id then h y else y) := by
  obtain ⟨y, hy, rfl⟩ := List.mem_map.1 hx
  exact ⟨y, hy, rfl⟩
theorem FOk.upd (hF : FOk F) (hk : Keep h) (hf : fget F id = some f) (hn : 0 ≤ (h f).s.1 ∧ 0 ≤ (h f).s.2.1 ∧ 0 ≤ (h f).s.2.2.1 ∧ 0 ≤ (h f).s.2.2.2) (hs : sm4 (sumF (updF F id h) f.role)) : FOk (updF F id h) := by
  have same : ∀ y ∈ F, y.fid = id → y = f := fun y hy e => by
    have := fget_of hF.nd hy
    rw [e, hf] at this
    cases this
    rfl
  have rl : ∀ y : Fr, (if y.fid = id then h y else y).role = y.role := fun y => by split <;> simp [hk.role]
  have wl : ∀ y : Fr, (if y.fid = id then h y else y).w = y.w := fun y => by split <;> simp [hk.w]
  refine ⟨upd_nd hk hF.nd, fun x hx => ?_, fun x hx x' hx' e => ?_, fun x hx => ?_, fun r => ?_⟩
  · obtain ⟨y, hy, rfl⟩ := mem_upd hx
    rw [rl, wl]
    exact hF.ok y hy
  · obtain ⟨y, hy, rfl⟩ := mem_upd hx
    obtain ⟨y', hy', rfl⟩ := mem_upd hx'
    rw [rl, rl] at e
    rw [wl, wl]
    exact hF.wt y hy y' hy' e
  · obtain ⟨y, hy, rfl⟩ := mem_upd hx
    split
    · rename_i e
      rw [same y hy e]
      exact hn
    · exact hF.nn y hy
  · by_cases e : f.role = r
    · rw [← e]; exact hs
    · have : sumF (updF F id h) r = sumF F r := by
        unfold sumF
        rw [sumF_eq hF.nd hk hf e, sumF_eq hF.nd hk hf e, sumF_eq hF.nd hk hf e, sumF_eq hF.nd hk hf e]
      rw [this]
      exact hF.sm r
theorem FOk.empty : FOk [] := ⟨by simp, by simp, by simp, by simp, fun r => sm0⟩
/-- What a framework has is part of what its role has. -/
theorem FOk.part (hF : FOk F) (hf : f ∈ F) : f.s.1 ≤ (sumF F f.role).1 ∧ f.s.2.1 ≤ (sumF F f.role).2.1 ∧ f.s.2.2.1 ≤ (sumF F f.role).2.2.1 ∧ f.s.2.2.2 ≤ (sumF F f.role).2.2.2 :=
  ⟨(agF_le (φ := (·.s.1)) fun f hf => (hF.nn f hf).1).2 f hf rfl, (agF_le (φ := (·.s.2.1)) fun f hf => (hF.nn f hf).2.1).2 f hf rfl, (agF_le (φ := (·.s.2.2.1)) fun f hf => (hF.nn f hf).2.2.1).2 f hf rfl, (agF_le (φ := (·.s.2.2.2)) fun f hf => (hF.nn f hf).2.2.2).2 f hf rfl⟩
theorem cnt_range (r : Int) : ∀ F : List Fr, 0 ≤ cntF F r ∧ cntF F r ≤ F.length
  | [] => by simp [cntF, agF]
  | f :: F => by
    have := cnt_range r F
    unfold cntF at *
    rw [agF, List.length_cons]
    have h1 : 0 ≤ one1 f ∧ one1 f ≤ 1 := by unfold one1; split <;> decide
    split <;> omega
theorem len_upd : (updF F id h).length = F.length := by unfold updF; rw [List.length_map]
/-! ### One is taken out -/
theorem del_nd (hn : (F.map (·.fid)).Nodup) : ((delF F id).map (·.fid)).Nodup := hn.sublist (List.filter_sublist.map _)
theorem own_del (hn : (F.map (·.fid)).Nodup) (r k : Int) : mget k (ownL (delF F id) r) = if k = id then none else mget k (ownL F r) := by
  rw [own_get (del_nd hn), own_get hn, fget_del]
  split <;> rfl
theorem isR_del (hn : (F.map (·.fid)).Nodup) (hf : fget F id = some f) (hr : f.role ≠ r) : isR (delF F id) r = isR F r := by
  rw [Bool.eq_iff_iff, isR_iff, isR_iff]
  constructor
  · rintro ⟨x, hx, e⟩
    exact ⟨x, (List.mem_filter.1 hx).1, e⟩
  · rintro ⟨x, hx, e⟩
    refine ⟨x, List.mem_filter.2 ⟨hx, decide_eq_true fun e2 => hr ?_⟩, e⟩
    have := fget_of hn hx
    rw [e2, hf] at this
    cases this
    exact e
theorem wF_del (hF : FOk F) (hr : isR (delF F id) r = true) : wF (delF F id) r = wF F r := by
  obtain ⟨x, hx, rfl⟩ := isR_iff.1 hr
  have hx' := (List.mem_filter.1 hx).1
  rw [wF_of hF.wt hx', wF_of (F := delF F id) (fun a ha b hb => hF.wt a (List.mem_filter.1 ha).1 b (List.mem_filter.1 hb).1) hx]
theorem all_del (hF : FOk F) (hf : fget F id = some f) (k : Int) : mget k (allL (delF F id)) = if k = f.role then (if isR (delF F id) k = true then some (rcl (delF F id) k) else none) else mget k (allL F) := by
  have hm := (fget_some hf).1
  rw [all_get, all_get]
  by_cases e : k = f.role
  · subst e
    rw [if_pos rfl]
    by_cases e2 : isR (delF F id) f.role = true
    · rw [if_pos e2, if_pos ⟨(hF.ok f hm).1, e2⟩]
    · rw [if_neg e2, if_neg (fun hh => e2 hh.2)]
  · have hne : f.role ≠ k := fun h => e h.symm
    rw [if_neg e, isR_del hF.nd hf hne]
    by_cases e2 : isR F k = true
    · have hd : ∀ φ : Fr → Int, agF φ k (delF F id) = agF φ k F := fun φ => by rw [agF_del φ k hF.nd hf, if_neg hne]; omega
      have : rcl (delF F id) k = rcl F k := by
        unfold rcl sumF cntF
        rw [wF_del hF (by rw [isR_del hF.nd hf hne]; exact e2), hd, hd, hd, hd, hd]
      rw [this]
    · rw [if_neg (fun hh => e2 hh.2), if_neg (fun hh => e2 hh.2)]
theorem FOk.del (hF : FOk F) (hf : fget F id = some f) : FOk (delF F id) := by
  have sub : ∀ x ∈ delF F id, x ∈ F := fun x hx => (List.mem_filter.1 hx).1
  refine ⟨del_nd hF.nd, fun x hx => hF.ok x (sub x hx), fun x hx y hy => hF.wt x (sub x hx) y (sub y hy), fun x hx => hF.nn x (sub x hx), fun r => ?_⟩
  have h1 := hF.sm r
  have hp := hF.part (fget_some hf).1
  have hn := hF.nn f (fget_some hf).1
  unfold sm4 sumF at *
  simp only [agF_del _ r hF.nd hf]
  by_cases e : f.role = r
  · subst e
    simp only [if_true]
    simp only at hp h1
    omega
  · simp only [if_neg e]
    simp only at h1
    omega
/-! ### One is put in -/
theorem isR_put : isR (F ++ [f]) r = (isR F r || decide (f.role = r)) := by
  unfold isR
  rw [List.any_append]
  simp
theorem put_nd (hn : (F.map (·.fid)).Nodup) (hf : fget F f.fid = none) : ((F ++ [f]).map (·.fid)).Nodup := by
  rw [List.map_append, List.map_cons, List.map_nil]
  refine List.nodup_append.2 ⟨hn, by simp, fun a ha b hb => ?_⟩
  obtain ⟨x, hx, rfl⟩ := List.mem_map.1 ha
  rw [List.mem_singleton.1 hb]
  exact fget_none.1 hf x hx
theorem own_put (hn : (F.map (·.fid)).Nodup) (hf : fget F f.fid = none) (r k : Int) : mget k (ownL (F ++ [f]) r) = if k = f.fid ∧ r = f.role then some (clF f) else mget k (ownL F r) := by
  rw [own_get (put_nd hn hf), own_get hn, fget_append]
  by_cases e : k = f.fid
  · rw [e, hf, Option.none_or, if_pos rfl, Option.bind_some, Option.bind_none]
    by_cases e2 : f.role = r
    · rw [if_pos e2, if_pos ⟨rfl, e2.symm⟩]
    · rw [if_neg e2, if_neg (fun hh => e2 hh.2.symm)]
  · rw [if_neg (fun hh : f.fid = k => e hh.symm), Option.or_none, if_neg (fun hh => e hh.1)]
theorem wF_put (hw : isR F f.role = true → wF F f.role = f.w) : wF (F ++ [f]) r = if r = f.role then f.w else wF F r := by
  unfold wF at *
  rw [List.find?_append]
  by_cases e : r = f.role
  · subst e
    rw [if_pos rfl]
    cases e2 : F.find? fun x => decide (x.role = f.role) with
    | none => simp
    | some x =>
      have : isR F f.role = true := isR_iff.2 ⟨x, List.mem_of_find?_eq_some e2, by simpa using List.find?_some e2⟩
      have := hw this
      rw [e2] at this
      simpa using this
  · rw [if_neg e]
    have : ¬ f.role = r := fun h => e h.symm
    simp [this]
theorem agF_put (φ : Fr → Int) : agF φ r (F ++ [f]) = agF φ r F + if f.role = r then φ f else 0 := by
  rw [agF_append, agF, agF]
  omega
theorem all_put (hr : 1 ≤ f.role ∧ f.role ≤ 32) (hw : isR F f.role = true → wF F f.role = f.w) (k : Int) : mget k (allL (F ++ [f])) = if k = f.role then some (rcl (F ++ [f]) k) else mget k (allL F) := by
  rw [all_get, all_get, isR_put]
  by_cases e : k = f.role
  · subst e
    rw [if_pos rfl, if_pos ⟨hr, by simp⟩]
  · have hne : ¬ f.role = k := fun h => e h.symm
    rw [if_neg e]
    have : rcl (F ++ [f]) k = rcl F k := by
      unfold rcl sumF cntF
      rw [wF_put hw, if_neg e]
      simp only [agF_put, if_neg hne, Int.add_zero]
    rw [this]
    simp [hne]
theorem FOk.put (hF : FOk F) (hf : fget F f.fid = none) (hr : 1 ≤ f.role ∧ f.role ≤ 32) (hww : 1 ≤ f.w ∧ f.w ≤ 1000) (hw : isR F f.role = true → wF F f.role = f.w) (h0 : f.s = (0, 0, 0, 0)) : FOk (F ++ [f]) := by
  refine ⟨put_nd hF.nd hf, fun x hx => ?_, fun x hx y hy e => ?_, fun x hx => ?_, fun r => ?_⟩
  · rcases List.mem_append.1 hx with hx | hx
    · exact hF.ok x hx
    · rw [List.mem_singleton.1 hx]; exact ⟨hr, hww⟩
  · rcases List.mem_append.1 hx with h1 | h1 <;> rcases List.mem_append.1 hy with h2 | h2
    · exact hF.wt x h1 y h2 e
    · have h2 := List.mem_singleton.1 h2
      subst h2
      rw [← hw (isR_iff.2 ⟨x, h1, e⟩), ← e, wF_of hF.wt h1]
    · have h1 := List.mem_singleton.1 h1
      subst h1
      rw [← hw (isR_iff.2 ⟨y, h2, e.symm⟩), e, wF_of hF.wt h2]
    · rw [List.mem_singleton.1 h1, List.mem_singleton.1 h2]
  · rcases List.mem_append.1 hx with hx | hx
    · exact hF.nn x hx
    · rw [List.mem_singleton.1 hx, h0]; decide
  · have := hF.sm r
    unfold sm4 sumF at *
    simp only [agF_put, h0, ite_self, Int.add_zero]
    exact this
end Go.Vc.SZ

/- Tiers: Wake, Give, Take, told by the frameworks. -/
set_option maxRecDepth 20000
set_option maxHeartbeats 1000000
set_option linter.unusedVariables false
namespace Go.Vc.SZ
open Go Go.Vc Go.RowKit Go.Proofs Go.Vc.T Vcz

variable {w W W' W1 : World} {M N B B0 B' : Nat → Prop} {gs ds : List Nat} {g gr : Nat} {p : TiP} {T Tg Ta n s : Ar4} {To : Int → Ar4} {ma ma' m : List (Int × Cl)} {mo mo' : MO} {mr mr' : MR} {mf mf' : MF} {id r k : Int} {a : Bool} {F : List Fr} {f : Fr} {h : Fr → Fr}

def RM (F : List Fr) (mr : MR) : Prop := ∀ r, (mget r mr).map (·.2) = if isR F r = true then some (cntF F r) else none
def FM (F : List Fr) (mf : MF) : Prop := ∀ id, mget id mf = (fget F id).map fun f => (f.role, f.aw)
/-- Tiers in memory: their frameworks. -/
structure TiX (W : World) (B : Nat → Prop) (g : Nat) (T : Ar4) (F : List Fr) : Prop where
  ok : FOk F
  sT : sm4 T
  ex : ∃ B' p mr mf, (∀ b, B' b → B b) ∧ Ti W B' g p T T (fun _ => T) (allL F) (ownL F) mr mf ∧ RM F mr ∧ FM F mf
theorem Ti.re (h : Ti W B g p Tg Ta To ma mo mr mf) (ha : ∀ k, mget k ma = mget k ma') (hna : (ma'.map (·.1)).Nodup) (ho : ∀ r x, mget r mr = some x → ∀ k, mget k (mo r) = mget k (mo' r)) (hno : ∀ r, ((mo' r).map (·.1)).Nodup) : Ti W B g p Tg Ta To ma' mo' mr mf :=
  ⟨h.tb, h.all.re (same_of_get h.all.good.nd hna ha) hna, h.rm, h.fm, h.nr, h.nf, fun r x hx => (h.own r x hx).re (same_of_get (h.own r x hx).good.nd (hno r) (ho r x hx)) (hno r), h.bg, h.rrf, h.ba, h.bo, h.oo, h.bd⟩
theorem TiX.call (h : TiX W B g T F) (hb : Bel W W') : TiX W' B g T F := by
  obtain ⟨B', p, mr, mf, h1, h2, h3⟩ := h.ex
  exact ⟨h.ok, h.sT, B', p, mr, mf, h1, h2.call hb, h3⟩
theorem TiX.mono (h : TiX W B g T F) (hB : ∀ b, b < W.heap.size → B b → B0 b) : TiX W B0 g T F := by
  obtain ⟨B', p, mr, mf, h1, h2, h3⟩ := h.ex
  exact ⟨h.ok, h.sT, B', p, mr, mf, fun b hb => hB b (h2.bd b hb) (h1 b hb), h2, h3⟩
theorem TiX.chg (h : TiX W B g T F) (hc : Chg N W W') (hn : ∀ b, B b → b < W.heap.size → ¬ N b) : TiX W' B g T F := by
  obtain ⟨B', p, mr, mf, h1, h2, h3⟩ := h.ex
  exact ⟨h.ok, h.sT, B', p, mr, mf, h1, h2.chg hc fun b hb => hn b (h1 b hb) (h2.bd b hb), h3⟩
theorem TiX.evo (h : TiX W B g T F) (he : Evo ds W W') (hd : ∀ d ∈ ds, B d → W.heap.size ≤ d) : TiX W' B g T F := h.chg (Chg.of_evo he) fun b hb hl hm => by have := hd b hm hb; omega
theorem RM.of (hm : RM F mr) (hf : f ∈ F) : ∃ gr, mget f.role mr = some (gr, cntF F f.role) := by
  have := hm f.role
  rw [if_pos (isR_of hf)] at this
  cases e : mget f.role mr with
  | none => rw [e] at this; cases this
  | some x =>
    rw [e] at this
    simp only [Option.map_some, Option.some.injEq] at this
    exact ⟨x.1, by rw [← this]⟩
theorem FM.of (hm : FM F mf) (hf : fget F id = some f) : mget id mf = some (f.role, f.aw) := by rw [hm, hf]; rfl
theorem RM.set (hm : RM F mr) (hk : Keep h) (hf : fget F id = some f) (hn : (F.map (·.fid)).Nodup) (hc : cntF (updF F id h) f.role = k) : RM (updF F id h) (mset f.role (gr, k) mr) := fun r => by
  rw [isR_upd hk]
  by_cases e : r = f.role
  · rw [e, mget_mset_self, if_pos (isR_of (fget_some hf).1), hc]
    rfl
  · rw [mget_mset_ne _ e, hm r]
    have : cntF (updF F id h) r = cntF F r := sumF_eq hn hk hf fun hh => e hh.symm
    rw [this]
theorem keepAw (on : Bool) : Keep fun f => ⟨f.fid, f.role, f.w, f.s, on⟩ := ⟨fun _ => rfl, fun _ => rfl, fun _ => rfl⟩
theorem keepS (s : Ar4) : Keep fun f => ⟨f.fid, f.role, f.w, s, f.aw⟩ := ⟨fun _ => rfl, fun _ => rfl, fun _ => rfl⟩
abbrev hAw (on : Bool) : Fr → Fr := fun f => ⟨f.fid, f.role, f.w, f.s, on⟩
abbrev hS (s : Ar4) : Fr → Fr := fun f => ⟨f.fid, f.role, f.w, s, f.aw⟩
def wakeT (F : List Fr) (id : Int) (on : Bool) : List Fr × Int := match fget F id with
  | none => (F, 43)
  | some _ => (updF F id (hAw on), 0)
abbrev TxQ (W : World) (B : Nat → Prop) (g : Nat) (T : Ar4) (q : List Fr × Int) (v : Value) (W' : World) : Prop := v = .int .i64 q.2 ∧ TiX W' (fun b => B b ∨ W.heap.size ≤ b) g T q.1

theorem c21n (h : Ti W B g p Tg Ta To ma mo mr mf) (hx : mget id mf = none) (on : Bool) : Ret Tryz.prog 21 #[.pointer (pt g), .int .i64 id, .bool on] W (.int .i64 43) := by
  intro R hR
  refine f21_calls _ _ _ W R ?_
  unfold f21_vc
  refine at_callb (At.refl W) (c37n h hx) fun w2 hA hk hb2 => ⟨_, _, _, _, _, rfl, fun n8 hn8 n9 hn9 => brN (fun _ w10 he hu => leaf (gs := [n8, n9]) hR (hA.evo (by have := hA.size; simp; omega) he hu) rfl) (fun e => by cases e)⟩
theorem sum_aw (on : Bool) (hn : (F.map (·.fid)).Nodup) (hf : fget F id = some f) (r : Int) : sumF (updF F id (hAw on)) r = sumF F r := by
  have e : ∀ φ : Fr → Int, (φ (hAw on f) = φ f) → agF φ r (updF F id (hAw on)) = agF φ r F := fun φ hφ => by
    rw [agF_upd φ (keepAw on).role r hn hf, hφ]
    split <;> omega
  unfold sumF
  rw [e (·.s.1) rfl, e (·.s.2.1) rfl, e (·.s.2.2.1) rfl, e (·.s.2.2.2) rfl]
theorem cnt_aw (on : Bool) (hn : (F.map (·.fid)).Nodup) (hf : fget F id = some f) : cntF (updF F id (hAw on)) f.role = kW on f.aw (cntF F f.role) := by
  unfold cntF
  rw [agF_upd one1 (keepAw on).role _ hn hf, if_pos rfl]
  unfold one1 kW
  cases on <;> cases f.aw <;> simp <;> omega
/-- Behind a step that leaves the parts told so, tiers are as these frameworks say. -/
theorem TiX.of {F' : List Fr} (hok : FOk F') (hT : sm4 T) (h : TiQ W B g T T (fun _ => T) ma mo mr mf W') (ha : ∀ k, mget k ma = mget k (allL F')) (ho : ∀ r, isR F' r = true → ∀ k, mget k (mo r) = mget k (ownL F' r)) (hr : RM F' mr) (hf : FM F' mf) : TiX W' (fun b => B b ∨ W.heap.size ≤ b) g T F' := by
  obtain ⟨B', p', h1, h2⟩ := h
  refine ⟨hok, hT, B', p', mr, mf, h1, h2.re ha (all_nd F') (fun r x hx k => ho r ?_ k) (fun r => own_nd hok.nd r), hr, hf⟩
  have := hr r
  rw [hx] at this
  by_cases e : isR F' r = true
  · exact e
  · rw [if_neg e] at this
    cases this
theorem TiQ.mono {B1 : Nat → Prop} (h : TiQ W B1 g Tg Ta To ma mo mr mf W') (hB : ∀ b, B1 b → B b) : TiQ W B g Tg Ta To ma mo mr mf W' := by
  obtain ⟨B', p', h1, h2⟩ := h
  exact ⟨B', p', fun b hb => (h1 b hb).imp (hB b) fun e => e, h2⟩
theorem RetF.mono' {fn : FuncId} {args : Array Value} {N N' : Nat → Prop} {Q Q' : Value → World → Prop} (h : RetF Tryz.prog fn args W N Q) (hN : ∀ b, N b → N' b) (hQ : ∀ v W', Q v W' → Q' v W') : RetF Tryz.prog fn args W N' Q' := fun R hR => h R fun v w' hc hq => hR v w' (hc.mono fun b _ hb => hN b hb) (hQ v w' hq)
theorem c21x (h : TiX W B g T F) (hl : F.length ≤ 1000) (id : Int) (on : Bool) : RetF Tryz.prog 21 #[.pointer (pt g), .int .i64 id, .bool on] W B (TxQ W B g T (wakeT F id on)) := by
  obtain ⟨B', p, mr, mf, hsub, hT, hr, hm⟩ := h.ex
  cases e : fget F id with
  | none =>
    intro R hR
    refine c21n hT (by rw [hm, e]; rfl) on R fun w' hb => hR _ w' (Chg.of_below hb) ?_
    unfold wakeT
    rw [e]
    exact ⟨rfl, (h.call hb).mono fun b _ hb => .inl hb⟩
  | some f =>
    have hf := (fget_some e).1
    obtain ⟨gr, hy⟩ := hr.of hf
    have hx := hm.of e
    have hc := cnt_range f.role F
    have hal := all_len F
    have hol := own_len F f.role
    refine RetF.mono' (c21 hT hx hy (by omega) (by omega) (by omega) on) hsub fun v W' hq => ?_
    obtain ⟨hv, hq⟩ := hq
    subst hv
    have hall : mget f.role (allL F) = some (rcl F f.role) := by rw [all_get, if_pos ⟨(h.ok.ok f hf).1, isR_of hf⟩]
    have hown : mget id (ownL F f.role) = some (clF f) := by rw [own_get h.ok.nd, e, Option.bind_some, if_pos rfl]
    have e1 : turnD (allL F) f.role (wakeF (decide (kW on f.aw (cntF F f.role) > 0))) = (mset f.role ⟨wF F f.role, sumF F f.role, decide (kW on f.aw (cntF F f.role) > 0)⟩ (allL F), 0) := by
      unfold turnD
      rw [hall]
      rfl
    have e2 : turnD (ownL F f.role) id (wakeF on) = (mset id ⟨1, f.s, on⟩ (ownL F f.role), 0) := by
      unfold turnD
      rw [hown]
      rfl
    rw [e1, e2] at hq
    unfold wakeT
    rw [e]
    have hok := h.ok.upd (keepAw on) e (h.ok.nn f hf) (by rw [sum_aw on h.ok.nd e]; exact h.ok.sm _)
    refine ⟨by rw [e1], TiX.of hok h.sT (hq.mono hsub) (fun k => ?_) (fun r hr' k => ?_) (hr.set (keepAw on) e h.ok.nd (cnt_aw on h.ok.nd e)) (fun k => ?_)⟩
    · rw [all_upd h.ok (keepAw on) e]
      by_cases ek : k = f.role
      · rw [ek, mget_mset_self, if_pos rfl]
        unfold rcl
        rw [wF_upd (keepAw on), sum_aw on h.ok.nd e, cnt_aw on h.ok.nd e]
      · rw [mget_mset_ne _ ek, if_neg ek]
    · rw [own_upd (keepAw on) h.ok.nd e]
      unfold updO
      by_cases er : r = f.role
      · rw [if_pos er, er]
        by_cases ek : k = id
        · rw [ek, mget_mset_self, if_pos ⟨rfl, rfl⟩]
          rfl
        · rw [mget_mset_ne _ ek, if_neg (fun hh => ek hh.1)]
      · rw [if_neg er, if_neg (fun hh => er hh.2)]
    · rw [fget_upd (keepAw on).fid]
      by_cases ek : k = id
      · rw [ek, mget_mset_self, e, Option.map_some, Option.map_some, if_pos (fget_some e).2]
      · rw [mget_mset_ne _ ek, hm k]
        cases e3 : fget F k with
        | none => rfl
        | some f' => rw [Option.map_some, Option.map_some, Option.map_some, if_neg (by rw [(fget_some e3).2]; exact ek)]
end Go.Vc.SZ

