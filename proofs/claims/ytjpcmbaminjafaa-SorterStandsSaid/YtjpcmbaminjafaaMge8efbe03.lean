/- Own texts of this claim, laid together: So4, VcAlloc, So5, FS9, So6, So7, FS10, So8, So9, SoArg, FS11, So10. -/
import Derived.Test.YtjpcmbaminjafaaMgc832c12f
import Derived.Test.YtjpcmbaminjafaaProg

/- The sorter as its state tells; look, turn. -/
set_option maxRecDepth 20000
set_option maxHeartbeats 1000000
namespace Go.Vc.S
open Go Go.Vc Go.RowKit Go.Proofs Go.Vc.T Vcs

variable {w W W' W1 : World} {M N : Nat → Prop} {gs ds : List Nat} {g r gt : Nat} {T : Ar4} {m m0 m1 : List (Int × Cl)} {t : Tr Pl} {bs bs0 : List Nat} {id : Int} {c : Cl} {B B' : Nat → Prop}

/-- A sorter in memory: its blocks are of B; it holds these clients, in some order. -/
structure SoX (W : World) (B : Nat → Prop) (g : Nat) (T : Ar4) (m : List (Int × Cl)) : Prop where
  good : Good T m
  ex : ∃ m0 r gt t bs, (∀ x, x ∈ m0 ↔ x ∈ m) ∧ (m0.map (·.1)).Nodup ∧ SoS W g r gt T m0 t bs ∧ TrG T m0 t ∧ ∀ b, Sk g r gt bs b → B b
theorem same_good (hg : Good T m) (h : ∀ x, x ∈ m0 ↔ x ∈ m) (hn : (m0.map (·.1)).Nodup) : Good T m0 := ⟨hn, fun x hx => hg.ok x ((h x).1 hx), hg.sm⟩
theorem same_get {α : Type} {m0 m : List (Int × α)} (h : ∀ x, x ∈ m0 ↔ x ∈ m) (hn : (m0.map (·.1)).Nodup) (hn2 : (m.map (·.1)).Nodup) (k : Int) : mget k m0 = mget k m := by
  cases h1 : mget k m0 with
  | some c => exact (mget_of_mem hn2 ((h _).1 (mem_of_mget h1))).symm
  | none =>
    cases h2 : mget k m with
    | none => rfl
    | some c =>
      have := mget_of_mem hn ((h _).2 (mem_of_mget h2))
      rw [h1] at this
      cases this
theorem same_len {α : Type} {m0 m : List (Int × α)} (h : ∀ x, x ∈ m0 ↔ x ∈ m) (hn : (m0.map (·.1)).Nodup) (hn2 : (m.map (·.1)).Nodup) : m0.length = m.length := by
  have h1 := nodup_len (l' := m.map (·.1)) hn fun k hk => by
    obtain ⟨x, hx, rfl⟩ := List.mem_map.1 hk
    exact List.mem_map.2 ⟨x, (h x).1 hx, rfl⟩
  have h2 := nodup_len (l' := m0.map (·.1)) hn2 fun k hk => by
    obtain ⟨x, hx, rfl⟩ := List.mem_map.1 hk
    exact List.mem_map.2 ⟨x, (h x).2 hx, rfl⟩
  simp only [List.length_map] at h1 h2
  omega
theorem same_mset {α : Type} {m0 m : List (Int × α)} {k : Int} {v : α} (h : ∀ x, x ∈ m0 ↔ x ∈ m) (hn : (m0.map (·.1)).Nodup) (hn2 : (m.map (·.1)).Nodup) : ∀ x, x ∈ mset k v m0 ↔ x ∈ mset k v m := fun x => by rw [mem_mset hn, mem_mset hn2, h]
theorem same_mdel {α : Type} {m0 m : List (Int × α)} {k : Int} (h : ∀ x, x ∈ m0 ↔ x ∈ m) (hn : (m0.map (·.1)).Nodup) (hn2 : (m.map (·.1)).Nodup) : ∀ x, x ∈ mdel k m0 ↔ x ∈ mdel k m := fun x => by rw [mem_mdel hn, mem_mdel hn2, h]
theorem SoX.chg (h : SoX W B g T m) (hc : Chg N W W') (hn : ∀ b, B b → b < W.heap.size → ¬ N b) : SoX W' B g T m := by
  obtain ⟨m0, r, gt, t, bs, h1, h2, h3, h4, h5⟩ := h.ex
  exact ⟨h.good, m0, r, gt, t, bs, h1, h2, h3.chg hc fun b hb => hn b (h5 b hb) (h3.lt b hb), h4, h5⟩
theorem SoX.call (h : SoX W B g T m) (hb : Bel W W') : SoX W' B g T m := h.chg (N := noB) (Chg.of_below hb) fun _ _ _ => fun e => e
theorem SoX.mono (h : SoX W B g T m) (hB : ∀ b, b < W.heap.size → B b → B' b) : SoX W B' g T m := by
  obtain ⟨m0, r, gt, t, bs, h1, h2, h3, h4, h5⟩ := h.ex
  exact ⟨h.good, m0, r, gt, t, bs, h1, h2, h3, h4, fun b hb => hB b (h3.lt b hb) (h5 b hb)⟩
/-- Hidden boxes are none of the sorter's. -/
theorem SoX.evo (h : SoX W B g T m) (he : Evo ds W W') (hd : ∀ d ∈ ds, B d → W.heap.size ≤ d) : SoX W' B g T m := h.chg (Chg.of_evo he) fun b hb hl hm => by have := hd b hm hb; omega

theorem c45 (h : SoX W B g T m) : Ret Try.prog 45 #[.pointer (pt g)] W (.bool true) := by
  intro R hR
  refine f45_calls _ W R ?_
  unfold f45_vc
  obtain ⟨m0, r, gt, t, bs, h1, h2, h3, h4, h5⟩ := h.ex
  exact ⟨true, (fun W => rfl), brB (fun _ => ⟨_, rfl, _, h3.rdR nod, true, (fun W => rfl), leaf hR (At.refl W) rfl⟩) (fun e => by cases e)⟩
theorem c45n (W : World) : Ret Try.prog 45 #[.pointer none] W (.bool false) := by
  intro R hR
  refine f45_calls _ W R ?_
  unfold f45_vc
  exact ⟨false, (fun W => rfl), brB (fun e => by cases e) (fun _ => leaf hR (At.refl W) rfl)⟩
theorem c47 (h : SoX W B g T m) (id : Int) : Ret Try.prog 47 #[.pointer (pt g), .int .i64 id] W (lookV2 (clV T) z8 (mget id m)) := by
  intro R hR
  refine f47_calls _ _ W R ?_
  unfold f47_vc
  have hA := At.refl W
  refine go_n hA fun n1 h1 => go_below_too hA fun w2 hA hb => at_callb hA (c45 (h.call hb)) fun w4 hA hk hb4 => ⟨_, rfl, hk, brB (fun e => by cases e) (fun _ => ?_)⟩
  have h := (h.call hb).call hb4
  obtain ⟨m0, r, gt, t, bs, k1, k2, k3, k4, k5⟩ := h.ex
  have hlk := k3.look id (ds := []) nod
  rw [same_get k1 k2 h.good.nd] at hlk
  refine ⟨_, rfl, _, k3.rdR nod, ?_⟩
  cases hx : mget id m with
  | none =>
    rw [hx] at hlk hR
    exact ⟨_, _, _, _, _, _, _, _, _, hlk, go_n hA fun n18 h18 => go_evo hA (by simp; omega) fun w19 hA => leaf hR hA rfl⟩
  | some c =>
    rw [hx] at hlk hR
    exact ⟨_, _, _, _, _, _, _, _, _, hlk, go_n hA fun n18 h18 => go_evo hA (by simp; omega) fun w19 hA => leaf hR hA rfl⟩
def heavy (x : Int) : Bool := decide (x < 1 ∨ x > 1000)
theorem c57 (x : Int) (w : World) : Ret Try.prog 57 #[.int .i64 x] w (.bool (heavy x)) := by
  intro R h
  refine f57_calls x w R ?_
  unfold f57_vc
  unfold heavy at h
  refine brD (fun h1 => leaf h (At.refl w) ?_) (fun h1 => leaf h (At.refl w) ?_)
  · simp [h1]
  · simp [h1]
theorem c54 (a : Ar4) (w : World) : Ret Try.prog 54 #[arT a] w (.bool (decide (sm4 a))) := by
  intro R h
  refine Vcsu.f54_calls _ _ _ _ w R ?_
  unfold Vcsu.f54_vc
  have hA := At.refl w
  have no : ¬ sm4 a → ∀ W, At w [] W → R (.returned (.bool false)) W := fun hn W hA => leaf h hA (by rw [decide_eq_false hn])
  unfold sm4 at no
  refine go_n hA fun n1 _ => ⟨_, (fun W => rfl), ?_⟩
  refine brD (fun h1 => go_below (gs' := [n1]) hA fun _ hA => no (by omega) _ hA.off) (fun h1 => brD (fun h2 => go_below (gs' := [n1]) hA fun _ hA => no (by omega) _ hA.off) (fun h2 => ⟨_, (fun W => rfl), ?_⟩))
  refine brD (fun h3 => go_below (gs' := [n1]) hA fun _ hA => no (by omega) _ hA.off) (fun h3 => brD (fun h4 => go_below (gs' := [n1]) hA fun _ hA => no (by omega) _ hA.off) (fun h4 => ⟨_, (fun W => rfl), ?_⟩))
  refine brD (fun h5 => go_below (gs' := [n1]) hA fun _ hA => no (by omega) _ hA.off) (fun h5 => brD (fun h6 => go_below (gs' := [n1]) hA fun _ hA => no (by omega) _ hA.off) (fun h6 => ⟨_, (fun W => rfl), ?_⟩))
  refine brD (fun h7 => go_below (gs' := [n1]) hA fun _ hA => no (by omega) _ hA.off) (fun h7 => brD (fun h8 => go_below (gs' := [n1]) hA fun _ hA => no (by omega) _ hA.off) (fun h8 => ?_))
  refine go_below (gs' := [n1]) hA fun _ hA => ?_
  exact leaf h hA (by rw [decide_eq_true (show sm4 a by unfold sm4; omega)])
/-- What a set leaves of a sorter. -/
theorem c58x (n d : Int) (h : SoX W B g T m) (hc : okC c) (hl : m.length < 100000) :
    RetF Try.prog 58 #[.pointer (pt g), .int .i64 id, cl8 n d c.w c.s c.aw] W B (fun v W' => v = .tuple #[] ∧ SoX W' (fun b => B b ∨ W.heap.size ≤ b) g T (mset id c m)) := by
  obtain ⟨m0, r, gt, t, bs, k1, k2, k3, k4, k5⟩ := h.ex
  have hg0 := same_good h.good k1 k2
  intro R hR
  refine c58 n d k3 k4 hg0 hc (by rw [same_len k1 k2 h.good.nd]; exact hl) R fun v w' hch ⟨hv, t', bs', h1, h2, h3⟩ => ?_
  refine hR v w' (hch.mono fun b _ hb => k5 b hb) ⟨hv, h.good.mset hc, mset id c m0, r, gt, t', bs', same_mset k1 k2 h.good.nd, mset_nodup k2, h1, h2, ?_⟩
  rintro b (e | e | e | e)
  · exact .inl (k5 b (.inl e))
  · exact .inl (k5 b (.inr (.inl e)))
  · exact .inl (k5 b (.inr (.inr (.inl e))))
  · exact (h3 b e).imp (fun e => k5 b (.inr (.inr (.inr e)))) fun e => e

/-- A turn of one client. -/
def turnD (m : List (Int × Cl)) (id : Int) (f : Cl → Cl × Int) : List (Int × Cl) × Int := match mget id m with
  | none => (m, 43)
  | some c => if (f c).2 = 0 then (mset id (f c).1 m, 0) else (m, (f c).2)
theorem c51 {how : Value} (f : Cl → Cl × Int) (h : SoX W B g T m) (hl : m.length < 100000) (hf : ∀ c, okC c → (f c).2 = 0 → okC (f c).1)
    (hh : ∀ W', Bel W W' → ∀ c, (id, c) ∈ m → ∃ n d, RetI how #[clV T c] W' (.tuple #[cl8 n d (f c).1.w (f c).1.s (f c).1.aw, .int .i64 (f c).2])) :
    RetF Try.prog 51 #[.pointer (pt g), .int .i64 id, how] W B (fun v W' => v = .int .i64 (turnD m id f).2 ∧ SoX W' (fun b => B b ∨ W.heap.size ≤ b) g T (turnD m id f).1) := by
  intro R hR
  refine f51_calls _ _ _ W R ?_
  unfold f51_vc
  have hA : AtF W B [] W := AtF.refl W _
  have h : SoX W (fun b => B b ∧ b < W.heap.size) g T m := h.mono fun _ hl hb => ⟨hb, hl⟩
  have up : ∀ {W2 : World} {m' : List (Int × Cl)}, SoX W2 (fun b => B b ∧ b < W.heap.size) g T m' → SoX W2 (fun b => B b ∨ W.heap.size ≤ b) g T m' := fun h => h.mono fun _ _ hb => .inl hb.1
  refine at_callb hA (c45 h) fun w2 hA _ hb => ⟨_, rfl, brB (fun e => by cases e) (fun _ => ?_)⟩
  have h := h.call hb
  refine at_callb hA (c47 h id) fun w5 hA _ hb5 => ?_
  have h := h.call hb5
  have hbel := hb.trans hb5
  have hs5 := hbel.size
  unfold turnD at hR
  cases hx : mget id m with
  | none =>
    rw [hx] at hR
    refine ⟨_, _, _, _, _, _, _, _, _, rfl, fun n15 h15 => brB (fun _ w16 he hu => ?_) fun e => by cases e⟩
    have hb := he.bel (by simpa using h15)
    exact leafF hR (hA.call hb) ⟨rfl, up (h.call hb)⟩
  | some c =>
    rw [hx] at hR
    have hm := mem_of_mget hx
    have hoc := h.good.ok _ hm
    refine ⟨_, _, _, _, _, _, _, _, _, rfl, fun n15 h15 => brB (fun e => by cases e) fun _ w17 he hu => ?_⟩
    have hb := he.bel (by simpa using h15)
    have hbel := hbel.trans hb
    have hA : AtF W B [n15] w17 := ⟨(hA.call hb).chg, hu⟩
    have h := h.call hb
    obtain ⟨n, d, hr⟩ := hh w17 hbel c hm
    refine at_inv hA hr fun w19 hA hk hb => ?_
    have h := h.call hb
    have hbel := hbel.trans hb
    refine ⟨_, _, _, _, _, _, _, _, _, rfl, hk, fun n29 h29 => brE (fun hz w30 he hu => ?_) fun hz w33 he hu => ?_⟩
    · have hb := he.bel (by simpa using h29)
      have hA : AtF W B [n15, n29] w30 := ⟨(hA.call hb).chg, hu⟩
      have h := h.call hb
      simp only [if_pos hz] at hR
      have hs := hbel.size
      refine at_callF hA (c58x n d h (hf c hoc hz) hl) (fun q _ hq => .inr hq.1) (fun x hx hq => by
        have := hq.2
        have := (he.size)
        simp at hx
        omega) fun v w32 hA2 hk hch ⟨hv, hX⟩ => ?_
      subst hv
      rw [hz]
      exact ⟨rfl, hk, leafF hR hA2 ⟨rfl, hX.mono fun b _ hb => hb.elim (fun hb => .inl hb.1) fun hb => .inr (Nat.le_trans hA.size hb)⟩⟩
    · have hb := he.bel (by simpa using h29)
      simp only [if_neg hz] at hR
      exact leafF hR (hA.call hb) ⟨rfl, up (h.call hb)⟩
end Go.Vc.S

/- A variable in a block of its own: made, then stored into. -/
namespace Go.Vc
open Go Go.RowKit
section
variable {P : Program} {w W : World} {M : Nat → Prop} {gs : List Nat}
theorem opw_allocS {t : TypeId} (zc : List Value) {zv : Value} {K : Value → World → Prop} (hz : pureRun P (zeroValue t) = some zv) (hc : zv.cells = zc.toArray) (hA : AtF w M gs W)
    (h : ∀ g w', W.heap.size = g → AtF w M gs w' → Keeps gs W w' → Bel W w' → w'.heap[g]? = some (.cells zc.toArray t (0, 0)) → K (.pointer (some ⟨g, 0, none⟩)) w') : OpW P (valueS (Instr.alloc t true (.tuple #[]))) W K := by
  unfold OpW
  rw [run_valueS (run_alloc hz)]
  refine h _ _ rfl (hA.call (below_alloc _)) (hA.keeps (below_alloc _)) (below_alloc _) ?_
  rw [heap_alloc_new, hc]
/-- Made, and stored into at once: a new block. -/
theorem opw_boxed {t te : TypeId} (zc cs : List Value) {zv v : Value} {K : Nat → World → Prop} (hz : pureRun P (zeroValue t) = some zv) (hc : zv.cells = zc.toArray) (hs : cellStore P te zc 0 v = some cs) (hA : AtF w M gs W)
    (h : ∀ g w', W.heap.size = g → AtF w M gs w' → Keeps gs W w' → Bel W w' → w'.heap[g]? = some (.cells cs.toArray t (0, 0)) → K g w') :
    OpW P (valueS (Instr.alloc t true (.tuple #[]))) W fun p w' => ∃ ad, p = .pointer (some ad) ∧ OpW P (skipS (Instr.storeAt te (.pointer (some ad)) v)) w' fun _ w'' => K ad.block w'' ∧ ad = ⟨ad.block, 0, none⟩ := by
  refine opw_allocS zc hz hc hA fun g w' hg hA' hk hb hblk => ⟨_, rfl, ?_⟩
  refine opw_storeF (w := W) (M := noB) (gs := gs) (cells := zc) ⟨Chg.of_below hb, hA'.under⟩ hblk (.inl (by omega)) (fun hx => ?_) hs fun w2 hA2 hk2 hch hb2 => ⟨?_, rfl⟩
  · have := hA.under g hx
    omega
  · have hbel : Bel W w2 := hA2.below
    exact h g w2 hg (hA.call hbel) (hA.keeps hbel) hbel hb2
end
end Go.Vc

/- What is done to one client. -/
set_option maxRecDepth 20000
set_option maxHeartbeats 1000000
namespace Go.Vc.S
open Go Go.Vc Go.RowKit Go.Proofs Go.Vc.T Vcs

variable {w W W' W1 : World} {M N : Nat → Prop} {gs ds : List Nat} {g r gt p : Nat} {T n : Ar4} {m m0 m1 : List (Int × Cl)} {id : Int} {c : Cl} {B B' : Nat → Prop}

abbrev ad4 (a b : Ar4) : Ar4 := (a.1 + b.1, a.2.1 + b.2.1, a.2.2.1 + b.2.2.1, a.2.2.2 + b.2.2.2)
abbrev sb4 (a b : Ar4) : Ar4 := (a.1 - b.1, a.2.1 - b.2.1, a.2.2.1 - b.2.2.1, a.2.2.2 - b.2.2.2)
abbrev sR4 (a : Ar4) : Prop := sumR a.1 a.2.1 a.2.2.1 a.2.2.2
abbrev sH4 (a b : Ar4) : Prop := sumH a.1 a.2.1 a.2.2.1 a.2.2.2 b.1 b.2.1 b.2.2.1 b.2.2.2
def addD (a b : Ar4) : Option Ar4 := if sR4 a ∧ sR4 b ∧ sR4 (ad4 a b) then some (ad4 a b) else none
def subD (a b : Ar4) : Option Ar4 := if sH4 a b then some (sb4 a b) else none
def giveF (n : Ar4) (c : Cl) : Cl × Int := match addD c.s n with
  | none => (c, 41)
  | some s => if sm4 s then (⟨c.w, s, c.aw⟩, 0) else (c, 41)
def takeF (n : Ar4) (c : Cl) : Cl × Int := match subD c.s n with
  | none => (c, 30)
  | some s => (⟨c.w, s, c.aw⟩, 0)
def weighF (x : Int) (c : Cl) : Cl × Int := if heavy x then (c, 41) else (⟨x, c.s, c.aw⟩, 0)
def wakeF (on : Bool) (c : Cl) : Cl × Int := (⟨c.w, c.s, on⟩, 0)
theorem give_ok (hc : okC c) (hz : (giveF n c).2 = 0) : okC (giveF n c).1 := by
  unfold giveF at *
  cases h : addD c.s n with
  | none => simp only [h] at hz; cases hz
  | some s =>
    simp only at hz ⊢
    split
    · rename_i hs; exact ⟨hs, hc.2⟩
    · exact hc
theorem take_ok (hc : okC c) (hz : (takeF n c).2 = 0) : okC (takeF n c).1 := by
  unfold takeF at *
  cases h : subD c.s n with
  | none => simp only [h] at hz; cases hz
  | some s =>
    simp only
    unfold subD at h
    split at h
    · rename_i hs
      cases h
      obtain ⟨⟨p0, p1, p2, p3⟩, hw⟩ := hc
      obtain ⟨⟨a0, a1, a2, a3⟩, _, b0, b1, b2, b3⟩ := hs
      exact ⟨⟨by simp only; omega, by simp only; omega, by simp only; omega, by simp only; omega⟩, hw⟩
    · cases h
theorem weigh_ok {x : Int} (hc : okC c) : okC (weighF x c).1 := by
  unfold weighF heavy
  split
  · exact hc
  · rename_i h
    have : ¬ (x < 1 ∨ x > 1000) := by simpa using h
    exact ⟨hc.1, by simp only; omega, by simp only; omega⟩
theorem wake_ok {on : Bool} (hc : okC c) : okC (wakeF on c).1 := hc

theorem c52 {a d : Int} (hb : W.heap[p]? = some (.cells ([.int .i64 n.1, .int .i64 n.2.1, .int .i64 n.2.2.1, .int .i64 n.2.2.2] : List Value).toArray 41 (0, 0))) (c : Cl) : Ret Try.prog 52 #[cl8 a d c.w c.s c.aw, .pointer (pt p)] W (.tuple #[cl8 a d (giveF n c).1.w (giveF n c).1.s (giveF n c).1.aw, .int .i64 (giveF n c).2]) := by
  intro R h
  refine f52_calls _ _ _ _ _ _ _ _ _ W R ?_
  unfold f52_vc
  have hA := At.refl W
  refine go_n hA fun n1 h1 => go_n hA fun n2 h2 => ⟨_, _, _, _, (elt_cells hb).agg 4 (by kernel_rfl) (by kernel_rfl) (by simp) no_ds, go_below hA fun w7 hA => ?_⟩
  refine at_call hA (c53 _ _ _ _ _ _ _ _ _) fun w9 hA hk => ?_
  unfold giveF addD at h
  unfold sumA
  by_cases hs : sR4 c.s ∧ sR4 n ∧ sR4 (ad4 c.s n)
  · simp only [if_pos hs] at h ⊢
    refine ⟨_, _, _, _, _, rfl, hk, go_n hA fun n15 h15 => brB (fun e => by cases e) fun _ => go_evo hA (by simp; omega) fun w17 hA => ?_⟩
    refine at_call hA (c54 (ad4 c.s n) _) fun w19 hA hk => ⟨_, rfl, hk, brND (fun hn => ?_) fun hp => ?_⟩
    · rw [if_neg hn] at h
      exact go_evo hA (by simp; omega) fun w21 hA => leaf h hA rfl
    · rw [if_pos hp] at h
      exact go_evo hA (by simp; omega) fun w21 hA => leaf h hA rfl
  · simp only [if_neg hs] at h ⊢
    exact ⟨_, _, _, _, _, rfl, hk, go_n hA fun n15 h15 => brB (fun _ => go_evo hA (by simp; omega) fun w16 hA => leaf h hA rfl) fun e => by cases e⟩
theorem c55 {a d : Int} (hb : W.heap[p]? = some (.cells ([.int .i64 n.1, .int .i64 n.2.1, .int .i64 n.2.2.1, .int .i64 n.2.2.2] : List Value).toArray 41 (0, 0))) (c : Cl) : Ret Try.prog 55 #[cl8 a d c.w c.s c.aw, .pointer (pt p)] W (.tuple #[cl8 a d (takeF n c).1.w (takeF n c).1.s (takeF n c).1.aw, .int .i64 (takeF n c).2]) := by
  intro R h
  refine f55_calls _ _ _ _ _ _ _ _ _ W R ?_
  unfold f55_vc
  have hA := At.refl W
  refine go_n hA fun n1 h1 => go_n hA fun n2 h2 => ⟨_, _, _, _, (elt_cells hb).agg 4 (by kernel_rfl) (by kernel_rfl) (by simp) no_ds, go_below hA fun w7 hA => ?_⟩
  refine at_call hA (c56 _ _ _ _ _ _ _ _ _) fun w9 hA hk => ?_
  unfold takeF subD at h
  unfold sumS
  by_cases hs : sH4 c.s n
  · simp only [if_pos hs] at h ⊢
    exact ⟨_, _, _, _, _, rfl, hk, go_n hA fun n15 h15 => brB (fun e => by cases e) fun _ => go_evo hA (by simp; omega) fun w17 hA => leaf h hA rfl⟩
  · simp only [if_neg hs] at h ⊢
    exact ⟨_, _, _, _, _, rfl, hk, go_n hA fun n15 h15 => brB (fun _ => go_evo hA (by simp; omega) fun w16 hA => leaf h hA rfl) fun e => by cases e⟩
theorem c80 {x a d : Int} (hb : W.heap[p]? = some (.cells ([.int .i64 x] : List Value).toArray 2 (0, 0))) (c : Cl) : Ret Try.prog 80 #[cl8 a d c.w c.s c.aw, .pointer (pt p)] W (.tuple #[cl8 a d (weighF x c).1.w (weighF x c).1.s (weighF x c).1.aw, .int .i64 (weighF x c).2]) := by
  intro R h
  refine f80_calls _ _ _ _ _ _ _ _ _ W R ?_
  unfold f80_vc
  have hA := At.refl W
  have hp := (Array.getElem?_eq_some_iff.1 hb).1
  unfold weighF at h
  refine go_n hA fun n1 h1 => go_n hA fun n2 h2 => ⟨_, rd_f0 hb (by kernel_rfl) nod, go_below_too hA fun w4 hA hb4 => at_callb hA (c57 x _) fun w6 hA hk hb6 => ⟨_, rfl, hk, brB (fun e => ?_) fun e => ?_⟩⟩
  · rw [if_pos e] at h
    exact go_evo hA (by simp; omega) fun w16 hA => leaf h hA rfl
  · rw [if_neg (by rw [e]; simp)] at h
    have hb2 := (hb6.block (Nat.lt_of_lt_of_le hp hb4.size)).trans ((hb4.block hp).trans hb)
    exact ⟨_, rd_f0 hb2 (by kernel_rfl) nod, go_evo hA (by simp; omega) fun w16 hA => leaf h hA rfl⟩
theorem c81 {on : Bool} {a d : Int} (hb : W.heap[p]? = some (.cells ([.bool on] : List Value).toArray 4 (0, 0))) (c : Cl) : Ret Try.prog 81 #[cl8 a d c.w c.s c.aw, .pointer (pt p)] W (.tuple #[cl8 a d (wakeF on c).1.w (wakeF on c).1.s (wakeF on c).1.aw, .int .i64 (wakeF on c).2]) := by
  intro R h
  refine f81_calls _ _ _ _ _ _ _ _ _ W R ?_
  unfold f81_vc
  have hA := At.refl W
  exact go_n hA fun n1 h1 => go_n hA fun n2 h2 => ⟨_, rd_f0 hb (by kernel_rfl) nod, go_evo hA (by simp; omega) fun w16 hA => leaf h hA rfl⟩

/-- What a method leaves of a sorter. -/
abbrev TnQ (W : World) (B : Nat → Prop) (g : Nat) (T : Ar4) (q : List (Int × Cl) × Int) (v : Value) (W' : World) : Prop := v = .int .i64 q.2 ∧ SoX W' (fun b => B b ∨ W.heap.size ≤ b) g T q.1
theorem TnQ.up {q : List (Int × Cl) × Int} {v : Value} (h : TnQ W1 B g T q v W') (hs : W.heap.size ≤ W1.heap.size) : TnQ W B g T q v W' := ⟨h.1, h.2.mono fun _ _ hb => hb.imp (fun e => e) fun e => Nat.le_trans hs e⟩
theorem c15 (h : SoX W B g T m) (hl : m.length < 100000) (id : Int) (n : Ar4) : RetF Try.prog 15 #[.pointer (pt g), .int .i64 id, arT n] W B (TnQ W B g T (turnD m id (giveF n))) := by
  intro R hR
  refine f15_calls _ _ _ _ _ _ W R ?_
  unfold f15_vc
  have hA : AtF W B [] W := AtF.refl W _
  refine opw_boxS hA fun p w2 hp hA _ hb hblk => ⟨_, rfl, ?_⟩
  refine at_callF hA (c51 (how := fnV 52 #[.pointer (pt p)]) (giveF n) (h.call hb) hl (fun c hc hz => give_ok hc hz) fun W' hb' c hm => ⟨_, _, RetI.of (by kernel_rfl) (c52 ((hb'.block (Array.getElem?_eq_some_iff.1 hblk).1).trans hblk) c)⟩) (fun q _ hq => .inr hq) (by simp) fun v w5 hA2 _ hch hq => ?_
  have hq := TnQ.up (W := W) hq hb.size
  obtain ⟨hv, hX⟩ := hq
  subst hv
  exact ⟨_, rfl, leafF hR hA2 ⟨rfl, hX⟩⟩
theorem c16 (h : SoX W B g T m) (hl : m.length < 100000) (id : Int) (n : Ar4) : RetF Try.prog 16 #[.pointer (pt g), .int .i64 id, arT n] W B (TnQ W B g T (turnD m id (takeF n))) := by
  intro R hR
  refine f16_calls _ _ _ _ _ _ W R ?_
  unfold f16_vc
  have hA : AtF W B [] W := AtF.refl W _
  refine opw_boxS hA fun p w2 hp hA _ hb hblk => ⟨_, rfl, ?_⟩
  refine at_callF hA (c51 (how := fnV 55 #[.pointer (pt p)]) (takeF n) (h.call hb) hl (fun c hc hz => take_ok hc hz) fun W' hb' c hm => ⟨_, _, RetI.of (by kernel_rfl) (c55 ((hb'.block (Array.getElem?_eq_some_iff.1 hblk).1).trans hblk) c)⟩) (fun q _ hq => .inr hq) (by simp) fun v w5 hA2 _ hch hq => ?_
  have hq := TnQ.up (W := W) hq hb.size
  obtain ⟨hv, hX⟩ := hq
  subst hv
  exact ⟨_, rfl, leafF hR hA2 ⟨rfl, hX⟩⟩
theorem c43 (h : SoX W B g T m) (hl : m.length < 100000) (id x : Int) : RetF Try.prog 43 #[.pointer (pt g), .int .i64 id, .int .i64 x] W B (TnQ W B g T (turnD m id (weighF x))) := by
  intro R hR
  refine f43_calls _ _ _ W R ?_
  unfold f43_vc
  have hA : AtF W B [] W := AtF.refl W _
  refine opw_boxS hA fun p w2 hp hA _ hb hblk => ⟨_, rfl, ?_⟩
  refine at_callF hA (c51 (how := fnV 80 #[.pointer (pt p)]) (weighF x) (h.call hb) hl (fun c hc _ => weigh_ok hc) fun W' hb' c hm => ⟨_, _, RetI.of (by kernel_rfl) (c80 ((hb'.block (Array.getElem?_eq_some_iff.1 hblk).1).trans hblk) c)⟩) (fun q _ hq => .inr hq) (by simp) fun v w5 hA2 _ hch hq => ?_
  have hq := TnQ.up (W := W) hq hb.size
  obtain ⟨hv, hX⟩ := hq
  subst hv
  exact ⟨_, rfl, leafF hR hA2 ⟨rfl, hX⟩⟩
theorem c44 (h : SoX W B g T m) (hl : m.length < 100000) (id : Int) (on : Bool) : RetF Try.prog 44 #[.pointer (pt g), .int .i64 id, .bool on] W B (TnQ W B g T (turnD m id (wakeF on))) := by
  intro R hR
  refine f44_calls _ _ _ W R ?_
  unfold f44_vc
  have hA : AtF W B [] W := AtF.refl W _
  refine opw_boxS hA fun p w2 hp hA _ hb hblk => ⟨_, rfl, ?_⟩
  refine at_callF hA (c51 (how := fnV 81 #[.pointer (pt p)]) (wakeF on) (h.call hb) hl (fun c hc _ => wake_ok hc) fun W' hb' c hm => ⟨_, _, RetI.of (by kernel_rfl) (c81 ((hb'.block (Array.getElem?_eq_some_iff.1 hblk).1).trans hblk) c)⟩) (fun q _ hq => .inr hq) (by simp) fun v w5 hA2 _ hch hq => ?_
  have hq := TnQ.up (W := W) hq hb.size
  obtain ⟨hv, hX⟩ := hq
  subst hv
  exact ⟨_, rfl, leafF hR hA2 ⟨rfl, hX⟩⟩
/-- One is dropped. -/
def dropD (m : List (Int × Cl)) (id : Int) : List (Int × Cl) × Int := match mget id m with
  | none => (m, 43)
  | some _ => (mdel id m, 0)
theorem c42 (h : SoX W B g T m) (hl : m.length < 100000) (id : Int) : RetF Try.prog 42 #[.pointer (pt g), .int .i64 id] W B (TnQ W B g T (dropD m id)) := by
  intro R hR
  refine f42_calls _ _ W R ?_
  unfold f42_vc
  have hA : AtF W B [] W := AtF.refl W _
  refine at_callF hA (c44 h hl id false) (fun q _ hq => .inr hq) (by simp) fun v w2 hA _ hch ⟨hv, hX⟩ => ?_
  subst hv
  unfold turnD dropD at *
  cases hx : mget id m with
  | none =>
    simp only [hx] at hX hR ⊢
    exact ⟨_, rfl, brE (fun e => by cases e) fun _ => leafF hR hA ⟨rfl, hX⟩⟩
  | some c =>
    simp only [hx, wakeF, if_pos] at hX hR ⊢
    refine ⟨_, rfl, brE (fun _ => ?_) fun e => absurd rfl e⟩
    obtain ⟨m0, r, gt, t, bs, k1, k2, k3, k4, k5⟩ := hX.ex
    have hne := k3.ne
    have hg0 := same_good hX.good k1 k2
    have hsz := hA.size
    refine ⟨_, rfl, _, k3.rdR nod, opw_delete (kf := idV) (vf := clV T) (k := id) keyOk_id (t := 44) (et := 101) (by kernel_rfl) hA (k3.mp.base1 (w' := W) (M' := B) ((k5 r (.inr (.inl rfl))).symm) (by simp)) fun w7 hA _ hch7 hM => ⟨rfl, leafF hR hA ⟨rfl, ?_⟩⟩⟩
    have hsl : ∀ c0, (id, c0) ∈ m0 → c0.aw = false := fun c0 hm => by
      have := mget_of_mem hX.good.nd ((k1 _).1 hm)
      rw [mget_mset_self] at this
      cases this
      rfl
    refine ⟨?_, mdel id m0, r, gt, t, bs, fun x => ?_, mdel_nodup k2, ⟨(hch7.block g k3.glt hne.1).trans k3.tb, hM.base1 (.inr rfl) (by simp), k3.tr.chg hch7 (fun e => hne.2.2.1 e.symm) fun q hq e => hne.2.2.2.2 (e ▸ hq)⟩, k4.del hg0 hsl, k5⟩
    · exact h.good.mdel
    · rw [mem_mdel k2, k1, mem_mset h.good.nd, mem_mdel h.good.nd]
      constructor
      · rintro ⟨e | ⟨e, _⟩, hne⟩
        · exact absurd (by rw [e]) hne
        · exact ⟨e, hne⟩
      · rintro ⟨e, hne⟩
        exact ⟨.inr ⟨e, hne⟩, hne⟩
/-- One is put in. -/
def putD (m : List (Int × Cl)) (id x : Int) : List (Int × Cl) × Int := if heavy x then (m, 41) else match mget id m with
  | some _ => (m, 42)
  | none => (mset id ⟨x, (0, 0, 0, 0), true⟩ m, 0)
theorem c18 (h : SoX W B g T m) (hl : m.length < 100000) (id x : Int) : RetF Try.prog 18 #[.pointer (pt g), .int .i64 id, .int .i64 x] W B (TnQ W B g T (putD m id x)) := by
  intro R hR
  refine f18_calls _ _ _ W R ?_
  unfold f18_vc
  have hA : AtF W B [] W := AtF.refl W _
  have h : SoX W (fun b => B b ∧ b < W.heap.size) g T m := h.mono fun _ hl hb => ⟨hb, hl⟩
  have up : ∀ {W2 : World} {m' : List (Int × Cl)}, SoX W2 (fun b => B b ∧ b < W.heap.size) g T m' → SoX W2 (fun b => B b ∨ W.heap.size ≤ b) g T m' := fun h => h.mono fun _ _ hb => .inl hb.1
  unfold putD at hR
  have tail : ∀ (W1 : World) (b11 : Bool) (n12 : Nat), W.heap.size ≤ n12 → AtF W B [n12] W1 → SoX W1 (fun b => B b ∧ b < W.heap.size) g T m → (b11 = (mget id m).isSome) → Calls Try.prog 45 #[.pointer (pt g)] W1 fun e14 w15 => ∃ b16, e14 = Ending.returned (.bool b16) ∧ Keeps [n12] W1 w15 ∧ ((!b16) = true → R (.returned (.int .i64 40)) w15) ∧ ((!b16) = false → Calls Try.prog 57 #[.int .i64 x] w15 fun e17 w18 => ∃ b19, e17 = Ending.returned (.bool b19) ∧ Keeps [n12] w15 w18 ∧ (b19 = true → R (.returned (.int .i64 41)) w18) ∧ (b19 = false → (b11 = true → R (.returned (.int .i64 42)) w18) ∧ (b11 = false → Calls Try.prog 58 #[.pointer (pt g), .int .i64 id, cl8 0 0 x (0, 0, 0, 0) true] w18 fun e20 w21 => e20 = Ending.returned (.tuple #[]) ∧ Keeps [n12] w18 w21 ∧ R (.returned (.int .i64 0)) w21))) := by
    intro W1 b11 n12 hn12 hA h hb11
    refine at_callb hA (c45 h) fun w15 hA hk hb => ⟨_, rfl, hk, brB (fun e => by cases e) fun _ => ?_⟩
    refine at_callb hA (c57 x _) fun w18 hA hk hb2 => ⟨_, rfl, hk, brB (fun e => ?_) fun e => ?_⟩
    · rw [if_pos e] at hR
      exact leafF hR hA ⟨rfl, up ((h.call hb).call hb2)⟩
    · rw [if_neg (by rw [e]; simp)] at hR
      have h := (h.call hb).call hb2
      refine brB (fun e1 => ?_) fun e1 => ?_
      · obtain ⟨c, hc⟩ := Option.isSome_iff_exists.1 (hb11.symm.trans e1)
        simp only [hc] at hR
        exact leafF hR hA ⟨rfl, up h⟩
      · have hn : mget id m = none := by
          cases hx : mget id m with
          | none => rfl
          | some c => rw [hb11, hx] at e1; cases e1
        simp only [hn] at hR
        have hx : ¬ (x < 1 ∨ x > 1000) := by simpa [heavy] using e
        have h4 : sm4 (0, 0, 0, 0) := by decide
        refine at_callF hA (c58x (c := ⟨x, (0, 0, 0, 0), true⟩) 0 0 h ⟨h4, by simp only; omega, by simp only; omega⟩ hl) (fun q _ hq => .inr hq.1) (fun y hy hq => by
          have := hq.2
          rw [List.mem_singleton.1 hy] at this
          omega) fun v w32 hA2 hk hch ⟨hv, hX⟩ => ?_
        subst hv
        exact ⟨rfl, hk, leafF hR hA2 ⟨rfl, hX.mono fun b _ hb => hb.elim (fun hb => .inl hb.1) fun hb => .inr (Nat.le_trans hA.size hb)⟩⟩
  refine at_callb hA (c47 h id) fun w2 hA _ hb => ?_
  have h := h.call hb
  have hs := hb.size
  cases hx : mget id m with
  | none =>
    refine ⟨_, _, _, _, _, _, _, _, _, rfl, fun n12 h12 w13 he hu => ?_⟩
    have hb := he.bel (by simpa using h12)
    exact tail w13 false n12 (by omega) ⟨(hA.call hb).chg, hu⟩ (h.call hb) (by rw [hx]; rfl)
  | some c =>
    refine ⟨_, _, _, _, _, _, _, _, _, rfl, fun n12 h12 w13 he hu => ?_⟩
    have hb := he.bel (by simpa using h12)
    exact tail w13 true n12 (by omega) ⟨(hA.call hb).chg, hu⟩ (h.call hb) (by rw [hx]; rfl)
end Go.Vc.S

/- The formulas of functions, printed by a program (VcTool.lean): each is what the generator's formula comes to, by the kernel's reckoning; whoever proves one has the function's contract. -/
set_option maxRecDepth 100000
set_option maxHeartbeats 4000000
set_option linter.unusedVariables false
namespace Vcst
open Go Go.Vc Go.RowKit
/-! (*manciple/sorter.Sorter).Total -/
def h19 : Hints := ⟨[3, 8], [16, 25, 27, 29, 42], [11, 14], [], [], [(9, ⟨[], []⟩)], [], [(34, .cons (.int .i64) (.cons (.agg (.cons (.int .i64) (.cons (.int .i64) (.cons (.int .i64) (.cons (.int .i64) (.cons (.int .i64) (.cons (.int .i64) (.cons (.int .i64) (.cons (.bool) (.nil)))))))))) (.nil))), (36, .cons (.int .i64) (.cons (.agg (.cons (.int .i64) (.cons (.int .i64) (.cons (.int .i64) (.cons (.int .i64) (.cons (.int .i64) (.cons (.int .i64) (.cons (.int .i64) (.cons (.bool) (.nil)))))))))) (.nil)))], [(6, (.op 0 (.op 1 (.op 2 (.op 3 (.alt (.op 4 (.op 5 (.op 6 (.op 7 (.op 8 (.op 9 (.op 10 (.op 11 (.op 12 (.op 13 (.op 14 .nil))))))))))) (.op 5 (.op 6 (.op 7 (.alt (.op 4 (.op 8 (.op 9 (.op 10 (.op 11 (.op 12 (.op 13 (.op 14 .nil)))))))) (.op 8 (.op 4 (.op 9 (.op 10 (.op 11 (.op 12 (.op 13 (.op 14 .nil))))))))))))))))))]⟩
def f19_vc (s : Option Addr) (t_0 : Int) (t_1 : Int) (t_2 : Int) (t_3 : Int) (w : World) (R : Ending → World → Prop) : Prop :=
 OpW Proofs.Try.prog (valueS (Instr.box 23 (Value.pointer s))) w fun (v1 : Value) (w2 : World) =>
 ∃ (ad3 : Addr),
 v1 = Value.pointer (some ad3) ∧
 ∀ (n4 : Nat),
 w2.heap.size ≤ n4 →
 ∃ (a5 : Option Addr),
 Reads Proofs.Try.prog [] (Instr.loadAt 23 (Value.pointer (some ad3))) w2 (Value.pointer a5) ∧
 ∀ (w6 : World),
 Bel w2 w6 →
 Under [n4] w6 →
 Calls Proofs.Try.prog 45 #[Value.pointer a5] w6 fun (e7 : Ending) (w8 : World) =>
 ∃ (b9 : Bool),
 e7 = Ending.returned (Value.bool b9) ∧
 Keeps [n4] w6 w8 ∧
 ((!b9) = true → R (Ending.returned (Value.int IntKind.i64 40)) w8) ∧
 ((!b9) = false →
 Calls Proofs.Try.prog 54 #[Value.agg #[Value.int IntKind.i64 t_0, Value.int IntKind.i64 t_1, Value.int IntKind.i64 t_2, Value.int IntKind.i64 t_3]] w8 fun (e10 : Ending) (w11 : World) =>
 ∃ (b12 : Bool),
 e10 = Ending.returned (Value.bool b12) ∧
 Keeps [n4] w8 w11 ∧
 ((!b12) = true → R (Ending.returned (Value.int IntKind.i64 41)) w11) ∧
 ((!b12) = false →
 ∃ (a13 : Option Addr),
 Reads Proofs.Try.prog [] (Instr.loadAt 23 (Value.pointer (some ad3))) w11 (Value.pointer a13) ∧
 ∃ (ad14 : Addr),
 a13 = some ad14 ∧
 ∃ (r15 : Option Nat),
 Reads Proofs.Try.prog [] (Instr.loadAt 44 (Value.pointer (some (Addr.mk ad14.block (ad14.off + 4) none)))) w11 (Value.map r15) ∧
 ∃ (a16 : Option Addr),
 Reads Proofs.Try.prog [] (Instr.loadAt 23 (Value.pointer (some ad3))) w11 (Value.pointer a16) ∧
 ∃ (a17 : Option Addr),
 Reads Proofs.Try.prog [] (Instr.loadAt 23 (Value.pointer (some ad3))) w11 (Value.pointer a17) ∧
 ∃ (a18 : Option Addr),
 Reads Proofs.Try.prog [] (Instr.loadAt 23 (Value.pointer (some ad3))) w11 (Value.pointer a18) ∧
 (∀ (w19 : World),
 Bel w11 w19 →
 Under [n4] w19 →
 OpW Proofs.Try.prog (valueS (Instr.makeMap 44 none)) w19 fun (v20 : Value) (w21 : World) =>
 ∃ (r22 : Option Nat),
 v20 = Value.map r22 ∧
 Keeps [n4] w19 w21 ∧
 Reads Proofs.Try.prog [] (Instr.loadAt 23 (Value.pointer (some ad3))) w21 (Value.pointer a18) ∧
 Reads Proofs.Try.prog [] (Instr.loadAt 23 (Value.pointer (some ad3))) w21 (Value.pointer a17) ∧
 Reads Proofs.Try.prog [] (Instr.loadAt 23 (Value.pointer (some ad3))) w21 (Value.pointer a16) ∧
 Calls Proofs.Try.prog 40 #[Value.func (Fn.func 41) #[] #[]] w21 fun (e23 : Ending) (w24 : World) =>
 ∃ (a25 : Option Addr),
 e23 = Ending.returned (Value.pointer a25) ∧
 Keeps [n4] w21 w24 ∧
 Reads Proofs.Try.prog [] (Instr.loadAt 23 (Value.pointer (some ad3))) w24 (Value.pointer a18) ∧
 Reads Proofs.Try.prog [] (Instr.loadAt 23 (Value.pointer (some ad3))) w24 (Value.pointer a17) ∧
 Reads Proofs.Try.prog [] (Instr.loadAt 23 (Value.pointer (some ad3))) w24 (Value.pointer a16) ∧
 ∃ (ad26 : Addr),
 a16 = some ad26 ∧
 OpW Proofs.Try.prog
 (skipS
 (Instr.storeAt 41 (Value.pointer (some ad26))
 (Value.agg #[Value.int IntKind.i64 t_0, Value.int IntKind.i64 t_1, Value.int IntKind.i64 t_2, Value.int IntKind.i64 t_3])))
 w24 fun (v27 : Value) (w28 : World) =>
 Keeps [n4] w24 w28 ∧
 Reads Proofs.Try.prog [] (Instr.loadAt 23 (Value.pointer (some ad3))) w28 (Value.pointer a18) ∧
 Reads Proofs.Try.prog [] (Instr.loadAt 23 (Value.pointer (some ad3))) w28 (Value.pointer a17) ∧
 ∃ (ad29 : Addr),
 a17 = some ad29 ∧
 OpW Proofs.Try.prog
 (skipS (Instr.storeAt 44 (Value.pointer (some (Addr.mk ad29.block (ad29.off + 4) none))) (Value.map r22))) w28
 fun (v30 : Value) (w31 : World) =>
 Keeps [n4] w28 w31 ∧
 Reads Proofs.Try.prog [] (Instr.loadAt 23 (Value.pointer (some ad3))) w31 (Value.pointer a18) ∧
 ∃ (ad32 : Addr),
 a18 = some ad32 ∧
 OpW Proofs.Try.prog
 (skipS
 (Instr.storeAt 45 (Value.pointer (some (Addr.mk ad32.block (ad32.off + 5) none))) (Value.pointer a25)))
 w31 fun (v33 : Value) (w34 : World) =>
 Keeps [n4] w31 w34 ∧
 OpW Proofs.Try.prog (valueS (Instr.range 44 (Value.map r15))) w34 fun (v35 : Value) (w36 : World) =>
 ∃ (ad37 : Addr),
 v35 = Value.pointer (some ad37) ∧
 Keeps [n4] w34 w36 ∧
 ∃ (J38 : Unit → World → Prop),
 ∃ (J39 : Unit → World → Nat),
 J38 () w36 ∧
 ∀ (w40 : World),
 J38 () w40 →
 OpW Proofs.Try.prog (valueS (Instr.next (Value.pointer (some ad37)) false 0)) w40
 fun (v41 : Value) (w42 : World) =>
 (v41 = Value.tuple #[Value.bool false] ∨
 ∃ (x :
 (nextShape
 (Hints.mk [3, 8] [16, 25, 27, 29, 42] [11, 14] [] [] [(9, LH.mk [] [])] []
 [(34,
 (Sh.int IntKind.i64).cons
 (((Sh.int IntKind.i64).cons
 ((Sh.int IntKind.i64).cons
 ((Sh.int IntKind.i64).cons
 ((Sh.int IntKind.i64).cons
 ((Sh.int IntKind.i64).cons
 ((Sh.int IntKind.i64).cons
 ((Sh.int IntKind.i64).cons
 (Sh.bool.cons Sh.nil)))))))).agg.cons
 Sh.nil)),
 (36,
 (Sh.int IntKind.i64).cons
 (((Sh.int IntKind.i64).cons
 ((Sh.int IntKind.i64).cons
 ((Sh.int IntKind.i64).cons
 ((Sh.int IntKind.i64).cons
 ((Sh.int IntKind.i64).cons
 ((Sh.int IntKind.i64).cons
 ((Sh.int IntKind.i64).cons
 (Sh.bool.cons Sh.nil)))))))).agg.cons
 Sh.nil))]
 [(6,
 Ot.op 0
 (Ot.op 1
 (Ot.op 2
 (Ot.op 3
 ((Ot.op 4
 (Ot.op 5
 (Ot.op 6
 (Ot.op 7
 (Ot.op 8
 (Ot.op 9
 (Ot.op 10
 (Ot.op 11
 (Ot.op 12
 (Ot.op 13
 (Ot.op 14 Ot.nil))))))))))).alt
 (Ot.op 5
 (Ot.op 6
 (Ot.op 7
 ((Ot.op 4
 (Ot.op 8
 (Ot.op 9
 (Ot.op 10
 (Ot.op 11
 (Ot.op 12
 (Ot.op 13 (Ot.op 14 Ot.nil)))))))).alt
 (Ot.op 8
 (Ot.op 4
 (Ot.op 9
 (Ot.op 10
 (Ot.op 11
 (Ot.op 12
 (Ot.op 13
 (Ot.op 14 Ot.nil)))))))))))))))))])
 #[Oper.mk (some 34) (Op.next (Operand.tmp 33) false) 0 "sorter.go:85" #[]
 none,
 Oper.mk (some 35) (Op.extract (Operand.tmp 34) 0) 4 "sorter.go:85"
 #[Edge.mk 0 Ground.data] none][0]).T),
 v41 =
 Value.tuple
 #[Value.bool true, Value.int IntKind.i64 x.fst,
 Value.agg
 #[Value.int IntKind.i64 x.snd.fst.fst,
 Value.int IntKind.i64 x.snd.fst.snd.fst,
 Value.int IntKind.i64 x.snd.fst.snd.snd.fst,
 Value.int IntKind.i64 x.snd.fst.snd.snd.snd.fst,
 Value.int IntKind.i64 x.snd.fst.snd.snd.snd.snd.fst,
 Value.int IntKind.i64 x.snd.fst.snd.snd.snd.snd.snd.fst,
 Value.int IntKind.i64 x.snd.fst.snd.snd.snd.snd.snd.snd.fst,
 Value.bool x.snd.fst.snd.snd.snd.snd.snd.snd.snd.fst]]) ∧
 (v41 = Value.tuple #[Value.bool false] →
 Keeps [n4] w40 w42 ∧ R (Ending.returned (Value.int IntKind.i64 0)) w42) ∧
 ∀ (x43 x44 x45 x46 x47 x48 x49 x50 : Int) (b51 : Bool),
 v41 =
 Value.tuple
 #[Value.bool true, Value.int IntKind.i64 x43,
 Value.agg
 #[Value.int IntKind.i64 x44, Value.int IntKind.i64 x45,
 Value.int IntKind.i64 x46, Value.int IntKind.i64 x47,
 Value.int IntKind.i64 x48, Value.int IntKind.i64 x49,
 Value.int IntKind.i64 x50, Value.bool b51]] →
 Keeps [n4] w40 w42 ∧
 OpW Proofs.Try.prog
 ((Instr.entry (Value.pointer (some ad37))).bind fun (__do_lift : Value) =>
 pure (Next.value __do_lift))
 w42 fun (v52 : Value) (w53 : World) =>
 ∃ (x54 : Int),
 ∃ (x55 : Int),
 ∃ (x56 : Int),
 ∃ (x57 : Int),
 ∃ (x58 : Int),
 ∃ (x59 : Int),
 ∃ (x60 : Int),
 ∃ (x61 : Int),
 ∃ (b62 : Bool),
 v52 =
 Value.tuple
 #[Value.int IntKind.i64 x54,
 Value.agg
 #[Value.int IntKind.i64 x55,
 Value.int IntKind.i64 x56,
 Value.int IntKind.i64 x57,
 Value.int IntKind.i64 x58,
 Value.int IntKind.i64 x59,
 Value.int IntKind.i64 x60,
 Value.int IntKind.i64 x61,
 Value.bool b62]] ∧
 Keeps [n4] w42 w53 ∧
 ∀ (n63 : Nat),
 w53.heap.size ≤ n63 →
 ∀ (w64 : World),
 Evo [n63] w53 w64 →
 Under [n4, n63] w64 →
 OpW Proofs.Try.prog
 (invokeS
 (Value.func (Fn.func 59) #[]
 #[Value.pointer (some ad3)])
 #[Value.int IntKind.i64 x54,
 Value.agg
 #[Value.int IntKind.i64 x55,
 Value.int IntKind.i64 x56,
 Value.int IntKind.i64 x57,
 Value.int IntKind.i64 x58,
 Value.int IntKind.i64 x59,
 Value.int IntKind.i64 x60,
 Value.int IntKind.i64 x61,
 Value.bool b62]])
 w64 fun (v65 : Value) (w66 : World) =>
 v65 = Value.tuple #[] ∧
 Keeps [n4, n63] w64 w66 ∧
 J38 () w66 ∧
 J39 () w66 < J39 () w40) ∧
 ∀ (w67 : World),
 Bel w11 w67 →
 Under [n4] w67 →
 Calls Proofs.Try.prog 40 #[Value.func (Fn.func 41) #[] #[]] w67 fun (e68 : Ending) (w69 : World) =>
 ∃ (a70 : Option Addr),
 e68 = Ending.returned (Value.pointer a70) ∧
 Keeps [n4] w67 w69 ∧
 Reads Proofs.Try.prog [] (Instr.loadAt 23 (Value.pointer (some ad3))) w69 (Value.pointer a18) ∧
 Reads Proofs.Try.prog [] (Instr.loadAt 23 (Value.pointer (some ad3))) w69 (Value.pointer a17) ∧
 Reads Proofs.Try.prog [] (Instr.loadAt 23 (Value.pointer (some ad3))) w69 (Value.pointer a16) ∧
 ∃ (ad71 : Addr),
 a16 = some ad71 ∧
 (OpW Proofs.Try.prog (valueS (Instr.makeMap 44 none)) w69 fun (v72 : Value) (w73 : World) =>
 ∃ (r74 : Option Nat),
 v72 = Value.map r74 ∧
 Keeps [n4] w69 w73 ∧
 Reads Proofs.Try.prog [] (Instr.loadAt 23 (Value.pointer (some ad3))) w73 (Value.pointer a18) ∧
 Reads Proofs.Try.prog [] (Instr.loadAt 23 (Value.pointer (some ad3))) w73 (Value.pointer a17) ∧
 Reads Proofs.Try.prog [] (Instr.loadAt 23 (Value.pointer (some ad3))) w73 (Value.pointer a16) ∧
 OpW Proofs.Try.prog
 (skipS
 (Instr.storeAt 41 (Value.pointer (some ad71))
 (Value.agg #[Value.int IntKind.i64 t_0, Value.int IntKind.i64 t_1, Value.int IntKind.i64 t_2, Value.int IntKind.i64 t_3])))
 w73 fun (v75 : Value) (w76 : World) =>
 Keeps [n4] w73 w76 ∧
 Reads Proofs.Try.prog [] (Instr.loadAt 23 (Value.pointer (some ad3))) w76 (Value.pointer a18) ∧
 Reads Proofs.Try.prog [] (Instr.loadAt 23 (Value.pointer (some ad3))) w76 (Value.pointer a17) ∧
 ∃ (ad77 : Addr),
 a17 = some ad77 ∧
 OpW Proofs.Try.prog
 (skipS (Instr.storeAt 44 (Value.pointer (some (Addr.mk ad77.block (ad77.off + 4) none))) (Value.map r74))) w76
 fun (v78 : Value) (w79 : World) =>
 Keeps [n4] w76 w79 ∧
 Reads Proofs.Try.prog [] (Instr.loadAt 23 (Value.pointer (some ad3))) w79 (Value.pointer a18) ∧
 ∃ (ad80 : Addr),
 a18 = some ad80 ∧
 OpW Proofs.Try.prog
 (skipS
 (Instr.storeAt 45 (Value.pointer (some (Addr.mk ad80.block (ad80.off + 5) none))) (Value.pointer a70)))
 w79 fun (v81 : Value) (w82 : World) =>
 Keeps [n4] w79 w82 ∧
 OpW Proofs.Try.prog (valueS (Instr.range 44 (Value.map r15))) w82 fun (v83 : Value) (w84 : World) =>
 ∃ (ad85 : Addr),
 v83 = Value.pointer (some ad85) ∧
 Keeps [n4] w82 w84 ∧
 ∃ (J86 : Unit → World → Prop),
 ∃ (J87 : Unit → World → Nat),
 J86 () w84 ∧
 ∀ (w88 : World),
 J86 () w88 →
 OpW Proofs.Try.prog (valueS (Instr.next (Value.pointer (some ad85)) false 0)) w88
 fun (v89 : Value) (w90 : World) =>
 (v89 = Value.tuple #[Value.bool false] ∨
 ∃ (x :
 (nextShape
 (Hints.mk [3, 8] [16, 25, 27, 29, 42] [11, 14] [] [] [(9, LH.mk [] [])] []
 [(34,
 (Sh.int IntKind.i64).cons
 (((Sh.int IntKind.i64).cons
 ((Sh.int IntKind.i64).cons
 ((Sh.int IntKind.i64).cons
 ((Sh.int IntKind.i64).cons
 ((Sh.int IntKind.i64).cons
 ((Sh.int IntKind.i64).cons
 ((Sh.int IntKind.i64).cons
 (Sh.bool.cons Sh.nil)))))))).agg.cons
 Sh.nil)),
 (36,
 (Sh.int IntKind.i64).cons
 (((Sh.int IntKind.i64).cons
 ((Sh.int IntKind.i64).cons
 ((Sh.int IntKind.i64).cons
 ((Sh.int IntKind.i64).cons
 ((Sh.int IntKind.i64).cons
 ((Sh.int IntKind.i64).cons
 ((Sh.int IntKind.i64).cons
 (Sh.bool.cons Sh.nil)))))))).agg.cons
 Sh.nil))]
 [(6,
 Ot.op 0
 (Ot.op 1
 (Ot.op 2
 (Ot.op 3
 ((Ot.op 4
 (Ot.op 5
 (Ot.op 6
 (Ot.op 7
 (Ot.op 8
 (Ot.op 9
 (Ot.op 10
 (Ot.op 11
 (Ot.op 12
 (Ot.op 13
 (Ot.op 14 Ot.nil))))))))))).alt
 (Ot.op 5
 (Ot.op 6
 (Ot.op 7
 ((Ot.op 4
 (Ot.op 8
 (Ot.op 9
 (Ot.op 10
 (Ot.op 11
 (Ot.op 12
 (Ot.op 13
 (Ot.op 14 Ot.nil)))))))).alt
 (Ot.op 8
 (Ot.op 4
 (Ot.op 9
 (Ot.op 10
 (Ot.op 11
 (Ot.op 12
 (Ot.op 13
 (Ot.op 14 Ot.nil)))))))))))))))))])
 #[Oper.mk (some 34) (Op.next (Operand.tmp 33) false) 0 "sorter.go:85" #[]
 none,
 Oper.mk (some 35) (Op.extract (Operand.tmp 34) 0) 4 "sorter.go:85"
 #[Edge.mk 0 Ground.data] none][0]).T),
 v89 =
 Value.tuple
 #[Value.bool true, Value.int IntKind.i64 x.fst,
 Value.agg
 #[Value.int IntKind.i64 x.snd.fst.fst,
 Value.int IntKind.i64 x.snd.fst.snd.fst,
 Value.int IntKind.i64 x.snd.fst.snd.snd.fst,
 Value.int IntKind.i64 x.snd.fst.snd.snd.snd.fst,
 Value.int IntKind.i64 x.snd.fst.snd.snd.snd.snd.fst,
 Value.int IntKind.i64 x.snd.fst.snd.snd.snd.snd.snd.fst,
 Value.int IntKind.i64 x.snd.fst.snd.snd.snd.snd.snd.snd.fst,
 Value.bool x.snd.fst.snd.snd.snd.snd.snd.snd.snd.fst]]) ∧
 (v89 = Value.tuple #[Value.bool false] →
 Keeps [n4] w88 w90 ∧ R (Ending.returned (Value.int IntKind.i64 0)) w90) ∧
 ∀ (x91 x92 x93 x94 x95 x96 x97 x98 : Int) (b99 : Bool),
 v89 =
 Value.tuple
 #[Value.bool true, Value.int IntKind.i64 x91,
 Value.agg
 #[Value.int IntKind.i64 x92, Value.int IntKind.i64 x93,
 Value.int IntKind.i64 x94, Value.int IntKind.i64 x95,
 Value.int IntKind.i64 x96, Value.int IntKind.i64 x97,
 Value.int IntKind.i64 x98, Value.bool b99]] →
 Keeps [n4] w88 w90 ∧
 OpW Proofs.Try.prog
 ((Instr.entry (Value.pointer (some ad85))).bind
 fun (__do_lift : Value) => pure (Next.value __do_lift))
 w90 fun (v100 : Value) (w101 : World) =>
 ∃ (x102 : Int),
 ∃ (x103 : Int),
 ∃ (x104 : Int),
 ∃ (x105 : Int),
 ∃ (x106 : Int),
 ∃ (x107 : Int),
 ∃ (x108 : Int),
 ∃ (x109 : Int),
 ∃ (b110 : Bool),
 v100 =
 Value.tuple
 #[Value.int IntKind.i64 x102,
 Value.agg
 #[Value.int IntKind.i64 x103,
 Value.int IntKind.i64 x104,
 Value.int IntKind.i64 x105,
 Value.int IntKind.i64 x106,
 Value.int IntKind.i64 x107,
 Value.int IntKind.i64 x108,
 Value.int IntKind.i64 x109,
 Value.bool b110]] ∧
 Keeps [n4] w90 w101 ∧
 ∀ (n111 : Nat),
 w101.heap.size ≤ n111 →
 ∀ (w112 : World),
 Evo [n111] w101 w112 →
 Under [n4, n111] w112 →
 OpW Proofs.Try.prog
 (invokeS
 (Value.func (Fn.func 59) #[]
 #[Value.pointer (some ad3)])
 #[Value.int IntKind.i64 x102,
 Value.agg
 #[Value.int IntKind.i64 x103,
 Value.int IntKind.i64 x104,
 Value.int IntKind.i64 x105,
 Value.int IntKind.i64 x106,
 Value.int IntKind.i64 x107,
 Value.int IntKind.i64 x108,
 Value.int IntKind.i64 x109,
 Value.bool b110]])
 w112
 fun (v113 : Value) (w114 : World) =>
 v113 = Value.tuple #[] ∧
 Keeps [n4, n111] w112 w114 ∧
 J86 () w114 ∧
 J87 () w114 < J87 () w88) ∧
 OpW Proofs.Try.prog
 (skipS
 (Instr.storeAt 41 (Value.pointer (some ad71))
 (Value.agg #[Value.int IntKind.i64 t_0, Value.int IntKind.i64 t_1, Value.int IntKind.i64 t_2, Value.int IntKind.i64 t_3])))
 w69 fun (v115 : Value) (w116 : World) =>
 Keeps [n4] w69 w116 ∧
 Reads Proofs.Try.prog [] (Instr.loadAt 23 (Value.pointer (some ad3))) w116 (Value.pointer a18) ∧
 Reads Proofs.Try.prog [] (Instr.loadAt 23 (Value.pointer (some ad3))) w116 (Value.pointer a17) ∧
 OpW Proofs.Try.prog (valueS (Instr.makeMap 44 none)) w116 fun (v117 : Value) (w118 : World) =>
 ∃ (r119 : Option Nat),
 v117 = Value.map r119 ∧
 Keeps [n4] w116 w118 ∧
 Reads Proofs.Try.prog [] (Instr.loadAt 23 (Value.pointer (some ad3))) w118 (Value.pointer a18) ∧
 Reads Proofs.Try.prog [] (Instr.loadAt 23 (Value.pointer (some ad3))) w118 (Value.pointer a17) ∧
 ∃ (ad120 : Addr),
 a17 = some ad120 ∧
 OpW Proofs.Try.prog
 (skipS (Instr.storeAt 44 (Value.pointer (some (Addr.mk ad120.block (ad120.off + 4) none))) (Value.map r119))) w118
 fun (v121 : Value) (w122 : World) =>
 Keeps [n4] w118 w122 ∧
 Reads Proofs.Try.prog [] (Instr.loadAt 23 (Value.pointer (some ad3))) w122 (Value.pointer a18) ∧
 ∃ (ad123 : Addr),
 a18 = some ad123 ∧
 OpW Proofs.Try.prog
 (skipS
 (Instr.storeAt 45 (Value.pointer (some (Addr.mk ad123.block (ad123.off + 5) none))) (Value.pointer a70)))
 w122 fun (v124 : Value) (w125 : World) =>
 Keeps [n4] w122 w125 ∧
 OpW Proofs.Try.prog (valueS (Instr.range 44 (Value.map r15))) w125 fun (v126 : Value) (w127 : World) =>
 ∃ (ad128 : Addr),
 v126 = Value.pointer (some ad128) ∧
 Keeps [n4] w125 w127 ∧
 ∃ (J129 : Unit → World → Prop),
 ∃ (J130 : Unit → World → Nat),
 J129 () w127 ∧
 ∀ (w131 : World),
 J129 () w131 →
 OpW Proofs.Try.prog (valueS (Instr.next (Value.pointer (some ad128)) false 0)) w131
 fun (v132 : Value) (w133 : World) =>
 (v132 = Value.tuple #[Value.bool false] ∨
 ∃ (x :
 (nextShape
 (Hints.mk [3, 8] [16, 25, 27, 29, 42] [11, 14] [] [] [(9, LH.mk [] [])] []
 [(34,
 (Sh.int IntKind.i64).cons
 (((Sh.int IntKind.i64).cons
 ((Sh.int IntKind.i64).cons
 ((Sh.int IntKind.i64).cons
 ((Sh.int IntKind.i64).cons
 ((Sh.int IntKind.i64).cons
 ((Sh.int IntKind.i64).cons
 ((Sh.int IntKind.i64).cons
 (Sh.bool.cons Sh.nil)))))))).agg.cons
 Sh.nil)),
 (36,
 (Sh.int IntKind.i64).cons
 (((Sh.int IntKind.i64).cons
 ((Sh.int IntKind.i64).cons
 ((Sh.int IntKind.i64).cons
 ((Sh.int IntKind.i64).cons
 ((Sh.int IntKind.i64).cons
 ((Sh.int IntKind.i64).cons
 ((Sh.int IntKind.i64).cons
 (Sh.bool.cons Sh.nil)))))))).agg.cons
 Sh.nil))]
 [(6,
 Ot.op 0
 (Ot.op 1
 (Ot.op 2
 (Ot.op 3
 ((Ot.op 4
 (Ot.op 5
 (Ot.op 6
 (Ot.op 7
 (Ot.op 8
 (Ot.op 9
 (Ot.op 10
 (Ot.op 11
 (Ot.op 12
 (Ot.op 13
 (Ot.op 14 Ot.nil))))))))))).alt
 (Ot.op 5
 (Ot.op 6
 (Ot.op 7
 ((Ot.op 4
 (Ot.op 8
 (Ot.op 9
 (Ot.op 10
 (Ot.op 11
 (Ot.op 12
 (Ot.op 13 (Ot.op 14 Ot.nil)))))))).alt
 (Ot.op 8
 (Ot.op 4
 (Ot.op 9
 (Ot.op 10
 (Ot.op 11
 (Ot.op 12
 (Ot.op 13
 (Ot.op 14 Ot.nil)))))))))))))))))])
 #[Oper.mk (some 34) (Op.next (Operand.tmp 33) false) 0 "sorter.go:85" #[]
 none,
 Oper.mk (some 35) (Op.extract (Operand.tmp 34) 0) 4 "sorter.go:85"
 #[Edge.mk 0 Ground.data] none][0]).T),
 v132 =
 Value.tuple
 #[Value.bool true, Value.int IntKind.i64 x.fst,
 Value.agg
 #[Value.int IntKind.i64 x.snd.fst.fst,
 Value.int IntKind.i64 x.snd.fst.snd.fst,
 Value.int IntKind.i64 x.snd.fst.snd.snd.fst,
 Value.int IntKind.i64 x.snd.fst.snd.snd.snd.fst,
 Value.int IntKind.i64 x.snd.fst.snd.snd.snd.snd.fst,
 Value.int IntKind.i64 x.snd.fst.snd.snd.snd.snd.snd.fst,
 Value.int IntKind.i64 x.snd.fst.snd.snd.snd.snd.snd.snd.fst,
 Value.bool x.snd.fst.snd.snd.snd.snd.snd.snd.snd.fst]]) ∧
 (v132 = Value.tuple #[Value.bool false] →
 Keeps [n4] w131 w133 ∧ R (Ending.returned (Value.int IntKind.i64 0)) w133) ∧
 ∀ (x134 x135 x136 x137 x138 x139 x140 x141 : Int) (b142 : Bool),
 v132 =
 Value.tuple
 #[Value.bool true, Value.int IntKind.i64 x134,
 Value.agg
 #[Value.int IntKind.i64 x135, Value.int IntKind.i64 x136,
 Value.int IntKind.i64 x137, Value.int IntKind.i64 x138,
 Value.int IntKind.i64 x139, Value.int IntKind.i64 x140,
 Value.int IntKind.i64 x141, Value.bool b142]] →
 Keeps [n4] w131 w133 ∧
 OpW Proofs.Try.prog
 ((Instr.entry (Value.pointer (some ad128))).bind
 fun (__do_lift : Value) => pure (Next.value __do_lift))
 w133 fun (v143 : Value) (w144 : World) =>
 ∃ (x145 : Int),
 ∃ (x146 : Int),
 ∃ (x147 : Int),
 ∃ (x148 : Int),
 ∃ (x149 : Int),
 ∃ (x150 : Int),
 ∃ (x151 : Int),
 ∃ (x152 : Int),
 ∃ (b153 : Bool),
 v143 =
 Value.tuple
 #[Value.int IntKind.i64 x145,
 Value.agg
 #[Value.int IntKind.i64 x146,
 Value.int IntKind.i64 x147,
 Value.int IntKind.i64 x148,
 Value.int IntKind.i64 x149,
 Value.int IntKind.i64 x150,
 Value.int IntKind.i64 x151,
 Value.int IntKind.i64 x152,
 Value.bool b153]] ∧
 Keeps [n4] w133 w144 ∧
 ∀ (n154 : Nat),
 w144.heap.size ≤ n154 →
 ∀ (w155 : World),
 Evo [n154] w144 w155 →
 Under [n4, n154] w155 →
 OpW Proofs.Try.prog
 (invokeS
 (Value.func (Fn.func 59) #[]
 #[Value.pointer (some ad3)])
 #[Value.int IntKind.i64 x145,
 Value.agg
 #[Value.int IntKind.i64 x146,
 Value.int IntKind.i64 x147,
 Value.int IntKind.i64 x148,
 Value.int IntKind.i64 x149,
 Value.int IntKind.i64 x150,
 Value.int IntKind.i64 x151,
 Value.int IntKind.i64 x152,
 Value.bool b153]])
 w155
 fun (v156 : Value) (w157 : World) =>
 v156 = Value.tuple #[] ∧
 Keeps [n4, n154] w155 w157 ∧
 J129 () w157 ∧
 J130 () w157 < J130 () w131))
theorem f19_eq (s : Option Addr) (t_0 : Int) (t_1 : Int) (t_2 : Int) (t_3 : Int) (w : World) (R : Ending → World → Prop) : (fnF Go.Proofs.Try.prog h19 Go.Proofs.Try.f19 [Value.pointer s, Value.agg #[Value.int IntKind.i64 t_0, Value.int IntKind.i64 t_1, Value.int IntKind.i64 t_2, Value.int IntKind.i64 t_3]] w R).den = f19_vc s t_0 t_1 t_2 t_3 w R := by kernel_rfl
theorem f19_calls (s : Option Addr) (t_0 : Int) (t_1 : Int) (t_2 : Int) (t_3 : Int) (w : World) (R : Ending → World → Prop) (h : f19_vc s t_0 t_1 t_2 t_3 w R) : Calls Go.Proofs.Try.prog 19 (List.toArray [Value.pointer s, Value.agg #[Value.int IntKind.i64 t_0, Value.int IntKind.i64 t_1, Value.int IntKind.i64 t_2, Value.int IntKind.i64 t_3]]) w R :=
 fn_sound (H := h19) (fn := Go.Proofs.Try.f19) (by kernel_rfl) (by kernel_rfl) (by kernel_rfl) ((f19_eq s t_0 t_1 t_2 t_3 w R).mpr h)

end Vcst

/- The total is set. -/
set_option maxRecDepth 20000
set_option maxHeartbeats 4000000
set_option linter.unusedVariables false
namespace Go.Vc.S
open Go Go.Vc Go.RowKit Go.Proofs Go.Vc.T Vcs

variable {w W W' W1 : World} {M N : Nat → Prop} {gs ds : List Nat} {g r gt p : Nat} {T n : Ar4} {m m0 m1 : List (Int × Cl)} {id : Int} {c : Cl} {B B' : Nat → Prop}

theorem c59 {a d : Int} (h : SoX W B g T m) (hl : m.length < 100000) (hc : okC c) (hb : W.heap[p]? = some (.cells ([.pointer (pt g)] : List Value).toArray 23 (0, 0))) :
    RetF Try.prog 59 #[.int .i64 id, cl8 a d c.w c.s c.aw, .pointer (pt p)] W B (fun v W' => v = .tuple #[] ∧ SoX W' (fun b => B b ∨ W.heap.size ≤ b) g T (mset id c m)) := by
  intro R hR
  refine f59_calls _ _ _ _ _ _ _ _ _ _ W R ?_
  unfold f59_vc
  have hA : AtF W B [] W := AtF.refl W _
  have h : SoX W (fun b => B b ∧ b < W.heap.size) g T m := h.mono fun _ hl hb => ⟨hb, hl⟩
  refine go_n hA fun n1 h1 => ⟨_, rd_f0 hb (by kernel_rfl) nod, go_below_too hA fun w3 hA hb3 => ?_⟩
  have h := h.call hb3
  refine at_callF hA (c58x a d h hc hl) (fun q _ hq => .inr hq.1) (fun y hy hq => by
    have := hq.2
    rw [List.mem_singleton.1 hy] at this
    omega) fun v w32 hA2 hk hch ⟨hv, hX⟩ => ?_
  subst hv
  exact ⟨rfl, hk, leafF hR hA2 ⟨rfl, hX.mono fun b _ hb => hb.elim (fun hb => .inl hb.1) fun hb => .inr (Nat.le_trans hA.size hb)⟩⟩

theorem tot_loop {n4 : Nat} {M1 : Nat → Prop} {R : Ending → World → Prop} (hA : AtF w M [n4] W) (hX : SoX W B g n []) (hbox : W.heap[p]? = some (.cells ([.pointer (pt g)] : List Value).toArray 23 (0, 0))) (hM : OwnM w M1 [] W r idV (clV T) m0) (hg : Good T m) (hsm : ∀ x, x ∈ m0 ↔ x ∈ m) (hnd : (m0.map (·.1)).Nodup) (hl : m.length < 100000)
    (hBl : ∀ b, B b → b < W.heap.size) (hBM : ∀ b, B b → w.heap.size ≤ b ∨ M b) (hpB : ¬ B p) (hrB : ¬ B r) (h4B : ¬ B n4)
    (hR : ∀ W', AtF w M [n4] W' → SoX W' (fun b => M b ∨ w.heap.size ≤ b) g n m → R (.returned (.int .i64 0)) W') :
 OpW Proofs.Try.prog (valueS (Instr.range 44 (Value.map (some r)))) W fun (v35 : Value) (w36 : World) =>
 ∃ (ad37 : Addr),
 v35 = Value.pointer (some ad37) ∧
 Keeps [n4] W w36 ∧
 ∃ (J38 : Unit → World → Prop),
 ∃ (J39 : Unit → World → Nat),
 J38 () w36 ∧
 ∀ (w40 : World),
 J38 () w40 →
 OpW Proofs.Try.prog (valueS (Instr.next (Value.pointer (some ad37)) false 0)) w40
 fun (v41 : Value) (w42 : World) =>
 (v41 = Value.tuple #[Value.bool false] ∨
 ∃ (x :
 (nextShape
 (Hints.mk [3, 8] [16, 25, 27, 29, 42] [11, 14] [] [] [(9, LH.mk [] [])] []
 [(34,
 (Sh.int IntKind.i64).cons
 (((Sh.int IntKind.i64).cons
 ((Sh.int IntKind.i64).cons
 ((Sh.int IntKind.i64).cons
 ((Sh.int IntKind.i64).cons
 ((Sh.int IntKind.i64).cons
 ((Sh.int IntKind.i64).cons
 ((Sh.int IntKind.i64).cons
 (Sh.bool.cons Sh.nil)))))))).agg.cons
 Sh.nil)),
 (36,
 (Sh.int IntKind.i64).cons
 (((Sh.int IntKind.i64).cons
 ((Sh.int IntKind.i64).cons
 ((Sh.int IntKind.i64).cons
 ((Sh.int IntKind.i64).cons
 ((Sh.int IntKind.i64).cons
 ((Sh.int IntKind.i64).cons
 ((Sh.int IntKind.i64).cons
 (Sh.bool.cons Sh.nil)))))))).agg.cons
 Sh.nil))]
 [(6,
 Ot.op 0
 (Ot.op 1
 (Ot.op 2
 (Ot.op 3
 ((Ot.op 4
 (Ot.op 5
 (Ot.op 6
 (Ot.op 7
 (Ot.op 8
 (Ot.op 9
 (Ot.op 10
 (Ot.op 11
 (Ot.op 12
 (Ot.op 13
 (Ot.op 14 Ot.nil))))))))))).alt
 (Ot.op 5
 (Ot.op 6
 (Ot.op 7
 ((Ot.op 4
 (Ot.op 8
 (Ot.op 9
 (Ot.op 10
 (Ot.op 11
 (Ot.op 12
 (Ot.op 13 (Ot.op 14 Ot.nil)))))))).alt
 (Ot.op 8
 (Ot.op 4
 (Ot.op 9
 (Ot.op 10
 (Ot.op 11
 (Ot.op 12
 (Ot.op 13
 (Ot.op 14 Ot.nil)))))))))))))))))])
 #[Oper.mk (some 34) (Op.next (Operand.tmp 33) false) 0 "sorter.go:85" #[]
 none,
 Oper.mk (some 35) (Op.extract (Operand.tmp 34) 0) 4 "sorter.go:85"
 #[Edge.mk 0 Ground.data] none][0]).T),
 v41 =
 Value.tuple
 #[Value.bool true, Value.int IntKind.i64 x.fst,
 Value.agg
 #[Value.int IntKind.i64 x.snd.fst.fst,
 Value.int IntKind.i64 x.snd.fst.snd.fst,
 Value.int IntKind.i64 x.snd.fst.snd.snd.fst,
 Value.int IntKind.i64 x.snd.fst.snd.snd.snd.fst,
 Value.int IntKind.i64 x.snd.fst.snd.snd.snd.snd.fst,
 Value.int IntKind.i64 x.snd.fst.snd.snd.snd.snd.snd.fst,
 Value.int IntKind.i64 x.snd.fst.snd.snd.snd.snd.snd.snd.fst,
 Value.bool x.snd.fst.snd.snd.snd.snd.snd.snd.snd.fst]]) ∧
 (v41 = Value.tuple #[Value.bool false] →
 Keeps [n4] w40 w42 ∧ R (Ending.returned (Value.int IntKind.i64 0)) w42) ∧
 ∀ (x43 x44 x45 x46 x47 x48 x49 x50 : Int) (b51 : Bool),
 v41 =
 Value.tuple
 #[Value.bool true, Value.int IntKind.i64 x43,
 Value.agg
 #[Value.int IntKind.i64 x44, Value.int IntKind.i64 x45,
 Value.int IntKind.i64 x46, Value.int IntKind.i64 x47,
 Value.int IntKind.i64 x48, Value.int IntKind.i64 x49,
 Value.int IntKind.i64 x50, Value.bool b51]] →
 Keeps [n4] w40 w42 ∧
 OpW Proofs.Try.prog
 ((Instr.entry (Value.pointer (some ad37))).bind fun (__do_lift : Value) =>
 pure (Next.value __do_lift))
 w42 fun (v52 : Value) (w53 : World) =>
 ∃ (x54 : Int),
 ∃ (x55 : Int),
 ∃ (x56 : Int),
 ∃ (x57 : Int),
 ∃ (x58 : Int),
 ∃ (x59 : Int),
 ∃ (x60 : Int),
 ∃ (x61 : Int),
 ∃ (b62 : Bool),
 v52 =
 Value.tuple
 #[Value.int IntKind.i64 x54,
 Value.agg
 #[Value.int IntKind.i64 x55,
 Value.int IntKind.i64 x56,
 Value.int IntKind.i64 x57,
 Value.int IntKind.i64 x58,
 Value.int IntKind.i64 x59,
 Value.int IntKind.i64 x60,
 Value.int IntKind.i64 x61,
 Value.bool b62]] ∧
 Keeps [n4] w42 w53 ∧
 ∀ (n63 : Nat),
 w53.heap.size ≤ n63 →
 ∀ (w64 : World),
 Evo [n63] w53 w64 →
 Under [n4, n63] w64 →
 OpW Proofs.Try.prog
 (invokeS
 (Value.func (Fn.func 59) #[]
 #[Value.pointer (some (Addr.mk p 0 none))])
 #[Value.int IntKind.i64 x54,
 Value.agg
 #[Value.int IntKind.i64 x55,
 Value.int IntKind.i64 x56,
 Value.int IntKind.i64 x57,
 Value.int IntKind.i64 x58,
 Value.int IntKind.i64 x59,
 Value.int IntKind.i64 x60,
 Value.int IntKind.i64 x61,
 Value.bool b62]])
 w64 fun (v65 : Value) (w66 : World) =>
 v65 = Value.tuple #[] ∧
 Keeps [n4, n63] w64 w66 ∧
 J38 () w66 ∧
 J39 () w66 < J39 () w40 := by
  have hr4 : n4 < W.heap.size := hA.under n4 (by simp)
  refine opw_range (kf := idV) (vf := clV T) (t := 44) (kt := 2) (et := 101) (by kernel_rfl) hA hM fun q w36 hq hA hk hb hi => ⟨_, rfl, hk, ?_⟩
  have hp := (Array.getElem?_eq_some_iff.1 hbox).1
  refine ⟨fun _ W' => AtF w M [n4] W' ∧ W.heap.size < W'.heap.size ∧ W'.heap[p]? = some (.cells ([.pointer (pt g)] : List Value).toArray 23 (0, 0)) ∧ ∃ (done rest : List (Int × Cl)) (cur : Option (Int × Cl)) (Bq : Nat → Prop), SoX W' Bq g n done ∧ Itr w M [n4] W' q r idV (clV T) m0 rest cur ∧ (∀ x, x ∈ m0 ↔ x ∈ done ∨ x ∈ rest) ∧ ((done ++ rest).map (·.1)).Nodup ∧ done.length ≤ m.length ∧ (∀ b, Bq b → b < W'.heap.size) ∧ (∀ b, Bq b → w.heap.size ≤ b ∨ M b) ∧ (¬ Bq p ∧ ¬ Bq q ∧ ¬ Bq r ∧ ¬ Bq n4), fun _ W' => itLeft W' q r, ?_, ?_⟩
  · refine ⟨hA, ?_, (hb.block hp).trans hbox, [], m0, none, B, hX.call hb, hi, fun x => by simp, by simpa using hnd, Nat.zero_le _, fun b hb' => Nat.lt_of_lt_of_le (hBl b hb') hb.size, hBM, hpB, fun e => by have := hBl q e; omega, hrB, h4B⟩
    have := hi.lts.1
    omega
  rintro w40 ⟨hA, hsz, hbox, done, rest, cur, Bq, hX, hi, hmem, hnod, hdl, hBl, hBM, hqp, hqq, hqr, hq4⟩
  have hp' := (Array.getElem?_eq_some_iff.1 hbox).1
  have hleft := hi.left
  have hiq := hi
  refine opw_next hA hi (fun hr => ⟨.inl rfl, fun _ => ⟨fun _ _ => rfl, ?_⟩, fun _ _ _ _ _ _ _ _ _ e => by simp at e⟩) fun x ra rb w42 hr hA hk hch hi => ⟨.inr ⟨(x.1, ((domT T x.2.s).1, (domT T x.2.s).2, x.2.w, x.2.s.1, x.2.s.2.1, x.2.s.2.2.1, x.2.s.2.2.2, x.2.aw, ()), ()), rfl⟩, fun e => by simp at e, fun _ _ _ _ _ _ _ _ _ _ => ⟨hk, ?_⟩⟩
  · subst hr
    refine hR w40 hA ?_
    obtain ⟨mm, r', gt', t', bs', k1, k2, k3, k4, k5⟩ := hX.ex
    exact ⟨⟨hg.nd, hg.ok, hX.good.sm⟩, mm, r', gt', t', bs', fun y => by rw [k1, ← hsm, hmem]; simp, k2, k3, k4, fun b hb => (hBM b (k5 b hb)).symm⟩
  · have hqn : ∀ b, Bq b → ¬ b = q := fun b hb e => hqq (e ▸ hb)
    have hX := hX.chg hch fun b hb _ => hqn b hb
    have hpq : p ≠ q := fun e => by
      obtain ⟨es, clock, since, c0, seen, _, _, _, _, h5, _⟩ := hiq.obj
      rw [← e, hbox] at h5
      cases h5
    have hbox := (hch.block p hp' hpq).trans hbox
    have hsz42 := hch.size
    have hxm : x ∈ m := (hsm x).1 ((hmem x).2 (.inr (by rw [hr]; simp)))
    have hoc := hg.ok x hxm
    refine opw_entry hi ⟨_, _, _, _, _, _, _, _, _, rfl, fun _ _ => rfl, fun n63 h63 w64 he hu => ?_⟩
    have hb := he.bel (by simpa using h63)
    have hA : AtF w M [n4, n63] w64 := ⟨(hA.call hb).chg, hu⟩
    have hX := hX.call hb
    have hi := hi.call hb
    have hbox := (hb.block (Nat.lt_of_lt_of_le hp' hsz42)).trans hbox
    have hs64 := hb.size
    have hp64 := (Array.getElem?_eq_some_iff.1 hbox).1
    have hil := hi.lts
    have hn63 : n63 < w64.heap.size := hu n63 (by simp)
    refine opw_invoke (by kernel_rfl) ?_
    refine at_callF hA (c59 (id := x.1) (c := x.2) hX (by omega) hoc hbox) (fun b _ hb => hBM b hb) (fun y hy hq => by
      simp at hy
      rcases hy with rfl | rfl
      · exact hq4 hq
      · have := hBl _ hq; omega) fun v w66 hA2 hk2 hch2 ⟨hv, hX2⟩ => ?_
    subst hv
    have hs66 := hch2.size
    have hlen : ra.length + rb.length + 1 = rest.length := by rw [hr]; simp; omega
    have hxd : x.1 ∉ done.map (·.1) := fun e => by
      rw [hr, List.map_append, List.nodup_append] at hnod
      exact hnod.2.2 _ e x.1 (by simp) rfl
    have hget : mget x.1 done = none := mget_none.2 hxd
    have hml : (mset x.1 x.2 done).length = done.length + 1 := by rw [mset_length, hget]; rfl
    have hnd2 : (((mset x.1 x.2 done) ++ (ra ++ rb)).map (·.1)).Nodup := by
      rw [List.map_append, mset_keys, if_neg hxd]
      rw [hr] at hnod
      simp only [List.map_append, List.map_cons, List.append_assoc] at hnod ⊢
      have hp : (done.map (·.1) ++ (ra.map (·.1) ++ x.1 :: rb.map (·.1))).Perm (done.map (·.1) ++ ([x.1] ++ (ra.map (·.1) ++ rb.map (·.1)))) := List.Perm.append_left _ (List.perm_middle)
      exact hp.nodup_iff.1 hnod
    refine ⟨_, rfl, rfl, hk2, ⟨⟨hA2.chg, fun z hz => hA2.under z (by simp at hz ⊢; omega)⟩, by omega, (hch2.block p hp64 hqp).trans hbox, mset x.1 x.2 done, ra ++ rb, some x, fun b => (Bq b ∨ w64.heap.size ≤ b) ∧ b < w66.heap.size, hX2.mono fun b hl hb => ⟨hb, hl⟩, hi.chg hch2 hqq hqr, fun y => ?_, hnd2, ?_, fun b hb => hb.2, fun b hb => hb.1.elim (hBM b) fun e => .inl (Nat.le_trans hA.size e), ⟨fun e => e.1.elim hqp fun e => by omega, fun e => e.1.elim hqq fun e => by omega, fun e => e.1.elim hqr fun e => by omega, fun e => e.1.elim hq4 fun e => by omega⟩⟩, ?_⟩
    · rw [hmem, mem_mset hX.good.nd, hr]
      constructor
      · rintro (h | h)
        · exact .inl (.inr ⟨h, fun e => hxd (e ▸ List.mem_map.2 ⟨y, h, rfl⟩)⟩)
        · simp at h ⊢; grind
      · rintro ((h | h) | h)
        · exact .inr (by rw [h]; simp)
        · exact .inl h.1
        · simp at h ⊢; grind
    · have h1 := nodup_len (l' := m.map (·.1)) hnd2 fun k hk => by
        obtain ⟨y, hy, rfl⟩ := List.mem_map.1 hk
        refine List.mem_map.2 ⟨y, (hsm y).1 ((hmem y).2 ?_), rfl⟩
        rcases List.mem_append.1 hy with h | h
        · rcases (mem_mset hX.good.nd y).1 h with h | h
          · exact .inr (by rw [hr, h]; simp)
          · exact .inl h.1
        · exact .inr (by rw [hr]; simp at h ⊢; grind)
      simp only [List.length_map, List.length_append] at h1
      omega
    · simp only [(hi.chg hch2 hqq hqr).left, hleft, List.length_append]
      omega
end Go.Vc.S

/- Own text of this claim: So7. -/
set_option maxRecDepth 20000
set_option maxHeartbeats 4000000
set_option linter.unusedVariables false
namespace Go.Vc.S
open Go Go.Vc Go.RowKit Go.Proofs Go.Vc.T Vcs

variable {w W W' W1 : World} {M N : Nat → Prop} {gs ds : List Nat} {g r gt p : Nat} {T n : Ar4} {m m0 m1 : List (Int × Cl)} {id : Int} {c : Cl} {B B' : Nat → Prop}

/-- The total is set. -/
theorem c19 (n : Ar4) (h : SoX W B g T m) (hl : m.length < 100000) :
    RetF Try.prog 19 #[.pointer (pt g), arT n] W B (fun v W' => if sm4 n then v = .int .i64 0 ∧ SoX W' (fun b => B b ∨ W.heap.size ≤ b) g n m else v = .int .i64 41 ∧ SoX W' (fun b => B b ∨ W.heap.size ≤ b) g T m) := by
  intro R hR
  refine Vcst.f19_calls _ _ _ _ _ W R ?_
  unfold Vcst.f19_vc
  have hA : AtF W B [] W := AtF.refl W _
  have h : SoX W (fun b => B b ∧ b < W.heap.size) g T m := h.mono fun _ hl hb => ⟨hb, hl⟩
  have hgW : g < W.heap.size := by
    obtain ⟨m0, r, gt, t, bs, k1, k2, k3, k4, k5⟩ := h.ex
    exact k3.glt
  refine opw_boxS hA fun p w2 hp hA _ hb hbox => ⟨_, rfl, ?_⟩
  have h := h.call hb
  have hp2 := (Array.getElem?_eq_some_iff.1 hbox).1
  refine fun n4 h4 => ⟨_, rd_f0 hbox (by kernel_rfl) nod, go_below_too hA fun w6 hA hb => ?_⟩
  have h := h.call hb
  have hbox := (hb.block hp2).trans hbox
  have hs6 := hb.size
  refine at_callb hA (c45 h) fun w8 hA hk hb => ⟨_, rfl, hk, brB (fun e => by cases e) fun _ => ?_⟩
  have h := h.call hb
  have hbox := (hb.block (Nat.lt_of_lt_of_le hp2 hs6)).trans hbox
  have hs8 := hb.size
  refine at_callb hA (c54 n _) fun w11 hA hk hb => ⟨_, rfl, hk, brND (fun hn => ?_) fun hn => ?_⟩
  · refine leafF hR hA ?_
    rw [if_neg hn]
    exact ⟨rfl, (h.call hb).mono fun _ _ e => .inl e.1⟩
  have h := h.call hb
  have hp8 : p < w8.heap.size := by omega
  have hbox := (hb.block hp8).trans hbox
  have hs11 := hb.size
  have hp11 : p < w11.heap.size := by omega
  obtain ⟨m0, r, gt, t, bs, k1, k2, k3, k4, k5⟩ := h.ex
  have hne := k3.ne
  have hBg : B g := (k5 g (.inl rfl)).1
  have hpr : p ≠ r := fun e => by
    obtain ⟨es, cl, h1, _⟩ := k3.mp.obj
    rw [← e, hbox] at h1
    cases h1
  have hr4 : r ≠ n4 := fun e => by
    have := (k5 r (.inr (.inl rfl))).2
    omega
  have hM : OwnM W B [] w11 r idV (clV T) m0 := k3.mp.base1 (.inr (k5 r (.inr (.inl rfl))).1) (by simp)
  have hgg : w11.heap[g]? = some (.cells (soC T r gt).toArray 47 (0, 0)) := k3.tb
  have hrl := hM.lt
  have hgl := k3.glt
  have hR2 : ∀ W', AtF W B [n4] W' → SoX W' (fun b => B b ∨ W.heap.size ≤ b) g n m → R (.returned (.int .i64 0)) W' := fun W' hA hX => leafF hR hA (by rw [if_pos hn]; exact ⟨rfl, hX⟩)
  refine ⟨_, rd_f0 hbox (by kernel_rfl) nod, _, rfl, _, k3.rdR nod, _, rd_f0 hbox (by kernel_rfl) nod, _, rd_f0 hbox (by kernel_rfl) nod, _, rd_f0 hbox (by kernel_rfl) nod, ?_⟩
  refine ⟨go_below_too hA fun w19 hA hb19 => ?_, ?_⟩
  · have hu := hA.under n4 (by simp)
    have hs19 := hb19.size
    have hM := hM.call hb19
    have hgg := (hb19.block hgl).trans hgg
    have hbox := (hb19.block hp11).trans hbox
    have hpg : ¬ p = g := by omega
    refine opw_makeMap (kf := idV) (vf := clV n) (t := 44) hA fun r2 w21 hr2 hA hk hbm hM2 => ⟨_, rfl, hk, ?_⟩
    have hM := hM.call hbm
    have hgg := (hbm.block (Array.getElem?_eq_some_iff.1 hgg).1).trans hgg
    have hbox := (hbm.block (Array.getElem?_eq_some_iff.1 hbox).1).trans hbox
    have hr2l := hM2.lt
    have hr2g : ¬ r2 = g := by omega
    have hp2l := (Array.getElem?_eq_some_iff.1 hbox).1
    refine ⟨rd_f0 hbox (by kernel_rfl) nod, rd_f0 hbox (by kernel_rfl) nod, rd_f0 hbox (by kernel_rfl) nod, ?_⟩
    refine at_callq hA c40 fun v w24 hA hk hbn ⟨gt2, hv, hgt2, hT⟩ => ?_
    subst hv
    have hM := hM.call hbn
    have hM2 := hM2.call hbn
    have hgg := (hbn.block (Array.getElem?_eq_some_iff.1 hgg).1).trans hgg
    have hbox := (hbn.block (Array.getElem?_eq_some_iff.1 hbox).1).trans hbox
    have hsn := hbn.size
    have hgt2l := hT.glt
    have hgt2g : ¬ gt2 = g := by omega
    refine ⟨_, rfl, hk, rd_f0 hbox (by kernel_rfl) nod, rd_f0 hbox (by kernel_rfl) nod, rd_f0 hbox (by kernel_rfl) nod, _, rfl, ?_⟩
    refine opw_storeF hA hgg (.inr hBg) (show g ∉ [n4] by simp; omega) (cells' := soC n r gt) (by kernel_rfl) fun w28 hA hk hc hgg => ⟨hk, ?_⟩
    have hM := hM.chg hc fun e => hne.1 e.symm
    have hM2 := hM2.chg hc hr2g
    have hT := hT.chg hc hgt2g (by simp)
    have hbox := (hc.block p (Array.getElem?_eq_some_iff.1 hbox).1 hpg).trans hbox
    refine ⟨rd_f0 hbox (by kernel_rfl) nod, rd_f0 hbox (by kernel_rfl) nod, _, rfl, ?_⟩
    refine opw_storeF hA hgg (.inr hBg) (show g ∉ [n4] by simp; omega) (cells' := soC n r2 gt) (by kernel_rfl) fun w31 hA hk hc hgg => ⟨hk, ?_⟩
    have hM := hM.chg hc fun e => hne.1 e.symm
    have hM2 := hM2.chg hc hr2g
    have hT := hT.chg hc hgt2g (by simp)
    have hbox := (hc.block p (Array.getElem?_eq_some_iff.1 hbox).1 hpg).trans hbox
    refine ⟨rd_f0 hbox (by kernel_rfl) nod, _, rfl, ?_⟩
    refine opw_storeF hA hgg (.inr hBg) (show g ∉ [n4] by simp; omega) (cells' := soC n r2 gt2) (by kernel_rfl) fun w34 hA hk hc hgg => ⟨hk, ?_⟩
    have hM := hM.chg hc fun e => hne.1 e.symm
    have hM2 := hM2.chg hc hr2g
    have hT := hT.chg hc hgt2g (by simp)
    have hbox := (hc.block p (Array.getElem?_eq_some_iff.1 hbox).1 hpg).trans hbox
    have hS : SoS w34 g r2 gt2 n [] .nil [] := ⟨hgg, hM2.base1 (.inr rfl) (by simp), hT⟩
    have hX : SoX w34 (fun b => b = g ∨ b = r2 ∨ b = gt2) g n [] := ⟨Good.nil hn, [], r2, gt2, .nil, [], fun _ => Iff.rfl, List.nodup_nil, hS, TrG.nil, by rintro b (e | e | e | e); exact .inl e; exact .inr (.inl e); exact .inr (.inr e); cases e⟩
    refine tot_loop hA hX hbox hM h.good k1 k2 hl ?_ ?_ ?_ ?_ ?_ hR2
    · rintro b (rfl | rfl | rfl)
      · exact hS.glt
      · exact hS.mp.lt
      · exact hS.tr.glt
    · rintro b (rfl | rfl | rfl)
      · exact .inr hBg
      · exact .inl (by omega)
      · exact .inl (by omega)
    · omega
    · omega
    · omega
  · refine go_below_too hA fun w19 hA hb19 => ?_
    have hu := hA.under n4 (by simp)
    have hs19 := hb19.size
    have hM := hM.call hb19
    have hgg := (hb19.block hgl).trans hgg
    have hbox := (hb19.block hp11).trans hbox
    have hpg : ¬ p = g := by omega
    refine at_callq hA c40 fun v w24 hA hk hbn ⟨gt2, hv, hgt2, hT⟩ => ?_
    subst hv
    have hM := hM.call hbn
    have hgg := (hbn.block (Array.getElem?_eq_some_iff.1 hgg).1).trans hgg
    have hbox := (hbn.block (Array.getElem?_eq_some_iff.1 hbox).1).trans hbox
    have hsn := hbn.size
    have hgt2l := hT.glt
    have hgt2g : ¬ gt2 = g := by omega
    refine ⟨_, rfl, hk, rd_f0 hbox (by kernel_rfl) nod, rd_f0 hbox (by kernel_rfl) nod, rd_f0 hbox (by kernel_rfl) nod, _, rfl, ?_, ?_⟩
    · refine opw_makeMap (kf := idV) (vf := clV n) (t := 44) hA fun r2 w21 hr2 hA hk hbm hM2 => ⟨_, rfl, hk, ?_⟩
      have hM := hM.call hbm
      have hgg := (hbm.block (Array.getElem?_eq_some_iff.1 hgg).1).trans hgg
      have hbox := (hbm.block (Array.getElem?_eq_some_iff.1 hbox).1).trans hbox
      have hr2l := hM2.lt
      have hr2g : ¬ r2 = g := by omega
      have hp2l := (Array.getElem?_eq_some_iff.1 hbox).1
      have hT := hT.call hbm
      refine ⟨rd_f0 hbox (by kernel_rfl) nod, rd_f0 hbox (by kernel_rfl) nod, rd_f0 hbox (by kernel_rfl) nod, ?_⟩
      refine opw_storeF hA hgg (.inr hBg) (show g ∉ [n4] by simp; omega) (cells' := soC n r gt) (by kernel_rfl) fun w28 hA hk hc hgg => ⟨hk, ?_⟩
      have hM := hM.chg hc fun e => hne.1 e.symm
      have hM2 := hM2.chg hc hr2g
      have hT := hT.chg hc hgt2g (by simp)
      have hbox := (hc.block p (Array.getElem?_eq_some_iff.1 hbox).1 hpg).trans hbox
      refine ⟨rd_f0 hbox (by kernel_rfl) nod, rd_f0 hbox (by kernel_rfl) nod, _, rfl, ?_⟩
      refine opw_storeF hA hgg (.inr hBg) (show g ∉ [n4] by simp; omega) (cells' := soC n r2 gt) (by kernel_rfl) fun w31 hA hk hc hgg => ⟨hk, ?_⟩
      have hM := hM.chg hc fun e => hne.1 e.symm
      have hM2 := hM2.chg hc hr2g
      have hT := hT.chg hc hgt2g (by simp)
      have hbox := (hc.block p (Array.getElem?_eq_some_iff.1 hbox).1 hpg).trans hbox
      refine ⟨rd_f0 hbox (by kernel_rfl) nod, _, rfl, ?_⟩
      refine opw_storeF hA hgg (.inr hBg) (show g ∉ [n4] by simp; omega) (cells' := soC n r2 gt2) (by kernel_rfl) fun w34 hA hk hc hgg => ⟨hk, ?_⟩
      have hM := hM.chg hc fun e => hne.1 e.symm
      have hM2 := hM2.chg hc hr2g
      have hT := hT.chg hc hgt2g (by simp)
      have hbox := (hc.block p (Array.getElem?_eq_some_iff.1 hbox).1 hpg).trans hbox
      have hS : SoS w34 g r2 gt2 n [] .nil [] := ⟨hgg, hM2.base1 (.inr rfl) (by simp), hT⟩
      have hX : SoX w34 (fun b => b = g ∨ b = r2 ∨ b = gt2) g n [] := ⟨Good.nil hn, [], r2, gt2, .nil, [], fun _ => Iff.rfl, List.nodup_nil, hS, TrG.nil, by rintro b (e | e | e | e); exact .inl e; exact .inr (.inl e); exact .inr (.inr e); cases e⟩
      refine tot_loop hA hX hbox hM h.good k1 k2 hl ?_ ?_ ?_ ?_ ?_ hR2
      · rintro b (rfl | rfl | rfl)
        · exact hS.glt
        · exact hS.mp.lt
        · exact hS.tr.glt
      · rintro b (rfl | rfl | rfl)
        · exact .inr hBg
        · exact .inl (by omega)
        · exact .inl (by omega)
      · omega
      · omega
      · omega
    · refine opw_storeF hA hgg (.inr hBg) (show g ∉ [n4] by simp; omega) (cells' := soC n r gt) (by kernel_rfl) fun w28 hA hk hc hgg => ⟨hk, ?_⟩
      have hM := hM.chg hc fun e => hne.1 e.symm
      have hT := hT.chg hc hgt2g (by simp)
      have hbox := (hc.block p (Array.getElem?_eq_some_iff.1 hbox).1 hpg).trans hbox
      have hs28 := hc.size
      refine ⟨rd_f0 hbox (by kernel_rfl) nod, rd_f0 hbox (by kernel_rfl) nod, ?_⟩
      refine opw_makeMap (kf := idV) (vf := clV n) (t := 44) hA fun r2 w21 hr2 hA hk hbm hM2 => ⟨_, rfl, hk, ?_⟩
      have hM := hM.call hbm
      have hgg := (hbm.block (Array.getElem?_eq_some_iff.1 hgg).1).trans hgg
      have hbox := (hbm.block (Array.getElem?_eq_some_iff.1 hbox).1).trans hbox
      have hr2l := hM2.lt
      have hr2g : ¬ r2 = g := by omega
      have hp2l := (Array.getElem?_eq_some_iff.1 hbox).1
      have hT := hT.call hbm
      refine ⟨rd_f0 hbox (by kernel_rfl) nod, rd_f0 hbox (by kernel_rfl) nod, _, rfl, ?_⟩
      refine opw_storeF hA hgg (.inr hBg) (show g ∉ [n4] by simp; omega) (cells' := soC n r2 gt) (by kernel_rfl) fun w31 hA hk hc hgg => ⟨hk, ?_⟩
      have hM := hM.chg hc fun e => hne.1 e.symm
      have hM2 := hM2.chg hc hr2g
      have hT := hT.chg hc hgt2g (by simp)
      have hbox := (hc.block p (Array.getElem?_eq_some_iff.1 hbox).1 hpg).trans hbox
      refine ⟨rd_f0 hbox (by kernel_rfl) nod, _, rfl, ?_⟩
      refine opw_storeF hA hgg (.inr hBg) (show g ∉ [n4] by simp; omega) (cells' := soC n r2 gt2) (by kernel_rfl) fun w34 hA hk hc hgg => ⟨hk, ?_⟩
      have hM := hM.chg hc fun e => hne.1 e.symm
      have hM2 := hM2.chg hc hr2g
      have hT := hT.chg hc hgt2g (by simp)
      have hbox := (hc.block p (Array.getElem?_eq_some_iff.1 hbox).1 hpg).trans hbox
      have hS : SoS w34 g r2 gt2 n [] .nil [] := ⟨hgg, hM2.base1 (.inr rfl) (by simp), hT⟩
      have hX : SoX w34 (fun b => b = g ∨ b = r2 ∨ b = gt2) g n [] := ⟨Good.nil hn, [], r2, gt2, .nil, [], fun _ => Iff.rfl, List.nodup_nil, hS, TrG.nil, by rintro b (e | e | e | e); exact .inl e; exact .inr (.inl e); exact .inr (.inr e); cases e⟩
      refine tot_loop hA hX hbox hM h.good k1 k2 hl ?_ ?_ ?_ ?_ ?_ hR2
      · rintro b (rfl | rfl | rfl)
        · exact hS.glt
        · exact hS.mp.lt
        · exact hS.tr.glt
      · rintro b (rfl | rfl | rfl)
        · exact .inr hBg
        · exact .inl (by omega)
        · exact .inl (by omega)
      · omega
      · omega
      · omega
end Go.Vc.S

/- The formulas of functions, printed by a program (VcTool.lean): each is what the generator's formula comes to, by the kernel's reckoning; whoever proves one has the function's contract. -/
set_option maxRecDepth 100000
set_option maxHeartbeats 1000000
set_option linter.unusedVariables false
namespace Vcs
open Go Go.Vc Go.RowKit
/-! manciple/manciplelaw09.Do -/
def h9 : Hints := ⟨[3], [], [7, 13, 21, 27, 35, 41, 47], [], [], [], [], [], []⟩
def f9_vc (s : Option Addr) (a_0 : Int) (a_1 : Int) (a_2 : Int) (a_3 : Int) (a_4 : Int) (a_5 : Int) (a_6 : Int) (w : World) (R : Ending → World → Prop) : Prop :=
 ∀ (n1 : Nat),
 w.heap.size ≤ n1 →
 ((a_0 == 0) = true →
 ∀ (w2 : World),
 Bel w w2 →
 Under [n1] w2 →
 Calls Proofs.Try.prog 19 #[Value.pointer s, Value.agg #[Value.int IntKind.i64 a_3, Value.int IntKind.i64 a_4, Value.int IntKind.i64 a_5, Value.int IntKind.i64 a_6]] w2 fun (e3 : Ending) (w4 : World) =>
 ∃ (x5 : Int), e3 = Ending.returned (Value.int IntKind.i64 x5) ∧ Keeps [n1] w2 w4 ∧ R (Ending.returned (Value.int IntKind.i64 x5)) w4) ∧
 ((a_0 == 0) = false →
 ((a_0 == 1) = true →
 ∀ (w6 : World),
 Bel w w6 →
 Under [n1] w6 →
 Calls Proofs.Try.prog 18 #[Value.pointer s, Value.int IntKind.i64 a_1, Value.int IntKind.i64 a_2] w6 fun (e7 : Ending) (w8 : World) =>
 ∃ (x9 : Int), e7 = Ending.returned (Value.int IntKind.i64 x9) ∧ Keeps [n1] w6 w8 ∧ R (Ending.returned (Value.int IntKind.i64 x9)) w8) ∧
 ((a_0 == 1) = false →
 ((a_0 == 2) = true →
 ∀ (w10 : World),
 Bel w w10 →
 Under [n1] w10 →
 Calls Proofs.Try.prog 42 #[Value.pointer s, Value.int IntKind.i64 a_1] w10 fun (e11 : Ending) (w12 : World) =>
 ∃ (x13 : Int), e11 = Ending.returned (Value.int IntKind.i64 x13) ∧ Keeps [n1] w10 w12 ∧ R (Ending.returned (Value.int IntKind.i64 x13)) w12) ∧
 ((a_0 == 2) = false →
 ((a_0 == 3) = true →
 ∀ (w14 : World),
 Bel w w14 →
 Under [n1] w14 →
 Calls Proofs.Try.prog 43 #[Value.pointer s, Value.int IntKind.i64 a_1, Value.int IntKind.i64 a_2] w14 fun (e15 : Ending) (w16 : World) =>
 ∃ (x17 : Int), e15 = Ending.returned (Value.int IntKind.i64 x17) ∧ Keeps [n1] w14 w16 ∧ R (Ending.returned (Value.int IntKind.i64 x17)) w16) ∧
 ((a_0 == 3) = false →
 ((a_0 == 4) = true →
 ∀ (w18 : World),
 Bel w w18 →
 Under [n1] w18 →
 Calls Proofs.Try.prog 44 #[Value.pointer s, Value.int IntKind.i64 a_1, Value.bool true] w18 fun (e19 : Ending) (w20 : World) =>
 ∃ (x21 : Int), e19 = Ending.returned (Value.int IntKind.i64 x21) ∧ Keeps [n1] w18 w20 ∧ R (Ending.returned (Value.int IntKind.i64 x21)) w20) ∧
 ((a_0 == 4) = false →
 ((a_0 == 5) = true →
 ∀ (w22 : World),
 Bel w w22 →
 Under [n1] w22 →
 Calls Proofs.Try.prog 44 #[Value.pointer s, Value.int IntKind.i64 a_1, Value.bool false] w22 fun (e23 : Ending) (w24 : World) =>
 ∃ (x25 : Int), e23 = Ending.returned (Value.int IntKind.i64 x25) ∧ Keeps [n1] w22 w24 ∧ R (Ending.returned (Value.int IntKind.i64 x25)) w24) ∧
 ((a_0 == 5) = false →
 ((a_0 == 6) = true →
 ∀ (w26 : World),
 Bel w w26 →
 Under [n1] w26 →
 Calls Proofs.Try.prog 15 #[Value.pointer s, Value.int IntKind.i64 a_1, Value.agg #[Value.int IntKind.i64 a_3, Value.int IntKind.i64 a_4, Value.int IntKind.i64 a_5, Value.int IntKind.i64 a_6]] w26
 fun (e27 : Ending) (w28 : World) => ∃ (x29 : Int), e27 = Ending.returned (Value.int IntKind.i64 x29) ∧ Keeps [n1] w26 w28 ∧ R (Ending.returned (Value.int IntKind.i64 x29)) w28) ∧
 ((a_0 == 6) = false →
 ∀ (w30 : World),
 Bel w w30 →
 Under [n1] w30 →
 Calls Proofs.Try.prog 16 #[Value.pointer s, Value.int IntKind.i64 a_1, Value.agg #[Value.int IntKind.i64 a_3, Value.int IntKind.i64 a_4, Value.int IntKind.i64 a_5, Value.int IntKind.i64 a_6]] w30
 fun (e31 : Ending) (w32 : World) => ∃ (x33 : Int), e31 = Ending.returned (Value.int IntKind.i64 x33) ∧ Keeps [n1] w30 w32 ∧ R (Ending.returned (Value.int IntKind.i64 x33)) w32)))))))
theorem f9_eq (s : Option Addr) (a_0 : Int) (a_1 : Int) (a_2 : Int) (a_3 : Int) (a_4 : Int) (a_5 : Int) (a_6 : Int) (w : World) (R : Ending → World → Prop) : (fnF Go.Proofs.Try.prog h9 Go.Proofs.Try.f9 [Value.pointer s, Value.agg #[Value.int IntKind.i64 a_0, Value.int IntKind.i64 a_1, Value.int IntKind.i64 a_2, Value.int IntKind.i64 a_3, Value.int IntKind.i64 a_4, Value.int IntKind.i64 a_5, Value.int IntKind.i64 a_6]] w R).den = f9_vc s a_0 a_1 a_2 a_3 a_4 a_5 a_6 w R := by kernel_rfl
theorem f9_calls (s : Option Addr) (a_0 : Int) (a_1 : Int) (a_2 : Int) (a_3 : Int) (a_4 : Int) (a_5 : Int) (a_6 : Int) (w : World) (R : Ending → World → Prop) (h : f9_vc s a_0 a_1 a_2 a_3 a_4 a_5 a_6 w R) : Calls Go.Proofs.Try.prog 9 (List.toArray [Value.pointer s, Value.agg #[Value.int IntKind.i64 a_0, Value.int IntKind.i64 a_1, Value.int IntKind.i64 a_2, Value.int IntKind.i64 a_3, Value.int IntKind.i64 a_4, Value.int IntKind.i64 a_5, Value.int IntKind.i64 a_6]]) w R :=
 fn_sound (H := h9) (fn := Go.Proofs.Try.f9) (by kernel_rfl) (by kernel_rfl) (by kernel_rfl) ((f9_eq s a_0 a_1 a_2 a_3 a_4 a_5 a_6 w R).mpr h)


/-! manciple/manciplelaw09.works -/
def h14 : Hints := ⟨[4], [48], [11, 16, 21, 27, 41, 46, 52, 55, 61], [], [], [], [], [], []⟩
def f14_vc  (w : World) (R : Ending → World → Prop) : Prop :=
 Calls Proofs.Try.prog 8 #[] w fun (e1 : Ending) (w2 : World) =>
 ∃ (a3 : Option Addr),
 e1 = Ending.returned (Value.pointer a3) ∧
 Calls Proofs.Try.prog 19 #[Value.pointer a3, Value.agg #[Value.int IntKind.i64 10, Value.int IntKind.i64 0, Value.int IntKind.i64 0, Value.int IntKind.i64 0]] w2 fun (e4 : Ending) (w5 : World) =>
 ∃ (x6 : Int),
 e4 = Ending.returned (Value.int IntKind.i64 x6) ∧
 ((x6 == 0) = true →
 Calls Proofs.Try.prog 18 #[Value.pointer a3, Value.int IntKind.i64 1, Value.int IntKind.i64 1] w5 fun (e7 : Ending) (w8 : World) =>
 ∃ (x9 : Int),
 e7 = Ending.returned (Value.int IntKind.i64 x9) ∧
 ((x9 == 0) = true →
 Calls Proofs.Try.prog 18 #[Value.pointer a3, Value.int IntKind.i64 2, Value.int IntKind.i64 3] w8 fun (e10 : Ending) (w11 : World) =>
 ∃ (x12 : Int),
 e10 = Ending.returned (Value.int IntKind.i64 x12) ∧
 ((x12 == 0) = true →
 Calls Proofs.Try.prog 15 #[Value.pointer a3, Value.int IntKind.i64 1, Value.agg #[Value.int IntKind.i64 4, Value.int IntKind.i64 0, Value.int IntKind.i64 0, Value.int IntKind.i64 0]] w11
 fun (e13 : Ending) (w14 : World) =>
 ∃ (x15 : Int),
 e13 = Ending.returned (Value.int IntKind.i64 x15) ∧
 ((x15 == 0) = true →
 Calls Proofs.Try.prog 15 #[Value.pointer a3, Value.int IntKind.i64 2, Value.agg #[Value.int IntKind.i64 9, Value.int IntKind.i64 0, Value.int IntKind.i64 0, Value.int IntKind.i64 0]] w14
 fun (e16 : Ending) (w17 : World) =>
 ∃ (x18 : Int),
 e16 = Ending.returned (Value.int IntKind.i64 x18) ∧
 Calls Proofs.Try.prog 10 #[Value.pointer a3] w17 fun (e19 : Ending) (w20 : World) =>
 ∃ (a21 : Option Addr),
 ∃ (n22 : Nat),
 ∃ (n23 : Nat),
 e19 = Ending.returned (Value.slice a21 n22 n23) ∧
 Calls Proofs.Try.prog 11 #[Value.pointer a3, Value.int IntKind.i64 2] w20 fun (e24 : Ending) (w25 : World) =>
 ∃ (x26 : Int),
 ∃ (x27 : Int),
 ∃ (x28 : Int),
 ∃ (b29 : Bool),
 e24 = Ending.returned (Value.tuple #[Value.agg #[Value.int IntKind.i64 x26, Value.int IntKind.i64 x27, Value.int IntKind.i64 x28], Value.bool b29]) ∧
 ∀ (n30 : Nat),
 w25.heap.size ≤ n30 →
 ((x18 == 0) = true →
 (((↑n22 : Int) == 2) = true →
 ∃ (ad31 : Addr),
 Gives Proofs.Try.prog (Instr.indexAt 29 (Value.slice a21 n22 n23) (Value.int IntKind.i64 0)) (Value.pointer (some ad31)) ∧
 ∃ (x32 : Int),
 Reads Proofs.Try.prog [n30] (Instr.loadAt 2 (Value.pointer (some ad31))) w25 (Value.int IntKind.i64 x32) ∧
 ((x32 == 2) = true →
 (b29 = true →
 ((x26 == 9 && (x27 == 10 && true)) = true →
 ∀ (w33 : World),
 Evo [n30] w25 w33 →
 Under [n30] w33 →
 Calls Proofs.Try.prog 18 #[Value.pointer a3, Value.int IntKind.i64 1, Value.int IntKind.i64 1] w33
 fun (e34 : Ending) (w35 : World) =>
 ∃ (x36 : Int),
 e34 = Ending.returned (Value.int IntKind.i64 x36) ∧
 Keeps [n30] w33 w35 ∧ R (Ending.returned (Value.bool (x36 == 42))) w35) ∧
 ((x26 == 9 && (x27 == 10 && true)) = false →
 ∀ (w37 : World), Evo [n30] w25 w37 → Under [n30] w37 → R (Ending.returned (Value.bool false)) w37)) ∧
 (b29 = false → ∀ (w38 : World), Evo [n30] w25 w38 → Under [n30] w38 → R (Ending.returned (Value.bool false)) w38)) ∧
 ((x32 == 2) = false → ∀ (w39 : World), Evo [n30] w25 w39 → Under [n30] w39 → R (Ending.returned (Value.bool false)) w39)) ∧
 (((↑n22 : Int) == 2) = false → ∀ (w40 : World), Evo [n30] w25 w40 → Under [n30] w40 → R (Ending.returned (Value.bool false)) w40)) ∧
 ((x18 == 0) = false → ∀ (w41 : World), Evo [n30] w25 w41 → Under [n30] w41 → R (Ending.returned (Value.bool false)) w41)) ∧
 ((x15 == 0) = false →
 Calls Proofs.Try.prog 10 #[Value.pointer a3] w14 fun (e42 : Ending) (w43 : World) =>
 ∃ (a44 : Option Addr),
 ∃ (n45 : Nat),
 ∃ (n46 : Nat),
 e42 = Ending.returned (Value.slice a44 n45 n46) ∧
 Calls Proofs.Try.prog 11 #[Value.pointer a3, Value.int IntKind.i64 2] w43 fun (e47 : Ending) (w48 : World) =>
 ∃ (x49 : Int),
 ∃ (x50 : Int),
 ∃ (x51 : Int),
 ∃ (b52 : Bool),
 e47 = Ending.returned (Value.tuple #[Value.agg #[Value.int IntKind.i64 x49, Value.int IntKind.i64 x50, Value.int IntKind.i64 x51], Value.bool b52]) ∧
 ∀ (n53 : Nat), w48.heap.size ≤ n53 → ∀ (w54 : World), Evo [n53] w48 w54 → Under [n53] w54 → R (Ending.returned (Value.bool false)) w54)) ∧
 ((x12 == 0) = false →
 Calls Proofs.Try.prog 10 #[Value.pointer a3] w11 fun (e55 : Ending) (w56 : World) =>
 ∃ (a57 : Option Addr),
 ∃ (n58 : Nat),
 ∃ (n59 : Nat),
 e55 = Ending.returned (Value.slice a57 n58 n59) ∧
 Calls Proofs.Try.prog 11 #[Value.pointer a3, Value.int IntKind.i64 2] w56 fun (e60 : Ending) (w61 : World) =>
 ∃ (x62 : Int),
 ∃ (x63 : Int),
 ∃ (x64 : Int),
 ∃ (b65 : Bool),
 e60 = Ending.returned (Value.tuple #[Value.agg #[Value.int IntKind.i64 x62, Value.int IntKind.i64 x63, Value.int IntKind.i64 x64], Value.bool b65]) ∧
 ∀ (n66 : Nat), w61.heap.size ≤ n66 → ∀ (w67 : World), Evo [n66] w61 w67 → Under [n66] w67 → R (Ending.returned (Value.bool false)) w67)) ∧
 ((x9 == 0) = false →
 Calls Proofs.Try.prog 10 #[Value.pointer a3] w8 fun (e68 : Ending) (w69 : World) =>
 ∃ (a70 : Option Addr),
 ∃ (n71 : Nat),
 ∃ (n72 : Nat),
 e68 = Ending.returned (Value.slice a70 n71 n72) ∧
 Calls Proofs.Try.prog 11 #[Value.pointer a3, Value.int IntKind.i64 2] w69 fun (e73 : Ending) (w74 : World) =>
 ∃ (x75 : Int),
 ∃ (x76 : Int),
 ∃ (x77 : Int),
 ∃ (b78 : Bool),
 e73 = Ending.returned (Value.tuple #[Value.agg #[Value.int IntKind.i64 x75, Value.int IntKind.i64 x76, Value.int IntKind.i64 x77], Value.bool b78]) ∧
 ∀ (n79 : Nat), w74.heap.size ≤ n79 → ∀ (w80 : World), Evo [n79] w74 w80 → Under [n79] w80 → R (Ending.returned (Value.bool false)) w80)) ∧
 ((x6 == 0) = false →
 Calls Proofs.Try.prog 10 #[Value.pointer a3] w5 fun (e81 : Ending) (w82 : World) =>
 ∃ (a83 : Option Addr),
 ∃ (n84 : Nat),
 ∃ (n85 : Nat),
 e81 = Ending.returned (Value.slice a83 n84 n85) ∧
 Calls Proofs.Try.prog 11 #[Value.pointer a3, Value.int IntKind.i64 2] w82 fun (e86 : Ending) (w87 : World) =>
 ∃ (x88 : Int),
 ∃ (x89 : Int),
 ∃ (x90 : Int),
 ∃ (b91 : Bool),
 e86 = Ending.returned (Value.tuple #[Value.agg #[Value.int IntKind.i64 x88, Value.int IntKind.i64 x89, Value.int IntKind.i64 x90], Value.bool b91]) ∧
 ∀ (n92 : Nat), w87.heap.size ≤ n92 → ∀ (w93 : World), Evo [n92] w87 w93 → Under [n92] w93 → R (Ending.returned (Value.bool false)) w93)
theorem f14_eq  (w : World) (R : Ending → World → Prop) : (fnF Go.Proofs.Try.prog h14 Go.Proofs.Try.f14 [] w R).den = f14_vc  w R := by kernel_rfl
theorem f14_calls  (w : World) (R : Ending → World → Prop) (h : f14_vc  w R) : Calls Go.Proofs.Try.prog 14 (List.toArray []) w R :=
 fn_sound (H := h14) (fn := Go.Proofs.Try.f14) (by kernel_rfl) (by kernel_rfl) (by kernel_rfl) ((f14_eq  w R).mpr h)


/-! manciple/manciplelaw09.Same -/
def h17 : Hints := ⟨[], [19, 23], [10, 14, 25], [(6, [0, 1, 2, 3, 4, 5, 6, 7, 8])], [], [(4, ⟨[(5, .int .i64)], []⟩)], [], [], []⟩
def f17_vc (aa : Option Addr) (an : Nat) (ac : Nat) (ba : Option Addr) (bn : Nat) (bc : Nat) (w : World) (R : Ending → World → Prop) : Prop :=
 (((↑an : Int) != (↑bn : Int)) = true → R (Ending.returned (Value.bool false)) w) ∧
 (((↑an : Int) != (↑bn : Int)) = false →
 ∃ (J1 : Int × Unit → World → Prop),
 ∃ (J2 : Int × Unit → World → Nat),
 J1 (0, ()) w ∧
 ∀ (x3 : Int) (w4 : World),
 J1 (x3, ()) w4 →
 (decide (x3 < (↑an : Int)) = true →
 ∃ (ad5 : Addr),
 Gives Proofs.Try.prog (Instr.indexAt 29 (Value.slice aa an ac) (Value.int IntKind.i64 x3)) (Value.pointer (some ad5)) ∧
 ∃ (x6 : Int),
 Reads Proofs.Try.prog [] (Instr.loadAt 2 (Value.pointer (some ad5))) w4 (Value.int IntKind.i64 x6) ∧
 ∃ (ad7 : Addr),
 Gives Proofs.Try.prog (Instr.indexAt 29 (Value.slice ba bn bc) (Value.int IntKind.i64 x3)) (Value.pointer (some ad7)) ∧
 ∃ (x8 : Int),
 Reads Proofs.Try.prog [] (Instr.loadAt 2 (Value.pointer (some ad7))) w4 (Value.int IntKind.i64 x8) ∧
 ((x6 != x8) = true → ∀ (w9 : World), Bel w4 w9 → R (Ending.returned (Value.bool false)) w9) ∧
 ((x6 != x8) = false → ∀ (w10 : World), Bel w4 w10 → J1 (IntKind.i64.wrap (x3 + 1), ()) w10 ∧ J2 (IntKind.i64.wrap (x3 + 1), ()) w10 < J2 (x3, ()) w4)) ∧
 (decide (x3 < (↑an : Int)) = false → R (Ending.returned (Value.bool true)) w4))
theorem f17_eq (aa : Option Addr) (an : Nat) (ac : Nat) (ba : Option Addr) (bn : Nat) (bc : Nat) (w : World) (R : Ending → World → Prop) : (fnF Go.Proofs.Try.prog h17 Go.Proofs.Try.f17 [Value.slice aa an ac, Value.slice ba bn bc] w R).den = f17_vc aa an ac ba bn bc w R := by kernel_rfl
theorem f17_calls (aa : Option Addr) (an : Nat) (ac : Nat) (ba : Option Addr) (bn : Nat) (bc : Nat) (w : World) (R : Ending → World → Prop) (h : f17_vc aa an ac ba bn bc w R) : Calls Go.Proofs.Try.prog 17 (List.toArray [Value.slice aa an ac, Value.slice ba bn bc]) w R :=
 fn_sound (H := h17) (fn := Go.Proofs.Try.f17) (by kernel_rfl) (by kernel_rfl) (by kernel_rfl) ((f17_eq aa an ac ba bn bc w R).mpr h)

end Vcs

/- What the sorter tells: Order, First, Share, Sum, Long; New; Do. -/
set_option maxRecDepth 20000
set_option maxHeartbeats 1000000
namespace Go.Vc.S
open Go Go.Vc Go.RowKit Go.Proofs Go.Vc.T Vcs

variable {w W W' W1 : World} {M N : Nat → Prop} {gs ds : List Nat} {g r gt p : Nat} {T n : Ar4} {m m0 m1 : List (Int × Cl)} {t : Tr Pl} {id : Int} {c : Cl} {B B' : Nat → Prop}

theorem reads_lenM {κ α : Type} {w0 : World} {M0 : Nat → Prop} {gs0 : List Nat} {kf : κ → Value} {vf : α → Value} {m : List (κ × α)} {t kt et ty : TypeId} (ht : Try.prog.underlying t = some (.map kt et)) (h : OwnM w0 M0 gs0 W r kf vf m) (hd : ∀ d ∈ ds, d ≠ r) : Reads Try.prog ds (Builtin.len_ #[t] ty #[.map (some r)]) W (.int .i64 (m.length : Int)) := by
  intro W' hW'
  obtain ⟨es, clock, hr, he, _⟩ := h.obj
  have hb : W'.heap[r]? = some (.map es clock) := by
    have : W'.heap[r]? = W.heap[r]? := by
      cases ds with
      | nil => exact Bel.block hW' h.lt
      | cons d s => exact Evo.block hW' _ h.lt (fun hm => hd _ hm rfl)
    rw [this, hr]
  have hrun : (Builtin.len_ #[t] ty #[.map (some r)]).run Try.prog W' = .ok (goInt es.size) W' := by
    unfold Builtin.len_
    simp only [List.getElem?_toArray, List.getElem?_cons_zero]
    rw [run_bind_ok (run_underlying ht W')]
    simp only
    rw [run_bind_ok (run_getObj_m hb)]
    rfl
  rw [hrun]
  have hl : es.size = m.length := by
    have := congrArg List.length he
    simpa using this
  rw [hl]
  rfl
/-- The order of those that are awake. -/
def IsOrd (T : Ar4) (m : List (Int × Cl)) (l : List Pl) : Prop := Tr.Srt cfP l ∧ ∀ y, y ∈ l ↔ ∃ x ∈ m, x.2.aw = true ∧ y = plc T x
noncomputable def ordL (T : Ar4) (m : List (Int × Cl)) : List Pl := Classical.epsilon (IsOrd T m)
theorem ord_of (hg : Good T m) {l : List Pl} (h : IsOrd T m l) : ordL T m = l := by
  have h2 : IsOrd T m (ordL T m) := Classical.epsilon_spec ⟨l, h⟩
  refine Tr.srt_extOn hg.ps.ord (fun y hy => ?_) h2.1 h.1 fun y => (h2.2 y).trans (h.2 y).symm
  obtain ⟨x, hx, _, e⟩ := (h2.2 y).1 hy
  exact ⟨x, hx, e⟩
theorem TrG.ordL (h : TrG T m0 t) (hg : Good T m) (hs : ∀ x, x ∈ m0 ↔ x ∈ m) : ordL T m = t.toL := ord_of hg ⟨h.so, fun y => by
  rw [h.me]
  constructor
  · rintro ⟨x, hx, r⟩; exact ⟨x, (hs x).1 hx, r⟩
  · rintro ⟨x, hx, r⟩; exact ⟨x, (hs x).2 hx, r⟩⟩
theorem SoX.is (h : SoX W B g T m) : IsOrd T m (ordL T m) ∧ (ordL T m).length ≤ m.length := by
  obtain ⟨m0, r, gt, t, bs, k1, k2, k3, k4, k5⟩ := h.ex
  have e := k4.ordL h.good k1
  rw [e]
  refine ⟨⟨k4.so, fun y => ?_⟩, ?_⟩
  · rw [k4.me]
    constructor
    · rintro ⟨x, hx, r⟩; exact ⟨x, (k1 x).1 hx, r⟩
    · rintro ⟨x, hx, r⟩; exact ⟨x, (k1 x).2 hx, r⟩
  · rw [← Tr.size_len, ← same_len k1 k2 h.good.nd]
    exact k4.len (same_good h.good k1 k2)
abbrev i1E (x : Int) : List Value := [.int .i64 x]

theorem c10 (h : SoX W B g T m) (hl : m.length < 100000) : RetL Try.prog 10 #[.pointer (pt g)] W 2 1 i1E ((ordL T m).map Pl.d) := by
  intro R hR
  refine f10_calls _ W R ?_
  unfold f10_vc
  have hA := At.refl W
  refine at_callb hA (c45 h) fun w2 hA _ hb => ⟨_, rfl, brB (fun _ => ?_) (fun e => by cases e)⟩
  have h := h.call hb
  obtain ⟨m0, r, gt, t, bs, k1, k2, k3, k4, k5⟩ := h.ex
  have hlen := k4.len (same_good h.good k1 k2)
  rw [same_len k1 k2 h.good.nd] at hlen
  rw [k4.ordL h.good k1] at hR
  refine ⟨_, rfl, _, k3.rdG nod, ?_⟩
  refine at_calll hA (c46 k3.tr (by omega)) (fun _ _ => rfl) fun a8 c8 w7 hA _ hb7 ho8 hsl => ⟨_, _, _, rfl, ?_⟩
  have hll : t.toL.length = t.size := (Tr.size_len t).symm
  refine ⟨fun s W' => At W [] W' ∧ ∃ i : Nat, s.2.1 = i ∧ i ≤ t.toL.length ∧ OwnL W [] W' 2 1 i1E (.slice s.1.1 s.1.2.1 s.1.2.2) ((t.toL.take i).map Pl.d) ∧ s.1.2.1 = i ∧ SlE W' 4 plC t.toL a8 t.toL.length c8 ∧ (∀ k, (Value.slice s.1.1 s.1.2.1 s.1.2.2).ownBlock = some k → (Value.slice a8 t.toL.length c8).ownBlock ≠ some k) ∧ OwnL W [] W' 93 4 plC (.slice a8 t.toL.length c8) t.toL, fun s _ => t.toL.length - s.2.1.toNat, ⟨hA, 0, rfl, Nat.zero_le _, OwnL.nil, rfl, hsl, (fun k hk => by cases hk), ho8⟩, ?_⟩
  rintro a13 n14 n15 x16 w17 ⟨hA, i, hi, hile, ho, hn, hsl, hap, ho8⟩
  simp only at hi ho hn hap
  subst hi
  refine brD (fun hlt => ?_) fun hge => ?_
  · have hil : i < t.toL.length := by omega
    obtain ⟨ad, g1, el, _⟩ := elt_at (P := Try.prog) (k := .i64) (t := 98) hsl (List.getElem?_eq_getElem hil) (e := 93) (by kernel_rfl) (by kernel_rfl)
    refine ⟨ad, g1, _, _, _, _, el.agg 4 (by kernel_rfl) (by kernel_rfl) (by simp) no_ds, fun n23 h23 w24 he hu => ?_⟩
    have hb := he.bel (by simpa using h23)
    have hA24 : At W [n23] w24 := ⟨(hA.call hb).chg, hu⟩
    have ho24 : OwnL W [n23] w24 2 1 i1E (.slice a13 n14 n15) ((t.toL.take i).map Pl.d) := OwnF.base (ho.call hb) (fun k hk => ho.mine k hk) fun q hq e => by
      have := ho.lt q e
      rw [List.mem_singleton.1 hq] at this
      omega
    have hlen14 : n14 = ((t.toL.take i).map Pl.d).length := by simp; omega
    subst hlen14
    refine opw_push (e' := 2) (bytes := 8) hA24 ho24 (t.toL[i]).d (by kernel_rfl) (by kernel_rfl) rfl (fun _ _ => rfl) (by simp [Value.oneCell']) (by simp; omega) (by decide) fun a32 c32 w31 hA31 ho31 hg31 hnew => ?_
    have htk : (t.toL.take i).map Pl.d ++ [(t.toL[i]).d] = (t.toL.take (i + 1)).map Pl.d := by
      rw [List.take_add_one, List.getElem?_eq_getElem hil, Option.toList_some, List.map_append]; rfl
    have hw : IntKind.i64.wrap ((i : Int) + 1) = ((i + 1 : Nat) : Int) := by rw [wrap_i64 (by omega) (by omega)]; omega
    rw [hw]
    have ho8' := ho8.call hb
    have hne8 : (Value.slice a8 t.toL.length c8).ownBlock = none ∨ (Value.slice a8 t.toL.length c8).ownBlock ≠ (Value.slice a13 ((t.toL.take i).map Pl.d).length n15).ownBlock := by
      cases h8 : (Value.slice a8 t.toL.length c8).ownBlock with
      | none => exact .inl rfl
      | some k => exact .inr fun e => hap k e.symm h8
    have ho8'' := ho8'.grown hg31 hne8
    refine ⟨⟨hA31.off, i + 1, rfl, hil, htk ▸ OwnF.base ho31 (fun k hk => ho31.mine k hk) (by simp), by simp; omega, ?_, fun k hk e => ?_, ho8''⟩, ?_⟩
    · obtain ⟨a', c', e', hs'⟩ := ho8''.slice fun _ _ => rfl
      cases e'
      exact hs'
    · rcases hnew with e2 | e2
      · rw [e2] at hk
        exact hap k hk e
      · have := e2 k hk
        have := ho8'.lt k e
        omega
    · simp only
      omega
  · have hie : i = t.toL.length := by omega
    subst hie
    rw [List.take_length] at ho
    exact leafl hR hA ho rfl
def fstV (l : List Pl) : Value := match l with
  | [] => .tuple #[.int .i64 0, .bool false]
  | x :: _ => .tuple #[.int .i64 x.d, .bool true]
theorem c22 (h : SoX W B g T m) (hl : m.length < 100000) : Ret Try.prog 22 #[.pointer (pt g)] W (fstV (ordL T m)) := by
  intro R hR
  refine f22_calls _ W R ?_
  unfold f22_vc
  have hA := At.refl W
  refine at_callb hA (c45 h) fun w2 hA _ hb => ⟨_, rfl, brB (fun e => by cases e) (fun _ => ?_)⟩
  have h := h.call hb
  obtain ⟨m0, r, gt, t, bs, k1, k2, k3, k4, k5⟩ := h.ex
  have hlen := k4.len (same_good h.good k1 k2)
  rw [same_len k1 k2 h.good.nd] at hlen
  rw [k4.ordL h.good k1] at hR
  refine ⟨_, rfl, _, k3.rdG nod, ?_⟩
  refine at_callb hA (c66 k3.tr (by omega)) fun w7 hA _ _ => ?_
  have hsz := Tr.size_len t
  unfold atT
  unfold fstV at hR
  cases hx : t.toL with
  | nil =>
    rw [hx] at hR hsz
    rw [if_neg (by rw [hsz]; simp)]
    exact ⟨_, _, _, _, _, rfl, go_n hA fun n13 h13 => go_evo hA (by simpa using h13) fun w14 hA => leaf hR hA rfl⟩
  | cons x l =>
    rw [hx] at hR hsz
    rw [if_pos (by rw [hsz]; simp)]
    exact ⟨_, _, _, _, _, rfl, go_n hA fun n13 h13 => go_evo hA (by simpa using h13) fun w14 hA => leaf hR hA rfl⟩
noncomputable def shaV (T : Ar4) : Option Cl → Value
  | none => .tuple #[shV 0 0 0, .bool false]
  | some c => .tuple #[shV (domT T c.s).1 (domT T c.s).2 c.w, .bool true]
theorem c11 (h : SoX W B g T m) (id : Int) : Ret Try.prog 11 #[.pointer (pt g), .int .i64 id] W (shaV T (mget id m)) := by
  intro R hR
  refine f11_calls _ _ W R ?_
  unfold f11_vc
  have hA := At.refl W
  refine go_n hA fun n1 h1 => go_below_too hA fun w2 hA hb => at_callb hA (c47 (h.call hb) id) fun w4 hA hk _ => ?_
  cases hx : mget id m with
  | none =>
    rw [hx] at hR
    exact ⟨_, _, _, _, _, _, _, _, _, rfl, hk, go_n hA fun n14 h14 => go_evo hA (by simp; omega) fun w14 hA => leaf hR hA rfl⟩
  | some c =>
    rw [hx] at hR
    exact ⟨_, _, _, _, _, _, _, _, _, rfl, hk, go_n hA fun n14 h14 => go_evo hA (by simp; omega) fun w14 hA => leaf hR hA rfl⟩
def sumV : Option Cl → Value
  | none => .tuple #[arrV 0 0 0 0, .bool false]
  | some c => .tuple #[arT c.s, .bool true]
theorem c23 (h : SoX W B g T m) (id : Int) : Ret Try.prog 23 #[.pointer (pt g), .int .i64 id] W (sumV (mget id m)) := by
  intro R hR
  refine f23_calls _ _ W R ?_
  unfold f23_vc
  have hA := At.refl W
  refine go_n hA fun n1 h1 => go_below_too hA fun w2 hA hb => at_callb hA (c47 (h.call hb) id) fun w4 hA hk _ => ?_
  cases hx : mget id m with
  | none =>
    rw [hx] at hR
    exact ⟨_, _, _, _, _, _, _, _, _, rfl, hk, go_n hA fun n14 h14 => go_evo hA (by simp; omega) fun w14 hA => leaf hR hA rfl⟩
  | some c =>
    rw [hx] at hR
    exact ⟨_, _, _, _, _, _, _, _, _, rfl, hk, go_n hA fun n14 h14 => go_evo hA (by simp; omega) fun w14 hA => leaf hR hA rfl⟩
theorem c13 (h : SoX W B g T m) : Ret Try.prog 13 #[.pointer (pt g)] W (.int .i64 (m.length : Int)) := by
  intro R hR
  refine f13_calls _ W R ?_
  unfold f13_vc
  have hA := At.refl W
  refine at_callb hA (c45 h) fun w2 hA _ hb => ⟨_, rfl, brB (fun e => by cases e) (fun _ => ?_)⟩
  have h := h.call hb
  obtain ⟨m0, r, gt, t, bs, k1, k2, k3, k4, k5⟩ := h.ex
  refine ⟨_, rfl, _, k3.rdR nod, _, reads_lenM (kt := 2) (et := 101) (by kernel_rfl) k3.mp nod, leaf hR hA ?_⟩
  rw [same_len k1 k2 h.good.nd]
theorem sm0 : sm4 (0, 0, 0, 0) := by decide
theorem c8 (W : World) : RetQ Try.prog 8 #[] W (fun v W' => ∃ g, v = .pointer (pt g) ∧ SoX W' (fun b => W.heap.size ≤ b) g (0, 0, 0, 0) []) := by
  intro R hR
  refine f8_calls W R ?_
  unfold f8_vc
  have hA := At.refl W
  refine opw_makeMap (kf := idV) (vf := clV (0, 0, 0, 0)) (t := 44) hA fun r2 w2 hr2 hA _ hb hM => ⟨_, rfl, ?_⟩
  refine at_callq hA c40 fun v w5 hA _ hb5 ⟨gt, hv, hgt, hT⟩ => ?_
  subst hv
  have hM := hM.call hb5
  have h2 := hb.size
  refine ⟨_, rfl, opw_boxS hA fun g w8 hg hA _ hb8 hblk => ⟨_, rfl, leafq hR hA ⟨g, rfl, Good.nil sm0, [], r2, gt, .nil, [], fun _ => Iff.rfl, List.nodup_nil, ⟨hblk, (hM.call hb8).base1 (.inr rfl) (by simp), hT.call hb8⟩, TrG.nil, ?_⟩⟩⟩
  have h5 := hb5.size
  rintro b (e | e | e | e)
  · omega
  · omega
  · omega
  · cases e

/-- What is done: its kind, whose, a weight, sums. -/
abbrev Act := Int × Int × Int × Ar4
abbrev acV (a : Act) : Value := .agg #[.int .i64 a.1, .int .i64 a.2.1, .int .i64 a.2.2.1, .int .i64 a.2.2.2.1, .int .i64 a.2.2.2.2.1, .int .i64 a.2.2.2.2.2.1, .int .i64 a.2.2.2.2.2.2]
def doD (s : Ar4 × List (Int × Cl)) (a : Act) : (Ar4 × List (Int × Cl)) × Int :=
  if a.1 = 0 then (if sm4 a.2.2.2 then ((a.2.2.2, s.2), 0) else (s, 41))
  else if a.1 = 1 then ((s.1, (putD s.2 a.2.1 a.2.2.1).1), (putD s.2 a.2.1 a.2.2.1).2)
  else if a.1 = 2 then ((s.1, (dropD s.2 a.2.1).1), (dropD s.2 a.2.1).2)
  else if a.1 = 3 then ((s.1, (turnD s.2 a.2.1 (weighF a.2.2.1)).1), (turnD s.2 a.2.1 (weighF a.2.2.1)).2)
  else if a.1 = 4 then ((s.1, (turnD s.2 a.2.1 (wakeF true)).1), (turnD s.2 a.2.1 (wakeF true)).2)
  else if a.1 = 5 then ((s.1, (turnD s.2 a.2.1 (wakeF false)).1), (turnD s.2 a.2.1 (wakeF false)).2)
  else if a.1 = 6 then ((s.1, (turnD s.2 a.2.1 (giveF a.2.2.2)).1), (turnD s.2 a.2.1 (giveF a.2.2.2)).2)
  else ((s.1, (turnD s.2 a.2.1 (takeF a.2.2.2)).1), (turnD s.2 a.2.1 (takeF a.2.2.2)).2)
theorem c9 (h : SoX W B g T m) (hl : m.length < 100000) (a : Act) : RetF Try.prog 9 #[.pointer (pt g), acV a] W B (fun v W' => v = .int .i64 (doD (T, m) a).2 ∧ SoX W' (fun b => B b ∨ W.heap.size ≤ b) g (doD (T, m) a).1.1 (doD (T, m) a).1.2) := by
  intro R hR
  refine f9_calls _ _ _ _ _ _ _ _ W R ?_
  unfold f9_vc
  have hA : AtF W B [] W := AtF.refl W _
  have h0 := h
  have h : SoX W (fun b => B b ∧ b < W.heap.size) g T m := h.mono fun _ hl hb => ⟨hb, hl⟩
  unfold doD at hR
  refine go_n hA fun n1 h1 => ?_
  have fin : ∀ {f : FuncId} {args : Array Value} {W2 : World} {q : List (Int × Cl) × Int}, AtF W B [n1] W2 → RetF Try.prog f args W2 (fun b => B b ∧ b < W.heap.size) (TnQ W2 (fun b => B b ∧ b < W.heap.size) g T q) → (∀ v W', Chg B W W' → (v = .int .i64 q.2 ∧ SoX W' (fun b => B b ∨ W.heap.size ≤ b) g T q.1) → R (.returned v) W') → Calls Try.prog f args W2 fun e w' => ∃ x, e = .returned (.int .i64 x) ∧ Keeps [n1] W2 w' ∧ R (.returned (.int .i64 x)) w' := by
    intro f args W2 q hA hc hR
    refine at_callF hA hc (fun b _ hb => .inr hb.1) (fun y hy hb => by rw [List.mem_singleton.1 hy] at hb; omega) fun v w5 hA2 hk _ hq => ?_
    have hv := hq.1
    subst hv
    exact ⟨_, rfl, hk, leafF hR hA2 ⟨rfl, hq.2.mono fun b _ hb => hb.elim (fun e => .inl e.1) fun e => .inr (Nat.le_trans hA.size e)⟩⟩
  refine brE (fun e => ?_) fun e => ?_
  · simp only [if_pos e] at hR
    refine go_below_too hA fun w2 hA hb => ?_
    refine at_callF hA (c19 a.2.2.2 (h.call hb) hl) (fun b _ hb => .inr hb.1) (fun y hy hb => by rw [List.mem_singleton.1 hy] at hb; omega) fun v w5 hA2 hk _ hq => ?_
    by_cases hs : sm4 a.2.2.2
    · simp only [if_pos hs] at hq hR
      obtain ⟨hv, hX⟩ := hq
      subst hv
      exact ⟨_, rfl, hk, leafF hR hA2 ⟨rfl, hX.mono fun b _ hb => hb.elim (fun e => .inl e.1) fun e => .inr (Nat.le_trans hA.size e)⟩⟩
    · simp only [if_neg hs] at hq hR
      obtain ⟨hv, hX⟩ := hq
      subst hv
      exact ⟨_, rfl, hk, leafF hR hA2 ⟨rfl, hX.mono fun b _ hb => hb.elim (fun e => .inl e.1) fun e => .inr (Nat.le_trans hA.size e)⟩⟩
  simp only [if_neg e] at hR
  refine brE (fun e => ?_) fun e => ?_
  · simp only [if_pos e] at hR
    exact go_below_too hA fun w2 hA hb => fin hA (c18 (h.call hb) hl _ _) hR
  simp only [if_neg e] at hR
  refine brE (fun e => ?_) fun e => ?_
  · simp only [if_pos e] at hR
    exact go_below_too hA fun w2 hA hb => fin hA (c42 (h.call hb) hl _) hR
  simp only [if_neg e] at hR
  refine brE (fun e => ?_) fun e => ?_
  · simp only [if_pos e] at hR
    exact go_below_too hA fun w2 hA hb => fin hA (c43 (h.call hb) hl _ _) hR
  simp only [if_neg e] at hR
  refine brE (fun e => ?_) fun e => ?_
  · simp only [if_pos e] at hR
    exact go_below_too hA fun w2 hA hb => fin hA (c44 (h.call hb) hl _ _) hR
  simp only [if_neg e] at hR
  refine brE (fun e => ?_) fun e => ?_
  · simp only [if_pos e] at hR
    exact go_below_too hA fun w2 hA hb => fin hA (c44 (h.call hb) hl _ _) hR
  simp only [if_neg e] at hR
  refine brE (fun e => ?_) fun e => ?_
  · simp only [if_pos e] at hR
    exact go_below_too hA fun w2 hA hb => fin hA (c15 (h.call hb) hl _ _) hR
  simp only [if_neg e] at hR
  exact go_below_too hA fun w2 hA hb => fin hA (c16 (h.call hb) hl _ _) hR
end Go.Vc.S

/- works, Same; how acts change the number of clients. -/
set_option maxRecDepth 20000
set_option maxHeartbeats 1000000
set_option linter.unusedVariables false
namespace Go.Vc.S
open Go Go.Vc Go.RowKit Go.Proofs Go.Vc.T Vcs

variable {w W W' W1 : World} {M N : Nat → Prop} {gs ds : List Nat} {g r gt p : Nat} {T n : Ar4} {m m0 m1 : List (Int × Cl)} {t : Tr Pl} {id : Int} {c : Cl} {B B' : Nat → Prop}

theorem turn_len (m : List (Int × Cl)) (id : Int) (f : Cl → Cl × Int) : (turnD m id f).1.length = m.length := by
  unfold turnD
  cases h : mget id m with
  | none => rfl
  | some c =>
    simp only
    split
    · rw [mset_length, h]; rfl
    · rfl
theorem doD_len (s : Ar4 × List (Int × Cl)) (a : Act) : (doD s a).1.2.length ≤ s.2.length + 1 := by
  unfold doD
  repeat' split
  all_goals simp only [turn_len]
  all_goals try omega
  · unfold putD
    split
    · simp only; omega
    · split
      · simp only; omega
      · simp only [mset_length]; split <;> omega
  · unfold dropD
    split
    · simp only; omega
    · simp only [mdel_length]; split <;> omega

theorem c17 {l1 l2 : List Int} {aa ba : Option Addr} {an ac bn bc : Nat} (w : World) (h1 : SlE w 1 i1E l1 aa an ac) (h2 : SlE w 1 i1E l2 ba bn bc) (hl : l1.length < 1000000) (hl2 : l2.length < 1000000) : Ret Try.prog 17 #[.slice aa an ac, .slice ba bn bc] w (.bool (decide (l1 = l2))) := by
  intro R h
  refine f17_calls _ _ _ _ _ _ w R ?_
  unfold f17_vc
  have e1 := h1.1
  have e2 := h2.1
  refine brN (fun hne => leaf h (At.refl w) ?_) fun he => ?_
  · rw [decide_eq_false (fun e => hne (by rw [e1, e2, e]))]
  refine ⟨fun s W => At w [] W ∧ ∃ i : Nat, s.1 = i ∧ i ≤ an ∧ l1.take i = l2.take i, fun s _ => an - s.1.toNat, ⟨At.refl w, 0, rfl, Nat.zero_le _, rfl⟩, ?_⟩
  rintro x3 w4 ⟨hA, i, hi, hle, htk⟩
  simp only at hi
  subst hi
  refine brD (fun hlt => ?_) fun hge => ?_
  · have hi1 : i < l1.length := by omega
    have hi2 : i < l2.length := by omega
    obtain ⟨ad1, g1, el1, _⟩ := elt_at (P := Try.prog) (k := .i64) (t := 29) (h1.call hA.below) (List.getElem?_eq_getElem hi1) (e := 2) (by kernel_rfl) (by kernel_rfl)
    obtain ⟨ad2, g2, el2, _⟩ := elt_at (P := Try.prog) (k := .i64) (t := 29) (h2.call hA.below) (List.getElem?_eq_getElem hi2) (e := 2) (by kernel_rfl) (by kernel_rfl)
    refine ⟨ad1, g1, _, el1.one (by kernel_rfl) no_ds, ad2, g2, _, el2.one (by kernel_rfl) no_ds, brN (fun hne => go_below0 hA fun w9 hA => leaf h hA ?_) fun he => go_below0 hA fun w10 hA => ?_⟩
    · rw [decide_eq_false]
      rintro rfl
      exact hne rfl
    · have hw : IntKind.i64.wrap ((i : Int) + 1) = ((i + 1 : Nat) : Int) := by rw [wrap_i64 (by omega) (by omega)]; omega
      rw [hw]
      refine ⟨⟨hA, i + 1, rfl, by omega, ?_⟩, by simp only; omega⟩
      rw [List.take_add_one, List.take_add_one, htk, List.getElem?_eq_getElem hi1, List.getElem?_eq_getElem hi2, he]
  · have hie : i = an := by omega
    subst hie
    refine leaf h hA ?_
    rw [decide_eq_true]
    rw [List.take_of_length_le (by omega), List.take_of_length_le (by omega)] at htk
    exact htk

theorem SoX.ap (h : SoX W B g T m) (hs : w.heap.size ≤ W.heap.size) (hB : ∀ b, B b → w.heap.size ≤ b) : SoX W (fun b => w.heap.size ≤ b ∧ b < W.heap.size) g T m := h.mono fun b hl hb => ⟨hB b hb, hl⟩
/-- Own sorters: all their blocks are new. -/
abbrev SoO (w W : World) (g : Nat) (T : Ar4) (m : List (Int × Cl)) : Prop := SoX W (fun b => w.heap.size ≤ b ∧ b < W.heap.size) g T m
theorem SoO.call (h : SoO w W g T m) (hb : Bel W W') : SoO w W' g T m := (SoX.call h hb).mono fun b hl hx => ⟨hx.1, hl⟩
theorem SoO.of (h : SoX W' (fun b => (w.heap.size ≤ b ∧ b < W.heap.size) ∨ W.heap.size ≤ b) g T m) (hs : w.heap.size ≤ W.heap.size) : SoO w W' g T m := h.mono fun b hl hx => ⟨hx.elim (fun e => e.1) fun e => Nat.le_trans hs e, hl⟩
theorem at_tn {f : FuncId} {args : Array Value} {q : List (Int × Cl) × Int} {K : Ending → World → Prop} (hA : At w [] W) (hc : RetF Try.prog f args W (fun b => w.heap.size ≤ b ∧ b < W.heap.size) (TnQ W (fun b => w.heap.size ≤ b ∧ b < W.heap.size) g T q)) 
    (hK : ∀ W', At w [] W' → SoO w W' g T q.1 → K (.returned (.int .i64 q.2)) W') : Calls Try.prog f args W K := by
  refine at_callF hA hc (fun b _ hb => .inl hb.1) (by simp) fun v w5 hA2 _ _ hq => ?_
  have hv := hq.1
  subst hv
  exact hK w5 hA2 (SoO.of hq.2 hA.size)

theorem dom10 (x : Int) (hx : 0 ≤ x ∧ x ≤ 1000) : domT (10, 0, 0, 0) (x, 0, 0, 0) = (x, 10) := by
  unfold domT dom
  rw [if_pos (by unfold sumR; simp only; omega)]
  simp [dstep]
abbrev cA : Cl := ⟨1, (4, 0, 0, 0), true⟩
abbrev cB : Cl := ⟨3, (9, 0, 0, 0), true⟩
theorem ordW : ordL (10, 0, 0, 0) [((1 : Int), cA), (2, cB)] = [⟨9, 10, 3, 2⟩, ⟨4, 10, 1, 1⟩] := by
  have hg : Good (10, 0, 0, 0) [((1 : Int), cA), (2, cB)] := ⟨by simp, by
    intro x hx
    simp at hx
    rcases hx with rfl | rfl
    · exact ⟨by decide, by decide, by decide⟩
    · exact ⟨by decide, by decide, by decide⟩, by decide⟩
  have p1 : plc (10, 0, 0, 0) ((1 : Int), cA) = ⟨4, 10, 1, 1⟩ := by unfold plc; rw [dom10 4 (by omega)]
  have p2 : plc (10, 0, 0, 0) ((2 : Int), cB) = ⟨9, 10, 3, 2⟩ := by unfold plc; rw [dom10 9 (by omega)]
  refine ord_of hg ⟨?_, fun y => ?_⟩
  · unfold Tr.Srt
    refine List.pairwise_cons.2 ⟨fun y hy => ?_, by simp⟩
    rw [List.mem_singleton.1 hy]
    have : sCmp 9 10 3 4 10 1 = -1 := by
      unfold sCmp cmpI
      rw [if_pos ⟨⟨⟨by omega, by omega⟩, by omega, by omega, by omega, by omega⟩, ⟨by omega, by omega⟩, by omega, by omega, by omega, by omega⟩]
      decide
    simp only [cfP, this]
    decide
  · constructor
    · intro hy
      simp at hy
      rcases hy with rfl | rfl
      · exact ⟨(2, cB), by simp, rfl, p2.symm⟩
      · exact ⟨(1, cA), by simp, rfl, p1.symm⟩
    · rintro ⟨x, hx, _, rfl⟩
      simp at hx
      rcases hx with rfl | rfl
      · rw [p1]; simp
      · rw [p2]; simp
theorem c14 (w : World) : Ret Try.prog 14 #[] w (.bool true) := by
  intro R h
  refine f14_calls w R ?_
  unfold f14_vc
  refine at_callq (At.refl w) (c8 w) fun v w2 hA _ _ ⟨g, hv, hX⟩ => ?_
  subst hv
  have hX : SoO w w2 g (0, 0, 0, 0) [] := hX.mono fun b hl hb => ⟨hb, hl⟩
  have hs : sm4 (10, 0, 0, 0) := by decide
  refine ⟨_, rfl, at_callF hA (c19 (10, 0, 0, 0) hX (by decide)) (fun b _ hb => .inl hb.1) (by simp) fun v w5 hA5 _ _ hq => ?_⟩
  rw [if_pos hs] at hq
  obtain ⟨hv, hX⟩ := hq
  subst hv
  have hX : SoO w w5 g (10, 0, 0, 0) [] := SoO.of hX hA.size
  refine ⟨_, rfl, brE (fun _ => ?_) fun e => absurd rfl e⟩
  refine at_tn hA5 (c18 hX (by decide) 1 1) fun w8 hA8 hX => ⟨_, rfl, brE (fun _ => ?_) fun e => absurd (by decide) e⟩
  have hX : SoO w w8 g (10, 0, 0, 0) [((1 : Int), ⟨1, (0, 0, 0, 0), true⟩)] := hX
  refine at_tn hA8 (c18 hX (by simp) 2 3) fun w11 hA11 hX => ⟨_, rfl, brE (fun _ => ?_) fun e => absurd (by decide) e⟩
  have hX : SoO w w11 g (10, 0, 0, 0) [((1 : Int), ⟨1, (0, 0, 0, 0), true⟩), (2, ⟨3, (0, 0, 0, 0), true⟩)] := hX
  refine at_tn hA11 (c15 hX (by simp) 1 (4, 0, 0, 0)) fun w14 hA14 hX => ⟨_, rfl, brE (fun _ => ?_) fun e => absurd (by decide) e⟩
  have hX : SoO w w14 g (10, 0, 0, 0) [((1 : Int), cA), (2, ⟨3, (0, 0, 0, 0), true⟩)] := hX
  refine at_tn hA14 (c15 hX (by simp) 2 (9, 0, 0, 0)) fun w17 hA17 hX => ⟨_, rfl, ?_⟩
  have hX : SoO w w17 g (10, 0, 0, 0) [((1 : Int), cA), (2, cB)] := hX
  have hc10 := c10 hX (by simp)
  rw [ordW] at hc10
  refine at_calll hA17 hc10 (fun _ _ => rfl) fun a21 c23 w20 hA20 _ hb20 _ hsl => ⟨_, _, _, rfl, ?_⟩
  have hX := SoO.call hX hb20
  have hc11 := c11 hX 2
  rw [show mget 2 [((1 : Int), cA), (2, cB)] = some cB from rfl, shaV, dom10 9 (by omega)] at hc11
  refine at_callb hA20 hc11 fun w25 hA25 _ hb25 => ⟨_, _, _, _, rfl, fun n30 h30 => brE (fun _ => brE (fun _ => ?_) fun e => absurd (by rfl) e) fun e => absurd (by decide) e⟩
  have hX := SoO.call hX hb25
  obtain ⟨ad, g1, el, _⟩ := elt_at (P := Try.prog) (k := .i64) (t := 29) (hsl.call hb25) (show (List.map Pl.d [⟨9, 10, 3, 2⟩, ⟨4, 10, 1, 1⟩])[0]? = some (2 : Int) from rfl) (e := 2) (by kernel_rfl) (by kernel_rfl)
  refine ⟨ad, g1, _, el.one (by kernel_rfl) (el.far (by simpa using h30)), brE (fun _ => brB (fun _ => ⟨fun _ w33 he hu => ?_, fun e => by simp at e⟩) fun e => by cases e) fun e => absurd rfl e⟩
  have hb := he.bel (by simpa using h30)
  have hA33 : At w [n30] w33 := ⟨(hA25.call hb).chg, hu⟩
  have hX : SoX w33 (fun b => w.heap.size ≤ b ∧ b < w25.heap.size) g _ _ := SoX.call hX hb
  refine at_callF hA33 (c18 hX (by simp) 1 1) (fun b _ hb => .inl hb.1) (fun y hy hb => by rw [List.mem_singleton.1 hy] at hb; omega) fun v w35 hA35 hk _ hq => ?_
  have hv := hq.1
  subst hv
  exact ⟨_, rfl, hk, leaf h hA35 rfl⟩
end Go.Vc.S

/- The arguments of sorters' laws, read: acts, sums. -/
set_option maxRecDepth 20000
namespace Go.Vc.S
open Go Go.Vc Go.RowKit
abbrev iG : GT := .int .i64
abbrev a4G : GT := .st (.pair iG (.pair iG (.pair iG (.pair iG .unit))))
abbrev asG : GT := .st (.pair iG (.pair iG (.pair iG (.pair a4G .unit))))
theorem row_M {α β : Type} {w : World} {n : Nat} {R : α → List Value → Prop} {R' : β → List Value → Prop} {k : α → β} {l : List α} {a : Option Addr} {len c : Nat} (hs : SlR w n R l a len c) (hR : ∀ x cs, R x cs → R' (k x) cs) : SlR w n R' (l.map k) a len c := by
  refine ⟨by rw [List.length_map]; exact hs.1, hs.2.1, hs.2.2.1, hs.2.2.2.1, fun i y hy => ?_⟩
  rw [List.getElem?_map] at hy
  cases hx : l[i]? with
  | none => rw [hx] at hy; cases hy
  | some x =>
    rw [hx] at hy
    simp only [Option.map_some, Option.some.injEq] at hy
    subst hy
    obtain ⟨ad, cs, ha, hl, hcs, hr⟩ := hs.at_ hx
    exact ⟨ad, cs, ha, hl, hcs, hR _ _ hr⟩
abbrev A4A := Int × Int × Int × Int × Unit
def a4Of (x : A4A) : Ar4 := (x.1, x.2.1, x.2.2.1, x.2.2.2.1)
def acOf (x : Int × Int × Int × A4A × Unit) : Act := (x.1, x.2.1, x.2.2.1, a4Of x.2.2.2.1)
theorem as_R {w : World} {x : asG.T} {cs : List Value} (h : asG.R w x cs) : cs = [Value.int .i64 (acOf x).1, .int .i64 (acOf x).2.1, .int .i64 (acOf x).2.2.1, .int .i64 (acOf x).2.2.2.1, .int .i64 (acOf x).2.2.2.2.1, .int .i64 (acOf x).2.2.2.2.2.1, .int .i64 (acOf x).2.2.2.2.2.2] := by
  obtain ⟨c1, c2, rfl, ⟨rfl, _, _⟩, c3, c4, rfl, ⟨rfl, _, _⟩, c5, c6, rfl, ⟨rfl, _, _⟩, c7, c8, rfl, hm, rfl⟩ := h
  obtain ⟨d1, d2, rfl, ⟨rfl, _, _⟩, d3, d4, rfl, ⟨rfl, _, _⟩, d5, d6, rfl, ⟨rfl, _, _⟩, d7, d8, rfl, ⟨rfl, _, _⟩, rfl⟩ := hm
  rfl
theorem acts_V {w : World} {l : (GT.sl asG).T} {v : Value} (h : GT.V w (.sl asG) l v) : ∃ L a n c, v = .slice a n c ∧ SlE w 7 (fun a : Act => [.int .i64 a.1, .int .i64 a.2.1, .int .i64 a.2.2.1, .int .i64 a.2.2.2.1, .int .i64 a.2.2.2.2.1, .int .i64 a.2.2.2.2.2.1, .int .i64 a.2.2.2.2.2.2]) L a n c := by
  obtain ⟨a, n, c, hv, hs⟩ := h
  simp at hv
  exact ⟨_, a, n, c, hv, row_M (k := acOf) hs fun _ _ h => as_R h⟩
theorem a4_V {w : World} {x : a4G.T} {v : Value} (h : GT.V w a4G x v) : v = arT (a4Of x) := by
  obtain ⟨cs, rfl, d1, d2, rfl, ⟨rfl, _, _⟩, d3, d4, rfl, ⟨rfl, _, _⟩, d5, d6, rfl, ⟨rfl, _, _⟩, d7, d8, rfl, ⟨rfl, _, _⟩, rfl⟩ := h
  rfl
end Go.Vc.S

/- The formulas of functions, printed by a program (VcTool.lean): each is what the generator's formula comes to, by the kernel's reckoning; whoever proves one has the function's contract. -/
set_option maxRecDepth 100000
set_option maxHeartbeats 1000000
set_option linter.unusedVariables false
namespace Vcs
open Go Go.Vc Go.RowKit
/-! manciple/manciplelaw09.SorterStands -/
def h3 : Hints := ⟨[7, 9], [24, 40, 49, 75, 79], [13, 18, 32, 83, 56, 60, 66, 71, 89], [(14, [0, 1, 2, 3, 4, 5, 6, 7, 8, 9, 10, 11, 12, 13, 14, 15, 16, 17, 18, 19, 20, 21, 22, 23, 24, 25, 26, 27, 28, 29])], [], [(5, ⟨[(4, .int .i64)], []⟩), (10, ⟨[(6, .int .i64)], []⟩)], [], [], []⟩
def f3_vc (la : Option Addr) (ln : Nat) (lc : Nat) (w : World) (R : Ending → World → Prop) : Prop :=
 (decide ((↑ln : Int) > 200) = true → R (Ending.returned (Value.bool true)) w) ∧
 (decide ((↑ln : Int) > 200) = false →
 Calls Proofs.Try.prog 8 #[] w fun (e1 : Ending) (w2 : World) =>
 ∃ (a3 : Option Addr),
 e1 = Ending.returned (Value.pointer a3) ∧
 ∃ (J4 : Int × Unit → World → Prop),
 ∃ (J5 : Int × Unit → World → Nat),
 J4 (0, ()) w2 ∧
 ∀ (x6 : Int) (w7 : World),
 J4 (x6, ()) w7 →
 (decide (x6 < (↑ln : Int)) = true →
 ∃ (ad8 : Addr),
 Gives Proofs.Try.prog (Instr.indexAt 22 (Value.slice la ln lc) (Value.int IntKind.i64 x6)) (Value.pointer (some ad8)) ∧
 ∃ (x9 : Int),
 ∃ (x10 : Int),
 ∃ (x11 : Int),
 ∃ (x12 : Int),
 ∃ (x13 : Int),
 ∃ (x14 : Int),
 ∃ (x15 : Int),
 Reads Proofs.Try.prog [] (Instr.loadAt 28 (Value.pointer (some ad8))) w7
 (Value.agg
 #[Value.int IntKind.i64 x9, Value.int IntKind.i64 x10, Value.int IntKind.i64 x11, Value.int IntKind.i64 x12, Value.int IntKind.i64 x13, Value.int IntKind.i64 x14, Value.int IntKind.i64 x15]) ∧
 Calls Proofs.Try.prog 9
 #[Value.pointer a3,
 Value.agg
 #[Value.int IntKind.i64 x9, Value.int IntKind.i64 x10, Value.int IntKind.i64 x11, Value.int IntKind.i64 x12, Value.int IntKind.i64 x13, Value.int IntKind.i64 x14, Value.int IntKind.i64 x15]]
 w7 fun (e16 : Ending) (w17 : World) =>
 ∃ (x18 : Int), e16 = Ending.returned (Value.int IntKind.i64 x18) ∧ J4 (IntKind.i64.wrap (x6 + 1), ()) w17 ∧ J5 (IntKind.i64.wrap (x6 + 1), ()) w17 < J5 (x6, ()) w7) ∧
 (decide (x6 < (↑ln : Int)) = false →
 Calls Proofs.Try.prog 10 #[Value.pointer a3] w7 fun (e19 : Ending) (w20 : World) =>
 ∃ (a21 : Option Addr),
 ∃ (n22 : Nat),
 ∃ (n23 : Nat),
 e19 = Ending.returned (Value.slice a21 n22 n23) ∧
 ∃ (J24 : Int × Unit → World → Prop),
 ∃ (J25 : Int × Unit → World → Nat),
 J24 (1, ()) w20 ∧
 ∀ (x26 : Int) (w27 : World),
 J24 (x26, ()) w27 →
 (decide (x26 < (↑n22 : Int)) = true →
 ∃ (ad28 : Addr),
 Gives Proofs.Try.prog (Instr.indexAt 29 (Value.slice a21 n22 n23) (Value.int IntKind.i64 (IntKind.i64.wrap (x26 - 1)))) (Value.pointer (some ad28)) ∧
 ∃ (x29 : Int),
 Reads Proofs.Try.prog [] (Instr.loadAt 2 (Value.pointer (some ad28))) w27 (Value.int IntKind.i64 x29) ∧
 Calls Proofs.Try.prog 11 #[Value.pointer a3, Value.int IntKind.i64 x29] w27 fun (e30 : Ending) (w31 : World) =>
 ∃ (x32 : Int),
 ∃ (x33 : Int),
 ∃ (x34 : Int),
 ∃ (b35 : Bool),
 e30 = Ending.returned (Value.tuple #[Value.agg #[Value.int IntKind.i64 x32, Value.int IntKind.i64 x33, Value.int IntKind.i64 x34], Value.bool b35]) ∧
 ∀ (n36 : Nat),
 w31.heap.size ≤ n36 →
 ∃ (ad37 : Addr),
 Gives Proofs.Try.prog (Instr.indexAt 29 (Value.slice a21 n22 n23) (Value.int IntKind.i64 x26)) (Value.pointer (some ad37)) ∧
 ∃ (x38 : Int),
 Reads Proofs.Try.prog [n36] (Instr.loadAt 2 (Value.pointer (some ad37))) w31 (Value.int IntKind.i64 x38) ∧
 ∀ (w39 : World),
 Evo [n36] w31 w39 →
 Under [n36] w39 →
 Calls Proofs.Try.prog 11 #[Value.pointer a3, Value.int IntKind.i64 x38] w39 fun (e40 : Ending) (w41 : World) =>
 ∃ (x42 : Int),
 ∃ (x43 : Int),
 ∃ (x44 : Int),
 ∃ (b45 : Bool),
 e40 =
 Ending.returned
 (Value.tuple #[Value.agg #[Value.int IntKind.i64 x42, Value.int IntKind.i64 x43, Value.int IntKind.i64 x44], Value.bool b45]) ∧
 Keeps [n36] w39 w41 ∧
 ∀ (n46 : Nat),
 w41.heap.size ≤ n46 →
 ((!b35) = true → ∀ (w47 : World), Evo [n46] w41 w47 → Under [n36, n46] w47 → R (Ending.returned (Value.bool false)) w47) ∧
 ((!b35) = false →
 ((!b45) = true → ∀ (w48 : World), Evo [n46] w41 w48 → Under [n36, n46] w48 → R (Ending.returned (Value.bool false)) w48) ∧
 ((!b45) = false →
 ∀ (w49 : World),
 Evo [n46] w41 w49 →
 Under [n36, n46] w49 →
 Calls Proofs.Try.prog 12
 #[Value.agg #[Value.int IntKind.i64 x32, Value.int IntKind.i64 x33, Value.int IntKind.i64 x34],
 Value.agg #[Value.int IntKind.i64 x42, Value.int IntKind.i64 x43, Value.int IntKind.i64 x44]]
 w49 fun (e50 : Ending) (w51 : World) =>
 ∃ (x52 : Int),
 e50 = Ending.returned (Value.int IntKind.i64 x52) ∧
 Keeps [n36, n46] w49 w51 ∧
 (decide (x52 > 0) = true → R (Ending.returned (Value.bool false)) w51) ∧
 (decide (x52 > 0) = false →
 Calls Proofs.Try.prog 12
 #[Value.agg #[Value.int IntKind.i64 x32, Value.int IntKind.i64 x33, Value.int IntKind.i64 x34],
 Value.agg #[Value.int IntKind.i64 x42, Value.int IntKind.i64 x43, Value.int IntKind.i64 x44]]
 w51 fun (e53 : Ending) (w54 : World) =>
 ∃ (x55 : Int),
 e53 = Ending.returned (Value.int IntKind.i64 x55) ∧
 Keeps [n36, n46] w51 w54 ∧
 ((x55 == 0) = true →
 ∃ (ad56 : Addr),
 Gives Proofs.Try.prog
 (Instr.indexAt 29 (Value.slice a21 n22 n23)
 (Value.int IntKind.i64 (IntKind.i64.wrap (x26 - 1))))
 (Value.pointer (some ad56)) ∧
 ∃ (x57 : Int),
 Reads Proofs.Try.prog [] (Instr.loadAt 2 (Value.pointer (some ad56))) w54
 (Value.int IntKind.i64 x57) ∧
 ∃ (ad58 : Addr),
 Gives Proofs.Try.prog
 (Instr.indexAt 29 (Value.slice a21 n22 n23) (Value.int IntKind.i64 x26))
 (Value.pointer (some ad58)) ∧
 ∃ (x59 : Int),
 Reads Proofs.Try.prog [] (Instr.loadAt 2 (Value.pointer (some ad58))) w54
 (Value.int IntKind.i64 x59) ∧
 (decide (x57 ≥ x59) = true → R (Ending.returned (Value.bool false)) w54) ∧
 (decide (x57 ≥ x59) = false →
 J24 (IntKind.i64.wrap (x26 + 1), ()) w54 ∧
 J25 (IntKind.i64.wrap (x26 + 1), ()) w54 < J25 (x26, ()) w27)) ∧
 ((x55 == 0) = false →
 J24 (IntKind.i64.wrap (x26 + 1), ()) w54 ∧
 J25 (IntKind.i64.wrap (x26 + 1), ()) w54 < J25 (x26, ()) w27))))) ∧
 (decide (x26 < (↑n22 : Int)) = false →
 Calls Proofs.Try.prog 13 #[Value.pointer a3] w27 fun (e60 : Ending) (w61 : World) =>
 ∃ (x62 : Int),
 e60 = Ending.returned (Value.int IntKind.i64 x62) ∧
 (decide ((↑n22 : Int) ≤ x62) = true →
 Calls Proofs.Try.prog 14 #[] w61 fun (e63 : Ending) (w64 : World) => ∃ (b65 : Bool), e63 = Ending.returned (Value.bool b65) ∧ R (Ending.returned (Value.bool b65)) w64) ∧
 (decide ((↑n22 : Int) ≤ x62) = false → R (Ending.returned (Value.bool false)) w61))))
theorem f3_eq (la : Option Addr) (ln : Nat) (lc : Nat) (w : World) (R : Ending → World → Prop) : (fnF Go.Proofs.Try.prog h3 Go.Proofs.Try.f3 [Value.slice la ln lc] w R).den = f3_vc la ln lc w R := by kernel_rfl
theorem f3_calls (la : Option Addr) (ln : Nat) (lc : Nat) (w : World) (R : Ending → World → Prop) (h : f3_vc la ln lc w R) : Calls Go.Proofs.Try.prog 3 (List.toArray [Value.slice la ln lc]) w R :=
 fn_sound (H := h3) (fn := Go.Proofs.Try.f3) (by kernel_rfl) (by kernel_rfl) (by kernel_rfl) ((f3_eq la ln lc w R).mpr h)

end Vcs

/- Law 3: they stand by their shares. -/
set_option maxRecDepth 20000
set_option maxHeartbeats 1000000
namespace Go.Vc.S
open Go Go.Vc Go.RowKit Go.Proofs Go.Vc.T Vcs

variable {w W W' W1 : World} {g : Nat} {T n : Ar4} {m : List (Int × Cl)} {B B' : Nat → Prop}

abbrev acE (a : Act) : List Value := [.int .i64 a.1, .int .i64 a.2.1, .int .i64 a.2.2.1, .int .i64 a.2.2.2.1, .int .i64 a.2.2.2.2.1, .int .i64 a.2.2.2.2.2.1, .int .i64 a.2.2.2.2.2.2]
/-- One act of an own sorter. -/
theorem at_do {K : Ending → World → Prop} (hA : At w [] W) (h : SoO w W g T m) (hl : m.length < 100000) (a : Act) (hK : ∀ W', At w [] W' → SoO w W' g (doD (T, m) a).1.1 (doD (T, m) a).1.2 → K (.returned (.int .i64 (doD (T, m) a).2)) W') : Calls Try.prog 9 #[.pointer (pt g), acV a] W K := by
  refine at_callF hA (c9 h hl a) (fun b _ hb => .inl hb.1) (by simp) fun v w5 hA2 _ _ hq => ?_
  obtain ⟨hv, hX⟩ := hq
  subst hv
  exact hK w5 hA2 (SoO.of hX hA.size)
/-- Who stands in the order, told. -/
theorem ord_share (hg : Good T m) {y : Pl} (h : IsOrd T m (ordL T m)) (hy : y ∈ ordL T m) : ∃ c, mget y.d m = some c ∧ shaV T (mget y.d m) = .tuple #[shV y.a y.b y.c, .bool true] := by
  obtain ⟨x, hx, _, rfl⟩ := (h.2 y).1 hy
  have := mget_of_mem hg.nd (show (x.1, x.2) ∈ m from hx)
  exact ⟨x.2, this, by rw [show (plc T x).d = x.1 from rfl, this]; rfl⟩

theorem law3 {L : List Act} {la : Option Addr} {ln lc : Nat} (w : World) (hL : SlE w 7 acE L la ln lc) : Ret Try.prog 3 #[.slice la ln lc] w (.bool true) := by
  intro R h
  refine f3_calls _ _ _ w R ?_
  unfold f3_vc
  refine brD (fun _ => leaf h (At.refl w) rfl) fun hle => ?_
  refine at_callq (At.refl w) (c8 w) fun v w2 hA _ _ ⟨g, hv, hX⟩ => ?_
  subst hv
  have hX : SoO w w2 g (0, 0, 0, 0) [] := hX.mono fun b hl hb => ⟨hb, hl⟩
  have hln := hL.1
  refine ⟨_, rfl, fun s W' => At w [] W' ∧ ∃ (i : Nat) (T : Ar4) (m : List (Int × Cl)), s.1 = i ∧ i ≤ ln ∧ m.length ≤ i ∧ SoO w W' g T m, fun s _ => ln - s.1.toNat, ⟨hA, 0, _, _, rfl, Nat.zero_le _, Nat.le_refl _, hX⟩, ?_⟩
  rintro x6 w7 ⟨hA, i, T, m, hi, hil, hml, hX⟩
  simp only at hi
  subst hi
  refine brD (fun hlt => ?_) fun hge => ?_
  · have hiL : i < L.length := by omega
    obtain ⟨ad, g1, el, _⟩ := elt_at (P := Try.prog) (k := .i64) (t := 22) (hL.call hA.below) (List.getElem?_eq_getElem hiL) (e := 28) (by kernel_rfl) (by kernel_rfl)
    refine ⟨ad, g1, _, _, _, _, _, _, _, el.agg 7 (by kernel_rfl) (by kernel_rfl) (by simp) no_ds, ?_⟩
    refine at_do hA hX (by omega) L[i] fun w17 hA hX2 => ⟨_, rfl, ?_⟩
    have hw : IntKind.i64.wrap ((i : Int) + 1) = ((i + 1 : Nat) : Int) := by rw [wrap_i64 (by omega) (by omega)]; omega
    rw [hw]
    have := doD_len (T, m) L[i]
    exact ⟨⟨hA, i + 1, _, _, rfl, by omega, by simp only at this; omega, hX2⟩, by simp only; omega⟩
  · have hml2 : m.length < 100000 := by omega
    have hord := hX.is
    refine at_calll hA (c10 hX hml2) (fun _ _ => rfl) fun a21 c23 w20 hA hk20 hb20 _ hsl => ⟨_, _, _, rfl, ?_⟩
    have hX := SoO.call hX hb20
    have hol : ((ordL T m).map Pl.d).length = (ordL T m).length := List.length_map _
    refine ⟨fun s W' => At w [] W' ∧ ∃ j : Nat, s.1 = j ∧ 1 ≤ j ∧ SoO w W' g T m ∧ SlE W' 1 i1E ((ordL T m).map Pl.d) a21 ((ordL T m).map Pl.d).length c23, fun s _ => (ordL T m).length + 1 - s.1.toNat, ⟨hA, 1, rfl, Nat.le_refl _, hX, hsl⟩, ?_⟩
    rintro x26 w27 ⟨hA, j, hj, hj1, hX, hsl⟩
    simp only at hj
    subst hj
    refine brD (fun hlt => ?_) fun hge => ?_
    · have hjl : j < (ordL T m).length := by omega
      obtain ⟨k, rfl⟩ : ∃ k, j = k + 1 := ⟨j - 1, by omega⟩
      have hkl : k < (ordL T m).length := by omega
      have hw1 : IntKind.i64.wrap (((k + 1 : Nat) : Int) - 1) = (k : Int) := by rw [wrap_i64 (by omega) (by omega)]; omega
      have hw : IntKind.i64.wrap (((k + 1 : Nat) : Int) + 1) = ((k + 1 + 1 : Nat) : Int) := by rw [wrap_i64 (by omega) (by omega)]; omega
      rw [hw1, hw]
      have ga : ((ordL T m).map Pl.d)[k]? = some (ordL T m)[k].d := by rw [List.getElem?_map, List.getElem?_eq_getElem hkl]; rfl
      have gb : ((ordL T m).map Pl.d)[k + 1]? = some (ordL T m)[k + 1].d := by rw [List.getElem?_map, List.getElem?_eq_getElem hjl]; rfl
      obtain ⟨ca, ma, sa⟩ := ord_share hX.good hord.1 (List.getElem_mem hkl)
      obtain ⟨cb, mb, sb⟩ := ord_share hX.good hord.1 (List.getElem_mem hjl)
      have hlt2 : cfP (ordL T m)[k] (ordL T m)[k + 1] < 0 := List.pairwise_iff_getElem.1 hord.1.1 k (k + 1) hkl hjl (by omega)
      generalize (ordL T m)[k] = ya at *
      generalize (ordL T m)[k + 1] = yb at *
      obtain ⟨ad, g1, el, _⟩ := elt_at (P := Try.prog) (k := .i64) (t := 29) hsl ga (e := 2) (by kernel_rfl) (by kernel_rfl)
      refine ⟨ad, g1, _, el.one (by kernel_rfl) no_ds, ?_⟩
      have s11 := c11 hX ya.d
      rw [sa] at s11
      refine at_callb hA s11 fun w31 hA _ hb31 => ⟨_, _, _, _, rfl, fun n36 h36 => ?_⟩
      have hX := SoO.call hX hb31
      have hsl := hsl.call hb31
      obtain ⟨ad2, g2, el2, _⟩ := elt_at (P := Try.prog) (k := .i64) (t := 29) hsl gb (e := 2) (by kernel_rfl) (by kernel_rfl)
      refine ⟨ad2, g2, _, el2.one (by kernel_rfl) (el2.far (by simpa using h36)), fun w39 he hu => ?_⟩
      have hb := he.bel (by simpa using h36)
      have hA : At w [n36] w39 := ⟨(hA.call hb).chg, hu⟩
      have hX := SoO.call hX hb
      have hsl := hsl.call hb
      have s11 := c11 hX yb.d
      rw [sb] at s11
      refine at_callb hA s11 fun w41 hA hk hb41 => ⟨_, _, _, _, rfl, hk, fun n46 h46 => brB (fun e => by cases e) fun _ => brB (fun e => by cases e) fun _ w49 he hu => ?_⟩
      have hX := SoO.call hX hb41
      have hsl := hsl.call hb41
      have hb := he.bel (by simpa using h46)
      have hA : At w [n36, n46] w49 := ⟨(hA.call hb).chg, hu⟩
      have hX := SoO.call hX hb
      have hsl := hsl.call hb
      have hr := sCmp_range ya.a ya.b ya.c yb.a yb.b yb.c
      refine at_callb hA (c12 _ _ _ _ _ _ _) fun w51 hA hk hb51 => ⟨_, rfl, hk, brD (fun hgt => ?_) fun hngt => ?_⟩
      · exfalso
        unfold cfP at hlt2
        rw [if_pos (by omega)] at hlt2
        omega
      have hX := SoO.call hX hb51
      have hsl := hsl.call hb51
      refine at_callb hA (c12 _ _ _ _ _ _ _) fun w54 hA hk hb54 => ⟨_, rfl, hk, brE (fun hz => ?_) fun hnz => ?_⟩
      · have hX := SoO.call hX hb54
        have hsl := hsl.call hb54
        obtain ⟨ad, g1, el, _⟩ := elt_at (P := Try.prog) (k := .i64) (t := 29) hsl ga (e := 2) (by kernel_rfl) (by kernel_rfl)
        obtain ⟨ad2, g2, el2, _⟩ := elt_at (P := Try.prog) (k := .i64) (t := 29) hsl gb (e := 2) (by kernel_rfl) (by kernel_rfl)
        refine ⟨ad, g1, _, el.one (by kernel_rfl) no_ds, ad2, g2, _, el2.one (by kernel_rfl) no_ds, brD (fun hge => ?_) fun hlt3 => ?_⟩
        · exfalso
          unfold cfP at hlt2
          rw [if_neg (fun e => e hz), cmpI_neg] at hlt2
          omega
        · exact ⟨⟨hA.off, k + 1 + 1, rfl, by omega, hX, hsl⟩, by simp only; omega⟩
      · exact ⟨⟨hA.off, k + 1 + 1, rfl, by omega, SoO.call hX hb54, hsl.call hb54⟩, by simp only; omega⟩
    · refine at_callb hA (c13 hX) fun w61 hA _ _ => ⟨_, rfl, brD (fun _ => ?_) fun hn => ?_⟩
      · exact at_callb hA (c14 _) fun w64 hA _ _ => ⟨_, rfl, leaf h hA rfl⟩
      · have := hord.2
        omega
end Go.Vc.S

