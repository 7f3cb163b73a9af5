/- Own text of this claim: Td6. -/
import Derived.Test.YtfipbnoidoljoaaTd5
import Derived.Test.YtfipbnoidoljoaaTrP
import Derived.Test.YtfipbnoidoljoaaFd2
set_option maxRecDepth 20000
namespace Go.Vc.T
open Go Go.Vc Go.RowKit Go.Proofs Vcd1

variable {w W W' W1 : World} {M : Nat → Prop} {gs : List Nat} {b g : Nat} {k : Int} {p p' pl pr : Option Addr} {t l l' r r' : Tr Int} {bs bs' bl br cb : List Nat} {fv : Value} {cf : Int → Int → Int} {In : Int → Prop}

/-- A function's value. -/
abbrev fnV (f : FuncId) (cap : Array Value) : Value := .func (.func f) #[] cap
/-- A tree that a law has made: all its blocks are new since the first world. -/
structure TS (w W : World) (g : Nat) (f : FuncId) (cap : Array Value) (cf : Int → Int → Int) (In : Int → Prop) (cb : List Nat) (t : Tr Int) : Prop where
  ex : ∃ root bs, W.heap[g]? = some (.cells ([fnV f cap, .pointer root] : List Value).toArray 45 (0, 0)) ∧ w.heap.size ≤ g ∧ Rep W t root bs ∧ (∀ q ∈ bs, w.heap.size ≤ q) ∧ Ctx W g (fnV f cap) cf In cb bs ∧ g ∉ cb
  all : ∀ y ∈ t.toL, In y
  size : t.size ≤ 1000
variable {f : FuncId} {cap : Array Value}

theorem c60 {root : Option Addr} (hb : W.heap[g]? = some (.cells ([fnV f cap, .pointer root] : List Value).toArray 45 (0, 0))) : Ret Try.prog 60 #[.pointer (pt g)] W (.bool true) := by
  intro R h
  refine f60_calls _ W R ?_
  unfold f60_vc
  exact ⟨true, (fun W => rfl), brB (fun _ => ⟨_, rfl, _, rd_f0 hb (by kernel_rfl) nod, true, (fun W => rfl), leaf h (At.refl W) rfl⟩) (fun e => by cases e)⟩

theorem at_new {K : Ending → World → Prop} (hA : At w [] W) (hoc : OrdC W (fnV f cap) cf In cb)
    (hK : ∀ g W', At w [] W' → Bel W W' → TS w W' g f cap cf In cb .nil → K (.returned (.pointer (pt g))) W') : Calls Try.prog 10 #[fnV f cap] W K := by
  refine f10_calls _ _ _ W K ?_
  unfold f10_vc
  have hsz := hA.size
  refine ⟨false, (fun W => rfl), (fun e => by cases e), fun _ => ?_⟩
  refine opw_boxS hA fun g w3 hg hA _ hb hblk => ⟨_, rfl, ?_⟩
  refine hK g w3 hA hb ⟨⟨none, [], hblk, by omega, ⟨rfl, rfl⟩, by simp, ⟨⟨_, hblk⟩, by simp, ⟨fun W2 h2 => hoc.ask W2 fun q hq => (h2 q hq).trans (hb.block (hoc.lt q hq)), fun q hq => Nat.lt_of_lt_of_le (hoc.lt q hq) hb.size⟩, by simp⟩, fun hm => by have := hoc.lt g hm; omega⟩, by simp [Tr.toL], by simp [Tr.size]⟩

theorem TS.call (h : TS w W g f cap cf In cb t) (hb : Bel W W') : TS w W' g f cap cf In cb t := by
  obtain ⟨root, bs, h1, h2, h3, h4, h5, h6⟩ := h.ex
  exact ⟨⟨root, bs, by rw [hb.block h5.glt]; exact h1, h2, h3.call hb, h4, h5.call hb, h6⟩, h.all, h.size⟩

theorem Rep.ty : ∀ {t : Tr Int} {p : Option Addr} {bs : List Nat}, Rep W t p bs → ∀ q ∈ bs, ∃ cur, W.heap[q]? = some (.cells cur 116 (0, 0))
  | .nil, _, _, ⟨_, hb⟩, q, hq => by subst hb; cases hq
  | .node l k r, _, _, ⟨b, pl, pr, bl, br, hp, hr, h1, h2, hb, hn⟩, q, hq => by
    subst hb
    rcases List.mem_cons.1 hq with e | hq
    · subst e; exact ⟨_, hr⟩
    · rcases List.mem_append.1 hq with hq | hq
      · exact Rep.ty h1 q hq
      · exact Rep.ty h2 q hq
/-- All rows of numbers are as they were. -/
def Keep3 (W W' : World) : Prop := ∀ (q : Nat) (cur : Array Value), W.heap[q]? = some (Obj.cells cur 3 (0, 0)) → W'.heap[q]? = W.heap[q]?
theorem Keep3.of_bel (hb : Bel W W') : Keep3 W W' := fun _ _ h => hb.block (Array.getElem?_eq_some_iff.1 h).1
theorem Keep3.trans {W2 : World} (h : Keep3 W W') (k : Keep3 W' W2) : Keep3 W W2 := fun q cur hq => (k q cur ((h q cur hq).trans hq)).trans (h q cur hq)
theorem Keep3.of_chg {N : Nat → Prop} (hc : Chg N W W') (hn : ∀ q, N q → ∃ (cur : Array Value) (e : TypeId), W.heap[q]? = some (Obj.cells cur e (0, 0)) ∧ e ≠ 3) : Keep3 W W' := fun q cur hq => hc.block q (Array.getElem?_eq_some_iff.1 hq).1 fun hN => by
  obtain ⟨c2, e, h2, hne⟩ := hn q hN
  exact cells_ne h2 hq hne rfl
theorem opw_root {root root' : Option Addr} {K : Value → World → Prop} (hA : At w [] W) (hb : W.heap[g]? = some (.cells ([fnV f cap, .pointer root] : List Value).toArray 45 (0, 0))) (hg : w.heap.size ≤ g) (hr : Rep W t root' bs) (hbs : ∀ q ∈ bs, w.heap.size ≤ q) (hC : Ctx W g (fnV f cap) cf In cb bs) (hgc : g ∉ cb) (hin : ∀ y ∈ t.toL, In y) (hsz : t.size ≤ 1000)
    (hK : ∀ W', At w [] W' → Keep3 W W' → TS w W' g f cap cf In cb t → K undef W') : OpW Try.prog (skipS (Instr.storeAt 43 (.pointer (some (Addr.mk g (0 + 1) none))) (.pointer root'))) W K := by
  refine opw_storeF hA hb (.inl hg) (by simp) (cells' := [fnV f cap, .pointer root']) (by kernel_rfl) fun W' hA' _ hc hb' => hK W' hA' (Keep3.of_chg hc fun q e => (by have e : q = g := e; subst e; exact ⟨_, 45, hb, by decide⟩)) ⟨⟨root', bs, hb', hg, hr.chg hc (fun q hq e => hC.gn (e ▸ hq)), hbs, ⟨⟨_, hb'⟩, hC.gn, ⟨fun W2 h2 => hC.oc.ask W2 fun q hq => (h2 q hq).trans (hc.block q (hC.oc.lt q hq) (fun e => hgc (e ▸ hq))), fun q hq => Nat.lt_of_lt_of_le (hC.oc.lt q hq) hc.size⟩, hC.cn⟩, hgc⟩, hin, hsz⟩

theorem put_all (x : Int) (hx : In x) : ∀ t : Tr Int, (∀ y ∈ t.toL, In y) → ∀ y ∈ (Tr.put cf x t).1.toL, In y
  | .nil, _, y, hy => by simp [Tr.put, Tr.toL] at hy; rw [hy]; exact hx
  | .node l k r, h, y, hy => by
    have hl := put_all x hx l fun y hy => h y (by simp [Tr.toL, hy])
    have hr := put_all x hx r fun y hy => h y (by simp [Tr.toL, hy])
    rw [Tr.put] at hy
    simp only [Tr.toL, List.mem_append, List.mem_cons] at h
    split at hy
    · rw [Tr.toL_even, List.mem_append, List.mem_cons] at hy
      rcases hy with m | e | m
      · exact hl y m
      · exact h y (.inr (.inl e))
      · exact h y (.inr (.inr m))
    · split at hy
      · rw [Tr.toL_even, List.mem_append, List.mem_cons] at hy
        rcases hy with m | e | m
        · exact h y (.inl m)
        · exact h y (.inr (.inl e))
        · exact hr y m
      · rw [Tr.toL_even, List.mem_append, List.mem_cons] at hy
        exact h y hy
theorem dropTop_mem (l r : Tr Int) : ∀ y ∈ (Tr.dropTop l r).1.toL, y ∈ l.toL ∨ y ∈ r.toL := by
  intro y hy
  cases l with
  | nil => exact .inr hy
  | node u v w => cases r with
    | nil => exact .inl hy
    | node a b c =>
      have hl := Tr.toL_least a b c
      simp only [Tr.dropTop, Tr.toL_even, List.mem_append] at hy
      rcases hy with m | m
      · exact .inl m
      · exact .inr (by simp only [Tr.toL]; rw [← hl]; exact m)
theorem drop_all (x : Int) : ∀ t : Tr Int, (∀ y ∈ t.toL, In y) → ∀ y ∈ (Tr.drop cf x t).1.toL, In y
  | .nil, _, y, hy => by simp [Tr.drop, Tr.toL] at hy
  | .node l k r, h, y, hy => by
    have hl := drop_all x l fun y hy => h y (by simp [Tr.toL, hy])
    have hr := drop_all x r fun y hy => h y (by simp [Tr.toL, hy])
    rw [Tr.drop] at hy
    simp only [Tr.toL, List.mem_append, List.mem_cons] at h
    split at hy
    · rw [Tr.toL_even, List.mem_append, List.mem_cons] at hy
      rcases hy with m | e | m
      · exact hl y m
      · exact h y (.inr (.inl e))
      · exact h y (.inr (.inr m))
    · split at hy
      · rw [Tr.toL_even, List.mem_append, List.mem_cons] at hy
        rcases hy with m | e | m
        · exact h y (.inl m)
        · exact h y (.inr (.inl e))
        · exact hr y m
      · rcases dropTop_mem l r y hy with m | m
        · exact h y (.inl m)
        · exact h y (.inr (.inr m))

theorem at_put {K : Ending → World → Prop} (x : Int) (hx : In x) (hA : At w [] W) (h : TS w W g f cap cf In cb t) (hs : t.size < 1000)
    (hK : ∀ W', At w [] W' → Keep3 W W' → TS w W' g f cap cf In cb (Tr.put cf x t).1 → K (.returned (.bool (Tr.put cf x t).2)) W') : Calls Try.prog 17 #[.pointer (pt g), .int .i64 x] W K := by
  refine f17_calls _ _ W K ?_
  unfold f17_vc
  obtain ⟨root, bs, h1, h2, h3, h4, h5, h6⟩ := h.ex
  refine at_callb hA (c60 h1) fun w2 hA _ hb => ⟨_, rfl, brB (fun e => by cases e) (fun _ => ?_)⟩
  have h1 : w2.heap[g]? = _ := (hb.block h5.glt).trans h1
  have h3 := h3.call hb
  have h5 := h5.call hb
  refine ⟨_, rfl, _, rd_f 0 h1 rfl (by kernel_rfl) nod, ?_⟩
  refine at_callF hA (c62 (g := g) (cf := cf) x hx t w2 root bs (by omega) h.all h5 h3) (fun q _ hq => .inl (h4 q hq)) (by simp) fun v w7 hA' _ hch ⟨p', bs', hv, hrep, hsub⟩ => ?_
  subst hv
  refine ⟨_, _, rfl, _, rfl, ?_⟩
  refine opw_root hA' ((hch.block g h5.glt h5.gn).trans h1) h2 hrep (fun q hq => (hsub q hq).elim (h4 q) fun e => Nat.le_trans hA.size e) ((h5.to hsub).keep (hch.block g h5.glt h5.gn) (fun q hq => hch.block q (h5.oc.lt q hq) (h5.cn q hq)) hch.size) h6 (put_all x hx t h.all) (by have := size_put (cf := cf) x t; omega) fun W' hA hk3 hT => hK W' hA (((Keep3.of_bel hb).trans (Keep3.of_chg hch fun q hq => by obtain ⟨cur, hc⟩ := h3.ty q hq; exact ⟨cur, 116, hc, by decide⟩)).trans hk3) hT
theorem at_drop {K : Ending → World → Prop} (x : Int) (hx : In x) (hA : At w [] W) (h : TS w W g f cap cf In cb t)
    (hK : ∀ W', At w [] W' → Keep3 W W' → TS w W' g f cap cf In cb (Tr.drop cf x t).1 → K (.returned (.bool (Tr.drop cf x t).2)) W') : Calls Try.prog 15 #[.pointer (pt g), .int .i64 x] W K := by
  refine f15_calls _ _ W K ?_
  unfold f15_vc
  obtain ⟨root, bs, h1, h2, h3, h4, h5, h6⟩ := h.ex
  have hs := h.size
  refine at_callb hA (c60 h1) fun w2 hA _ hb => ⟨_, rfl, brB (fun e => by cases e) (fun _ => ?_)⟩
  have h1 : w2.heap[g]? = _ := (hb.block h5.glt).trans h1
  have h3 := h3.call hb
  have h5 := h5.call hb
  refine ⟨_, rfl, _, rd_f 0 h1 rfl (by kernel_rfl) nod, ?_⟩
  refine at_callF hA (c61 (g := g) (cf := cf) x hx t w2 root bs (by omega) h.all h5 h3) (fun q _ hq => .inl (h4 q hq)) (by simp) fun v w7 hA' _ hch ⟨p', bs', hv, hrep, hsub⟩ => ?_
  subst hv
  refine ⟨_, _, rfl, _, rfl, ?_⟩
  exact opw_root hA' ((hch.block g h5.glt h5.gn).trans h1) h2 hrep (fun q hq => (hsub q hq).elim (h4 q) fun e => Nat.le_trans hA.size e) ((h5.to hsub).keep (hch.block g h5.glt h5.gn) (fun q hq => hch.block q (h5.oc.lt q hq) (h5.cn q hq)) hch.size) h6 (drop_all x t h.all) (by have := size_drop (cf := cf) x t; omega) fun W' hA hk3 hT => hK W' hA (((Keep3.of_bel hb).trans (Keep3.of_chg hch fun q hq => by obtain ⟨cur, hc⟩ := h3.ty q hq; exact ⟨cur, 116, hc, by decide⟩)).trans hk3) hT
theorem at_long {K : Ending → World → Prop} (hA : At w [] W) (h : TS w W g f cap cf In cb t)
    (hK : ∀ W', At w [] W' → Bel W W' → TS w W' g f cap cf In cb t → K (.returned (.int .i64 (t.size : Int))) W') : Calls Try.prog 19 #[.pointer (pt g)] W K := by
  refine f19_calls _ W K ?_
  unfold f19_vc
  obtain ⟨root, bs, h1, h2, h3, h4, h5, h6⟩ := h.ex
  refine at_callb hA (c60 h1) fun w2 hA _ hb => ⟨_, rfl, brB (fun e => by cases e) (fun _ => ?_)⟩
  have h := h.call hb
  refine ⟨_, rfl, _, rd_f 0 ((hb.block h5.glt).trans h1) rfl (by kernel_rfl) nod, at_callb hA (c63 (h3.call hb)) fun w7 hA _ hb2 => ⟨_, rfl, hK w7 hA (hb.trans hb2) (h.call hb2)⟩⟩

/-- A place as a number; -1: nowhere. -/
def plI (o : Option Nat) (acc : Int) : Int := match o with
  | some i => acc + i
  | none => -1
/-- How many nodes a pointer's node says that there are. -/
def lng (W : World) (p : Option Addr) : Nat := match p with
  | none => 0
  | some a => match W.heap[a.block]? with
    | some (Obj.cells c _ _) => match c.toList[3]? with
      | some (Value.int _ x) => x.toNat
      | _ => 0
    | _ => 0
theorem lng_rep (h : Rep W t p bs) : lng W p = t.size := by
  cases t with
  | nil => obtain ⟨rfl, _⟩ := h; rfl
  | node l k r =>
    obtain ⟨b, pl, pr, bl, br, rfl, hr, _⟩ := h
    unfold lng
    simp only [hr]
    rfl
theorem at_place {K : Ending → World → Prop} (x : Int) (hx : In x) (hA : At w [] W) (h : TS w W g f cap cf In cb t)
    (hK : ∀ W', At w [] W' → Bel W W' → TS w W' g f cap cf In cb t → K (.returned (.int .i64 (plI (Tr.pl cf x t) 0))) W') : Calls Try.prog 20 #[.pointer (pt g), .int .i64 x] W K := by
  refine f20_calls _ _ W K ?_
  unfold f20_vc
  obtain ⟨root, bs, h1, h2, h3, h4, h5, h6⟩ := h.ex
  have hsz := h.size
  have hall := h.all
  refine at_callb hA (c60 h1) fun w2 hA _ hb => ⟨_, rfl, brB (fun e => by cases e) (fun _ => ?_)⟩
  have hb0 := hb
  have h := h.call hb
  have h1 : w2.heap[g]? = _ := (hb.block h5.glt).trans h1
  have h3 := h3.call hb
  have h5 := h5.call hb
  refine ⟨_, rfl, _, rd_f 0 h1 rfl (by kernel_rfl) nod, ?_⟩
  refine ⟨fun v W' => Bel w2 W' ∧ At w [] W' ∧ ∃ (s : Tr Int) (bs' : List Nat), Rep W' s v.2.1 bs' ∧ (∀ y ∈ s.toL, In y) ∧ 0 ≤ v.1 ∧ v.1 + s.size ≤ 1000 ∧ plI (Tr.pl cf x s) v.1 = plI (Tr.pl cf x t) 0, fun v W' => lng W' v.2.1, ⟨Bel.refl _, hA, t, bs, h3, hall, by omega, by simp; omega, rfl⟩, ?_⟩
  rintro x8 a9 w10 ⟨hbel, hA, s, bs', hr, hin, h7, h8, h9⟩
  simp only at hr h7 h8 h9
  have h := h.call hbel
  have h1 : w10.heap[g]? = _ := (hbel.block h5.glt).trans h1
  have h5 := h5.call hbel
  cases s with
  | nil =>
    obtain ⟨rfl, _⟩ := hr
    refine ⟨false, (fun W => rfl), brB (fun e => by cases e) (fun _ => ?_)⟩
    rw [← h9] at hK
    exact hK w10 hA (hb0.trans hbel) h
  | node l y r =>
    have hlng := lng_rep hr
    obtain ⟨b, pl, pr, bl, br, rfl, rfl, H⟩ := hr.node
    simp only [Tr.size] at h8 hlng
    have hil : ∀ y ∈ l.toL, In y := fun y hy => hin y (by simp [Tr.toL, hy])
    have hir : ∀ y ∈ r.toL, In y := fun y hy => hin y (by simp [Tr.toL, hy])
    have hik : In y := hin y (by simp [Tr.toL])
    refine ⟨true, (fun W => rfl), brB (fun _ => ?_) (fun e => by cases e)⟩
    refine ⟨_, rfl, _, rd_f0 h1 (by kernel_rfl) nod, _, rfl, _, rdK H nod, go_below0_too hA fun w16 hA hb => ?_⟩
    have H := H.call hb
    have h := h.call hb
    have h5 := h5.call hb
    have hbel := hbel.trans hb
    refine at_inv hA (h5.oc.ask w16 (fun _ _ => rfl) x y hx hik) fun w18 hA _ hb => ⟨_, rfl, ?_⟩
    have H := H.call hb
    have h := h.call hb
    have hbel := hbel.trans hb
    rw [Tr.pl] at h9
    refine brD (fun hlt => ?_) (fun hnlt => brD (fun hgt => ?_) (fun hngt => ?_))
    · rw [if_pos hlt] at h9
      refine ⟨_, rfl, _, rdL H nod, ⟨hbel, hA, l, bl, H.rl, hil, h7, by simp only; omega, h9⟩, ?_⟩
      simp only [lng_rep H.rl, hlng]
      omega
    · rw [if_neg hnlt, if_pos hgt] at h9
      refine ⟨_, rfl, _, rdL H nod, at_callb hA (c63 H.rl) fun w25 hA _ hb => ⟨_, rfl, ?_⟩⟩
      have H := H.call hb
      have e : IntKind.i64.wrap (x8 + IntKind.i64.wrap ((l.size : Int) + 1)) = x8 + ((l.size + 1 : Nat) : Int) := by
        rw [wrap_i64 (x := (l.size : Int) + 1) (by omega) (by omega), wrap_i64 (by omega) (by omega)]; omega
      rw [e]
      refine ⟨_, rfl, _, rdR H nod, ⟨hbel.trans hb, hA, r, br, H.rr, hir, by simp only; omega, by simp only; omega, ?_⟩, ?_⟩
      · rw [← h9]
        simp only
        cases Tr.pl cf x r with
        | none => rfl
        | some i => simp only [plI, Option.map_some]; omega
      · simp only [lng_rep H.rr, hlng]
        omega
    · rw [if_neg hnlt, if_neg hngt] at h9
      refine ⟨_, rfl, _, rdL H nod, at_callb hA (c63 H.rl) fun w32 hA _ hb => ⟨_, rfl, ?_⟩⟩
      rw [wrap_i64 (x := x8 + (l.size : Int)) (by omega) (by omega)]
      rw [← h9] at hK
      exact hK w32 hA (hb0.trans (hbel.trans hb)) (h.call hb)
theorem at_has {K : Ending → World → Prop} (x : Int) (hx : In x) (hA : At w [] W) (h : TS w W g f cap cf In cb t)
    (hK : ∀ W', At w [] W' → Bel W W' → TS w W' g f cap cf In cb t → K (.returned (.bool (Tr.pl cf x t).isSome)) W') : Calls Try.prog 14 #[.pointer (pt g), .int .i64 x] W K := by
  refine f14_calls _ _ W K ?_
  unfold f14_vc
  refine at_place x hx hA h fun W' hA hbb h => ⟨_, rfl, ?_⟩
  have e : decide (plI (Tr.pl cf x t) 0 ≥ 0) = (Tr.pl cf x t).isSome := by
    cases Tr.pl cf x t with
    | none => rfl
    | some i => exact decide_eq_true (by simp only [plI]; omega)
  rw [e]
  exact hK W' hA hbb h

/-- The one at a place. -/
def atT (i : Int) (t : Tr Int) : Value := if 0 ≤ i ∧ i < t.size then .tuple #[.int .i64 ((t.toL[i.toNat]?).getD 0), .bool true] else .tuple #[.int .i64 0, .bool false]
theorem at_at {K : Ending → World → Prop} (i : Int) (hA : At w [] W) (h : TS w W g f cap cf In cb t)
    (hK : ∀ W', At w [] W' → Bel W W' → TS w W' g f cap cf In cb t → K (.returned (atT i t)) W') : Calls Try.prog 21 #[.pointer (pt g), .int .i64 i] W K := by
  refine f21_calls _ _ W K ?_
  unfold f21_vc
  obtain ⟨root, bs, h1, h2, h3, h4, h5, h6⟩ := h.ex
  have hsz := h.size
  refine at_callb hA (c60 h1) fun w2 hA _ hb => ⟨_, rfl, brB (fun e => by cases e) (fun _ => ?_)⟩
  have hb0 := hb
  have h := h.call hb
  have h1 : w2.heap[g]? = _ := (hb.block h5.glt).trans h1
  have h3 := h3.call hb
  have h5 := h5.call hb
  unfold atT at hK
  refine brD (fun hneg => ?_) (fun hpos => ?_)
  · rw [if_neg (by omega)] at hK
    exact hK w2 hA hb0 h
  refine ⟨_, rfl, _, rd_f 0 h1 rfl (by kernel_rfl) nod, at_callb hA (c63 h3) fun w7 hA _ hb => ⟨_, rfl, brD (fun hge => ?_) (fun hlt => ?_)⟩⟩
  · rw [if_neg (by omega)] at hK
    exact hK w7 hA (hb0.trans hb) (h.call hb)
  rw [if_pos (by omega)] at hK
  have hb7 := hb0.trans hb
  have h := h.call hb
  have h1 : w7.heap[g]? = _ := (hb.block h5.glt).trans h1
  have h3 := h3.call hb
  refine ⟨_, rfl, _, rd_f 0 h1 rfl (by kernel_rfl) nod, ?_⟩
  obtain ⟨i0, rfl⟩ : ∃ n : Nat, i = n := ⟨i.toNat, by omega⟩
  refine ⟨fun v W' => Bel w7 W' ∧ At w [] W' ∧ ∃ (s : Tr Int) (bs' : List Nat) (j : Nat), v.1 = j ∧ Rep W' s v.2.1 bs' ∧ j < s.size ∧ s.size ≤ 1000 ∧ s.toL[j]? = t.toL[i0]?, fun v W' => lng W' v.2.1, ⟨Bel.refl _, hA, t, bs, i0, rfl, h3, by omega, hsz, rfl⟩, ?_⟩
  rintro x13 a14 w15 ⟨hbel, hA, s, bs', j, hj, hr, h7, h8, h9⟩
  simp only at hj hr
  subst hj
  have h := h.call hbel
  cases s with
  | nil => simp [Tr.size] at h7
  | node l y r =>
    have hlng := lng_rep hr
    obtain ⟨b, pl, pr, bl, br, rfl, rfl, H⟩ := hr.node
    simp only [Tr.size] at h7 h8 hlng
    rw [Tr.at_node] at h9
    refine ⟨_, rfl, _, rdL H nod, at_callb hA (c63 H.rl) fun w19 hA _ hb => ⟨_, rfl, ?_⟩⟩
    have H := H.call hb
    have h := h.call hb
    have hbel := hbel.trans hb
    refine brN (fun hne => ?_) (fun he => ?_)
    · refine ⟨_, rfl, _, rdL H nod, at_callb hA (c63 H.rl) fun w24 hA _ hb => ⟨_, rfl, ?_⟩⟩
      have H := H.call hb
      have h := h.call hb
      have hbel := hbel.trans hb
      refine brD (fun hlt2 => ?_) (fun hge2 => ?_)
      · rw [if_pos (by omega)] at h9
        refine ⟨_, rfl, _, rdL H nod, ⟨hbel, hA, l, bl, j, rfl, H.rl, by omega, by omega, h9⟩, ?_⟩
        simp only [lng_rep H.rl, hlng]
        omega
      · rw [if_neg (by omega), if_neg (by omega)] at h9
        refine ⟨_, rfl, _, rdL H nod, at_callb hA (c63 H.rl) fun w31 hA _ hb => ⟨_, rfl, ?_⟩⟩
        have H := H.call hb
        have hbel := hbel.trans hb
        have e : IntKind.i64.wrap ((j : Int) - IntKind.i64.wrap ((l.size : Int) + 1)) = ((j - (l.size + 1) : Nat) : Int) := by
          rw [wrap_i64 (x := (l.size : Int) + 1) (by omega) (by omega), wrap_i64 (by omega) (by omega)]; omega
        rw [e]
        refine ⟨_, rfl, _, rdR H nod, ⟨hbel, hA, r, br, _, rfl, H.rr, by omega, by omega, h9⟩, ?_⟩
        simp only [lng_rep H.rr, hlng]
        omega
    · rw [if_neg (by omega), if_pos (by omega)] at h9
      refine ⟨_, rfl, _, rdK H nod, ?_⟩
      have e : (t.toL[((i0 : Nat) : Int).toNat]?).getD 0 = y := by
        rw [show ((i0 : Nat) : Int).toNat = i0 by omega, ← h9]; rfl
      rw [e] at hK
      exact hK w19 hA (hb7.trans hbel) h
end Go.Vc.T
