/- Own text of this claim: Hp4. -/
import Derived.Test.YtkbjdkkpjjlbeaaHp3
import Derived.Test.YtkbjdkkpjjlbeaaHpN
set_option maxRecDepth 20000
namespace Go.Vc.H
open Go Go.Vc Go.RowKit Go.Proofs Vcc

variable {w W W' : World} {M : Nat → Prop} {gs : List Nat} {g c r : Nat} {a : Option Addr} {l pl : List It} {st : Int}

/-- The first ones of an own slice. -/
theorem gives_to {P : Program} {t e : TypeId} {size b n m c : Nat} {k : IntKind} (hm : m ≤ n) (hnc : n ≤ c) (ht : P.underlying t = some (.slice e)) (hz : pureRun P (sizeOf e) = some size) :
    Gives P (Instr.sliceAt t (.slice (some ⟨b, 0, none⟩) n c) none (some (.int k (m : Int))) none) (.slice (some ⟨b, 0, none⟩) m c) := by
  intro W
  have h1 : (Instr.sliceAt t (.slice (some ⟨b, 0, none⟩) n c) none (some (.int k (m : Int))) none).run P W = (Instr.slice t (.slice (some ⟨b, 0, none⟩) n c) none (some (.int k (m : Int))) none).run P W := run_sliceAt_slice W t _ _ _ _ (by simp [Program.elem, ht])
  rw [h1]
  unfold Instr.slice
  rw [run_bind_ok (run_underlying ht W)]
  simp only
  have hb : (Instr.sliceBounds true n c none (some (.int k (m : Int))) none).run P W = .ok (0, m, c) W := by
    unfold Instr.sliceBounds
    have := run_sliceBound (P := P) W k (m : Int) c .sliceAcap (by omega) (by omega)
    simp only [pure_bind, if_true]
    rw [run_bind_ok this]
    rfl
  rw [run_bind_ok hb]
  simp only
  rw [run_bind_ok (pureRun_run hz W)]
  simp [Addr.add]
theorem OwnF.take {α : Type} {e : TypeId} {size n c : Nat} {f : α → List Value} {l : List α} (m : Nat) (h : OwnF w M gs W e size f (.slice a n c) l) (hm : m ≤ n) (hf : ∀ x ∈ l, (f x).length = size) : OwnF w M gs W e size f (.slice a m c) (l.take m) := by
  have h1 := flatMap_len hf
  have h2 := flatMap_len (l := l.take m) (fun x hx => hf x (List.mem_of_mem_take hx))
  obtain ⟨hl, hrow⟩ := h.row0
  refine ⟨⟨h2, ?_⟩, fun k hk => h.mine k (by rw [← hk]; exact ownB), fun x hx hk => h.apart x hx (by rw [← hk]; exact ownB)⟩
  rcases hrow with ⟨hn, h0⟩ | ⟨g, cap, cur, hv, hb, hg, hnc, hcm, hcs, htk⟩
  · cases hn
    have : m = 0 := by omega
    subst this
    exact .inl ⟨rfl, by simp⟩
  · cases hv
    refine .inr ⟨g, _, cur, ?_, hb, hg, by rw [List.length_take]; omega, hcm, hcs, ?_⟩
    · rw [List.length_take, Nat.min_eq_left (by omega)]
    · rw [List.length_take, Nat.min_eq_left (by omega)]
      have : (l.take m).flatMap f = (l.flatMap f).take (m * size) := by
        conv => rhs; rw [← List.take_append_drop m l, List.flatMap_append]
        rw [List.take_left' (by rw [h2, List.length_take, Nat.min_eq_left (by omega)])]
      rw [this, ← htk, List.take_take, Nat.min_eq_left (Nat.mul_le_mul_right _ (by omega))]

/-- The row of items set. -/
theorem opw_items {a0 : Option Addr} {n0 c0 n : Nat} {K : Value → World → Prop} (hA : AtF w M gs W) (hb : W.heap[g]? = some (.cells (hpC a0 n0 c0 r st).toArray 39 (0, 0))) (hm : w.heap.size ≤ g ∨ M g) (hap : g ∉ gs)
    (hi : OwnF w M gs W 80 2 itE (.slice a n c) l) (hn : n = l.length) (hmap : OwnM w M gs W r (Value.int .i64) (Value.int .i64) pl)
    (h : ∀ w', AtF w M gs w' → Keeps gs W w' → HpR w M gs w' g a c r l pl st → K undef w') : OpW Try.prog (skipS (Instr.storeAt 36 (hpV g) (.slice a n c))) W K := by
  subst hn
  refine opw_storeF hA hb hm hap (cells' := hpC a l.length c r st) (by kernel_rfl) fun w' hA' hk hc hb' => h w' hA' hk ⟨hb', hm, hap, hi.chg hc (fun k hk' e => ?_), hmap.chg hc (fun e => ?_)⟩
  · subst e
    obtain ⟨cur, hcur⟩ := hi.blk hk'
    exact cells_ne hcur hb (by decide) rfl
  · subst e
    obtain ⟨es, cl, hr, _⟩ := hmap.obj
    exact cells_map hb hr rfl

theorem c32 (H : HpR W (fpH g a r) [] W g a c r l pl st) : Ret Try.prog 32 #[hpV g] W (.bool true) := by
  intro R h
  refine f32_calls _ W R ?_
  unfold f32_vc
  have hA := At.refl W
  exact ⟨true, (fun W => rfl), brB (fun _ => ⟨_, rfl, _, H.rdM nog, true, (fun W => rfl), leaf h hA rfl⟩) (fun e => by cases e)⟩

/-- The first item. -/
def peekV (l : List It) : Value := match l[0]? with
  | some x => .tuple #[.int .i64 x.1, .int .i64 x.2, .bool true]
  | none => .tuple #[.int .i64 0, .int .i64 0, .bool false]
theorem c18 (H : HpR W (fpH g a r) [] W g a c r l pl st) : Ret Try.prog 18 #[hpV g] W (peekV l) := by
  intro R h
  refine f18_calls _ W R ?_
  unfold f18_vc
  have hA := At.refl W
  refine at_callb hA (c32 H) fun w2 hA _ hb => ⟨_, rfl, brB (fun e => by cases e) (fun _ => ?_)⟩
  have H := H.call hb
  refine ⟨_, rfl, _, _, _, H.rdI nog, brE (fun h0 => ?_) (fun h0 => ?_)⟩
  · have : l = [] := List.eq_nil_of_length_eq_zero (by omega)
    subst this
    exact leaf h hA rfl
  · obtain ⟨x, hx⟩ : ∃ x, l[0]? = some x := ⟨_, List.getElem?_eq_getElem (by omega)⟩
    obtain ⟨ad, g1, r1, el⟩ := H.item (ds := []) hx (by simp)
    refine ⟨_, rfl, _, _, _, H.rdI nog, _, g1, _, el.one (by kernel_rfl) (by simp), _, rfl, _, _, _, H.rdI nog, _, g1, _, (el.sub (o := 1) (by decide)).one (by kernel_rfl) (by simp), ?_⟩
    exact go_below0 hA fun w5 hA => leaf h hA (by rw [peekV, hx])

/-- A key's time. -/
def atV (k : Int) (l pl : List It) : Value := match mget k pl with
  | some i => .tuple #[.int .i64 ((l[i.toNat]?).getD (0, 0)).2, .bool true]
  | none => .tuple #[.int .i64 0, .bool false]
theorem z2 : pureRun Try.prog (zeroValue 3) = some (.int .i64 0) := by kernel_rfl
theorem c19 (k : Int) (hP : PlOk l pl) (H : HpR W (fpH g a r) [] W g a c r l pl st) : Ret Try.prog 19 #[hpV g, .int .i64 k] W (atV k l pl) := by
  intro R h
  refine f19_calls _ _ W R ?_
  unfold f19_vc
  have hA := At.refl W
  refine at_callb hA (c32 H) fun w2 hA _ hb => ⟨_, rfl, brB (fun e => by cases e) (fun _ => ?_)⟩
  have H := H.call hb
  have hlook := reads_lookup2 K2 t37 z2 H.map k (ds := []) (by simp)
  cases hm : mget k pl with
  | none =>
    rw [hm] at hlook
    exact ⟨_, rfl, _, H.rdM nog, _, _, hlook, brB (fun _ => leaf h hA (by rw [atV, hm])) (fun e => by cases e)⟩
  | some v =>
    rw [hm] at hlook
    obtain ⟨i, t, rfl, hi⟩ := hP.some_of hm
    obtain ⟨ad, g1, r1, el⟩ := H.item (ds := []) hi (by simp)
    refine ⟨_, rfl, _, H.rdM nog, _, _, hlook, brB (fun e => by cases e) (fun _ => ⟨_, rfl, _, _, _, H.rdI nog, _, g1, _, (el.sub (o := 1) (by decide)).one (by kernel_rfl) (by simp), leaf h hA ?_⟩)⟩
    rw [atV, hm]
    simp [hi]
theorem c13 (H : HpR W (fpH g a r) [] W g a c r l pl st) : Ret Try.prog 13 #[hpV g] W (.int .i64 (l.length : Int)) := by
  intro R h
  refine f13_calls _ W R ?_
  unfold f13_vc
  have hA := At.refl W
  refine at_callb hA (c32 H) fun w2 hA _ hb => ⟨_, rfl, brB (fun e => by cases e) (fun _ => ?_)⟩
  have H := H.call hb
  exact ⟨_, rfl, _, _, _, H.rdI nog, leaf h hA rfl⟩
theorem c16 (H : HpR W (fpH g a r) [] W g a c r l pl st) : Ret Try.prog 16 #[hpV g] W (.int .i64 st) := by
  intro R h
  refine f16_calls _ W R ?_
  unfold f16_vc
  have hA := At.refl W
  refine at_callb hA (c32 H) fun w2 hA _ hb => ⟨_, rfl, brB (fun e => by cases e) (fun _ => ?_)⟩
  have H := H.call hb
  exact ⟨_, rfl, _, H.rdS nog, leaf h hA rfl⟩
end Go.Vc.H
