/- Own texts of this claim, laid together: VcOwn, VcArg, Fc5, Fc8, VcOwn2, VcStr, VcElt, VcMath, Al1, VcArr, VcPush, VcMap, HpM, HpN. -/
import Derived.Test.YtkbjdkkpjjlbeaaMge3ef0bac
import Derived.Laws.OwnMore
import Derived.Test.YtkbjdkkpjjlbeaaProg
import Derived.Laws.BytesArg
import Derived.Laws.BytesString
import Derived.Laws.Concat
import Derived.Laws.Strings3
import Derived.Laws.Slices
import Derived.Laws.RangeString
import GoSem.Core.View
import Derived.Laws.IdiomStrings
import Derived.Carry

/- Slices of the function's own: rows made since the first world, apart from the own boxes; making, adding, storing, reading. -/
namespace Go.Vc
open Go Go.RowKit

/-- A slice whose elements lie in memory as 'f' writes them. -/
abbrev SlE {α : Type} (w : World) (n : Nat) (f : α → List Value) (l : List α) (a : Option Addr) (len cap : Nat) : Prop := SlR w n (fun x cs => cs = f x) l a len cap

theorem SlR.imp {α : Type} {w : World} {n : Nat} {R R' : α → List Value → Prop} {l : List α} {a : Option Addr} {len cap : Nat} (h : SlR w n R l a len cap) (hR : ∀ x cs, R x cs → R' x cs) : SlR w n R' l a len cap :=
  h.mono (fun _ _ h => h) hR
theorem SlR.call {α : Type} {w w' : World} {n : Nat} {R : α → List Value → Prop} {l : List α} {a : Option Addr} {len cap : Nat} (h : SlR w n R l a len cap) (hb : Bel w w') : SlR w' n R l a len cap :=
  h.mono (cell_below hb.below) fun _ _ h => h
theorem SlR.each {α : Type} {w : World} {n : Nat} {R : α → List Value → Prop} {l : List α} {a : Option Addr} {len cap : Nat} (h : SlR w n R l a len cap) {x : α} (hx : x ∈ l) : ∃ cs, R x cs := by
  obtain ⟨i, hi, rfl⟩ := List.mem_iff_getElem.1 hx
  obtain ⟨_, cs, _, _, _, hr⟩ := h.at_ (List.getElem?_eq_getElem hi)
  exact ⟨cs, hr⟩
theorem SlR.len_le {α : Type} {w : World} {n : Nat} {R : α → List Value → Prop} {l : List α} {a : Option Addr} {len cap : Nat} (h : SlR w n R l a len cap) : len = l.length ∧ l.length ≤ 9223372036854775807 := ⟨h.1, h.1 ▸ Nat.le_trans h.2.1 h.2.2.1⟩

/-- An own slice: its row lies in a block that is new since the first world, or that may be written (M), apart from the own boxes. -/
structure OwnF {α : Type} (w : World) (M : Nat → Prop) (gs : List Nat) (W : World) (e : TypeId) (size : Nat) (f : α → List Value) (v : Value) (l : List α) : Prop where
  row0 : W.ownsRow 0 e size v l.length (l.flatMap f)
  mine : ∀ k, v.ownBlock = some k → w.heap.size ≤ k ∨ M k
  apart : ∀ g ∈ gs, v.ownBlock ≠ some g
abbrev OwnL {α : Type} (w : World) (gs : List Nat) (W : World) (e : TypeId) (size : Nat) (f : α → List Value) (v : Value) (l : List α) : Prop := OwnF w noB gs W e size f v l

theorem ownsRow_raise {W : World} {base b : Nat} {e : TypeId} {size n : Nat} {v : Value} {xs : List Value} (h : W.ownsRow b e size v n xs) (hm : ∀ k, v.ownBlock = some k → base ≤ k) : W.ownsRow base e size v n xs := by
  refine ⟨h.1, ?_⟩
  rcases h.2 with hn | ⟨g, cap, cur, hv, _, rest⟩
  · exact .inl hn
  · exact .inr ⟨g, cap, cur, hv, hm g (by rw [hv]; rfl), rest⟩

section
variable {α : Type} {w W W' : World} {M N : Nat → Prop} {gs gs' ds : List Nat} {e : TypeId} {size : Nat} {f : α → List Value} {v : Value} {l : List α}

theorem OwnF.lt (h : OwnF w M gs W e size f v l) : ∀ k, v.ownBlock = some k → k < W.heap.size := fun k hk => (h.row0.lt k hk).2
/-- Out of a row above a base. -/
theorem OwnF.mk_ {base : Nat} (h : W.ownsRow base e size v l.length (l.flatMap f)) (hm : ∀ k, base ≤ k → k < W.heap.size → w.heap.size ≤ k ∨ M k) (hap : ∀ g ∈ gs, v.ownBlock ≠ some g) : OwnF w M gs W e size f v l :=
  ⟨ownsRow_raise h fun _ _ => Nat.zero_le _, fun k hk => hm k (h.lt k hk).1 (h.lt k hk).2, hap⟩
theorem OwnL.of (h : W.ownsRow w.heap.size e size v l.length (l.flatMap f)) (hap : ∀ g ∈ gs, v.ownBlock ≠ some g) : OwnL w gs W e size f v l := OwnF.mk_ h (fun _ h _ => .inl h) hap
theorem OwnF.row (h : OwnF w noB gs W e size f v l) : W.ownsRow w.heap.size e size v l.length (l.flatMap f) := ownsRow_raise h.row0 fun k hk => (h.mine k hk).resolve_right id

theorem OwnF.nil : OwnF w M gs W e size f (.slice none 0 0) [] := ⟨World.ownsRow_nil .., fun _ h => (by cases h), fun _ _ h => by cases h⟩
theorem OwnL.nil : OwnL w gs W e size f (.slice none 0 0) [] := OwnF.nil

theorem OwnF.keep (h : OwnF w M gs W e size f v l) (hc : ∀ k, v.ownBlock = some k → W'.heap[k]? = W.heap[k]?) : OwnF w M gs W' e size f v l := by
  refine ⟨⟨h.row0.1, ?_⟩, h.mine, h.apart⟩
  rcases h.row0.2 with hn | ⟨g, cap, cur, hv, hge, hgg, rest⟩
  · exact .inl hn
  · exact .inr ⟨g, cap, cur, hv, hge, by rw [hc g (by rw [hv]; rfl), hgg], rest⟩
theorem OwnF.chg (h : OwnF w M gs W e size f v l) (hc : Chg N W W') (hne : ∀ k, v.ownBlock = some k → ¬ N k) : OwnF w M gs W' e size f v l :=
  h.keep fun k hk => hc.block k (h.lt k hk) (hne k hk)
theorem OwnF.grown {row : Option Nat} (h : OwnF w M gs W e size f v l) (hg : W.grownBy W' row) (hne : v.ownBlock = none ∨ v.ownBlock ≠ row) : OwnF w M gs W' e size f v l :=
  h.keep fun k hk => hg.block k (h.lt k hk) fun e => by
    rcases hne with h0 | h0
    · rw [h0] at hk; cases hk
    · exact h0 (hk.trans e)
theorem grown_below (h : Bel W W') (row : Option Nat) : W.grownBy W' row := ⟨h.below.os, h.below.tape, h.below.output, h.size, fun _ hk _ => h.block hk⟩
theorem OwnF.call (h : OwnF w M gs W e size f v l) (hb : Bel W W') : OwnF w M gs W' e size f v l := h.keep fun k hk => hb.block (h.lt k hk)
theorem OwnF.more (h : OwnF w M gs W e size f v l) (hg : ∀ g ∈ gs', g ∉ gs → W.heap.size ≤ g) : OwnF w M gs' W e size f v l :=
  ⟨h.row0, h.mine, fun g hm hv => by
    by_cases hk : g ∈ gs
    · exact h.apart g hk hv
    · have := h.lt g hv
      have := hg g hm hk
      omega⟩
theorem OwnF.evo (h : OwnF w M gs W e size f v l) (hd : ∀ d ∈ ds, d ∉ gs → W.heap.size ≤ d) (hb : Evo ds W W') : OwnF w M gs W' e size f v l :=
  h.chg (Chg.of_evo hb) fun k hk hm => by
    by_cases hg : k ∈ gs
    · exact h.apart k hg hk
    · have := hd k hm hg
      have := h.lt k hk
      omega
/-- A row that a call has made. -/
theorem OwnF.ret {n : Nat} {xs : List Value} (hA : AtF w M gs W) (h : W'.ownsRow W.heap.size e size v n xs) (hn : n = l.length) (hx : xs = l.flatMap f) : OwnF w M gs W' e size f v l := by
  subst hn
  subst hx
  refine OwnF.mk_ h (fun k hk _ => .inl (Nat.le_trans hA.size hk)) fun g hg hv => ?_
  have := (h.lt g hv).1
  have := hA.under g hg
  omega
theorem OwnL.ret {n : Nat} {xs : List Value} (hA : At w gs W) (h : W'.ownsRow W.heap.size e size v n xs) (hn : n = l.length) (hx : xs = l.flatMap f) : OwnL w gs W' e size f v l := OwnF.ret hA h hn hx
/-- Seen from another first world. -/
theorem OwnF.base {w' : World} {M' : Nat → Prop} {gs' : List Nat} (h : OwnF w M gs W e size f v l) (hm : ∀ k, v.ownBlock = some k → w'.heap.size ≤ k ∨ M' k) (hap : ∀ g ∈ gs', v.ownBlock ≠ some g) : OwnF w' M' gs' W e size f v l := ⟨h.row0, hm, hap⟩

theorem flatMap_part {l : List α} (hf : ∀ x ∈ l, (f x).length = size) {i : Nat} {x : α} (hx : l[i]? = some x) : ((l.flatMap f).drop (i * size)).take size = f x := by
  induction l generalizing i with
  | nil => simp at hx
  | cons y l ih =>
    cases i with
    | zero =>
      simp at hx
      subst hx
      have := hf y (List.mem_cons_self ..)
      simp only [Nat.zero_mul, List.drop_zero, List.flatMap_cons]
      rw [← this, List.take_left]
    | succ i =>
      have hy := hf y (List.mem_cons_self ..)
      have hx' : l[i]? = some x := by simpa using hx
      rw [← ih (fun x hx => hf x (List.mem_cons_of_mem _ hx)) hx']
      simp only [List.flatMap_cons]
      rw [Nat.add_mul, Nat.one_mul, Nat.add_comm, ← List.drop_drop]
      congr 2
      rw [← hy, List.drop_left]

/-- An own slice reads as its list. -/
theorem OwnF.slice (h : OwnF w M gs W e size f v l) (hf : ∀ x ∈ l, (f x).length = size) : ∃ a cap, v = .slice a l.length cap ∧ SlE W size f l a l.length cap := by
  rcases h.row0.2 with ⟨hv, hn⟩ | ⟨g, cap, cur, hv, hge, hgg, hnc, hcm, hcs, htk⟩
  · have hl : l = [] := List.eq_nil_of_length_eq_zero hn
    subst hl
    exact ⟨none, 0, hv, rfl, Nat.le_refl _, Nat.zero_le _, fun _ => rfl, fun i x hx => by simp at hx⟩
  · refine ⟨_, cap, hv, rfl, hnc, hcm, fun h => (by cases h), fun i x hx => ⟨_, f x, rfl, hf x (List.mem_of_getElem? hx), fun j u hu => ?_, rfl⟩⟩
    have hlen := hf x (List.mem_of_getElem? hx)
    rw [addr_add_add _ _ _ rfl, addr_add]
    have hj : j < size := by
      have := (List.getElem?_eq_some_iff.1 hu).1
      omega
    rw [← flatMap_part hf hx, List.getElem?_take, if_pos hj, List.getElem?_drop, ← htk, List.getElem?_take] at hu
    split at hu
    · rw [← Array.getElem?_toList]  at *
      have := cell_at (W := W) (g := g) (cells := cur.toList) (ty := e) (fr := (0, 0)) (by simpa using hgg) (0 + i * size + j)
      rw [show (0 : Nat) + (i * size + j) = 0 + i * size + j by omega, this]
      simpa using hu
    · cases hu
end

/-! ### Adding -/
def elemB (P : Program) (t e : TypeId) (size bytes : Nat) : Bool :=
  match P.underlying t with
  | some (.slice e') => Nat.beq e' e && (match P.info? e with
    | some i => Nat.beq i.size size && Nat.beq i.bytes bytes && (match i.zero with
      | some z => Nat.beq z.cells.size size && Nat.blt 0 size
      | none => false)
    | none => false)
  | _ => false

structure ElemOk (P : Program) (t e : TypeId) (size bytes : Nat) (i : TypeInfo) (z : Value) : Prop where
  ht : P.underlying t = some (.slice e)
  hi : P.info? e = some i
  hz : i.zero = some z
  hsize : i.size = size
  hby : i.bytes = bytes
  hzs : z.cells.size = size
  hsz : 0 < size

theorem elemB_ok {P : Program} {t e : TypeId} {size bytes : Nat} (h : elemB P t e size bytes = true) : ∃ i z, ElemOk P t e size bytes i z := by
  unfold elemB at h
  split at h
  · rename_i e' hu
    simp only [Bool.and_eq_true] at h
    obtain ⟨he, h⟩ := h
    have he := Nat.eq_of_beq_eq_true he
    subst he
    split at h
    · rename_i i hi
      simp only [Bool.and_eq_true] at h
      obtain ⟨⟨h1, h2⟩, h3⟩ := h
      split at h3
      · rename_i z hz
        simp only [Bool.and_eq_true] at h3
        refine ⟨i, z, hu, hi, hz, Nat.eq_of_beq_eq_true h1, Nat.eq_of_beq_eq_true h2, Nat.eq_of_beq_eq_true h3.1, ?_⟩
        have := h3.2
        unfold Nat.blt at this
        exact Nat.le_of_ble_eq_true this
      · cases h3
    · cases h
  · cases h

section
variable {P : Program} {M : Nat → Prop} {w W : World} {gs : List Nat} {e : TypeId} {size : Nat} {v : Value} {n : Nat} {xs : List Value}

theorem run_append_at {t ty : TypeId} {bytes base : Nat} (he : elemB P t e size bytes = true) (hown : W.ownsRow base e size v n xs) (hbase : base ≤ W.heap.size) {a : Addr} {m c : Nat} {news : List Value} (hl : news.length = m * size)
    (hnews : ∀ j u, news[j]? = some u → W.cell? (a.add j) = some u) (h1 : ∀ u ∈ news, u.oneCell' = true) (h63 : n + m ≤ maxLen) (hbytes : (n + m) * bytes ≤ 140737488355328) :
    ∃ v' w', (Builtin.append_ #[t, t] ty #[v, .slice (some a) m c]).run P W = .ok v' w' ∧ w'.ownsRow base e size v' (n + m) (xs ++ news) ∧ W.grownBy w' v.ownBlock ∧ (v'.ownBlock = v.ownBlock ∨ ∀ k, v'.ownBlock = some k → W.heap.size ≤ k) := by
  obtain ⟨i, z, ok⟩ := elemB_ok he
  rcases hown.2 with ⟨rfl, rfl⟩ | ⟨g, cap, cur, rfl, hbg, hg, hnc, hcm, hcs, htake⟩
  · have hxs : xs = [] := List.eq_nil_of_length_eq_zero (by simpa using hown.1)
    subst hxs
    obtain ⟨v', w', hr, ho, hgr, _⟩ := run_append_own (P := P) W W.heap.size t ty e i z size bytes ok.ht ok.hi ok.hz ok.hsize ok.hby ok.hzs ok.hsz _ 0 [] (World.ownsRow_nil W W.heap.size e size) a m c news hl hnews h1 h63 hbytes (Nat.le_refl _)
    refine ⟨v', w', hr, ⟨ho.1, ?_⟩, hgr, .inr fun k hk => (ho.lt k hk).1⟩
    rcases ho.2 with h | ⟨g, cap, cur, hv, hge, rest⟩
    · exact .inl h
    · exact .inr ⟨g, cap, cur, hv, Nat.le_trans hbase hge, rest⟩
  · by_cases hroom : n + m ≤ cap
    · obtain ⟨w', hr, ho, hgr⟩ := run_append_fits (P := P) W base t ty e i size ok.ht ok.hi ok.hsize g n cap xs hown a m c news hl hnews h1 hroom
      exact ⟨_, w', hr, ho, hgr, .inl rfl⟩
    · obtain ⟨v', w', hr, ho, hgr, _⟩ := run_append_own (P := P) W base t ty e i z size bytes ok.ht ok.hi ok.hz ok.hsize ok.hby ok.hzs ok.hsz _ n xs hown a m c news hl hnews h1 h63 hbytes hbase
      have holds : ∀ j u, xs[j]? = some u → W.cell? ((⟨g, 0, none⟩ : Addr).add j) = some u := hown.cells (g := g) rfl
      have hsmall : n + m ≤ 9223372036854775807 := by simp only [maxLen] at h63; omega
      have hr2 := run_append_grow (P := P) W t ty e i z ok.ht ok.hi ok.hz ⟨g, 0, none⟩ n cap xs (by rw [ok.hsize]; exact hown.1) holds a m c news (by rw [ok.hsize]; exact hl) hnews (by omega) (by omega) (growslice_fits (by omega) (by rw [ok.hby]; exact hbytes))
      rw [hr] at hr2
      have hv' : v' = _ := (Result.ok.inj hr2).1
      refine ⟨v', w', hr, ho, hgr, .inr fun k hk => ?_⟩
      rw [hv'] at hk
      simp [Value.ownBlock] at hk
      omega

theorem opw_appendRaw {t ty : TypeId} {fl : Array Bool} {bytes : Nat} (he : elemB P t e size bytes = true) (hA : AtF w M gs W) (hown : W.ownsRow 0 e size v n xs) (hmine : ∀ k, v.ownBlock = some k → w.heap.size ≤ k ∨ M k) (hap : ∀ g ∈ gs, v.ownBlock ≠ some g) {a : Addr} {m c : Nat} {news : List Value} (hl : news.length = m * size)
    (hnews : ∀ j u, news[j]? = some u → W.cell? (a.add j) = some u) (h1 : ∀ u ∈ news, u.oneCell' = true) (h63 : n + m ≤ maxLen) (hbytes : (n + m) * bytes ≤ 140737488355328) {K : Value → World → Prop}
    (h : ∀ v' w', AtF w M gs w' → Keeps gs W w' → W.grownBy w' v.ownBlock → w'.ownsRow 0 e size v' (n + m) (xs ++ news) → (∀ k, v'.ownBlock = some k → w.heap.size ≤ k ∨ M k) → (∀ g ∈ gs, v'.ownBlock ≠ some g) → (v'.ownBlock = v.ownBlock ∨ ∀ k, v'.ownBlock = some k → W.heap.size ≤ k) → K v' w') :
    OpW P (builtin .append #[t, t] ty fl #[v, .slice (some a) m c]) W K := by
  obtain ⟨v', w', hr, ho, hgr, hb⟩ := run_append_at (ty := ty) he hown (Nat.zero_le _) hl hnews h1 h63 hbytes
  have hrun : (builtin .append #[t, t] ty fl #[v, .slice (some a) m c]).run P W = .ok (.value v') w' := by
    show (do pure (Next.value (← Builtin.append_ #[t, t] ty #[v, .slice (some a) m c])) : Sem Next).run P W = _
    rw [run_bind_ok hr]
    rfl
  unfold OpW
  rw [hrun]
  refine h v' w' (hA.step (Chg.of_grown hgr (run_drawn hr)) fun k _ hk => hmine k hk) (fun g hg => hgr.block g (hA.under g hg) fun e => hap g hg e.symm) hgr ho (fun k hk => ?_) (fun g hg hv => ?_) hb
  · rcases hb with hb | hb
    · exact hmine k (hb ▸ hk)
    · exact .inl (Nat.le_trans hA.size (hb k hk))
  rcases hb with hb | hb
  · exact hap g hg (hb ▸ hv)
  · have := hb g hv
    have := hA.under g hg
    omega
end

/-- One element more. -/
theorem opw_append1 {α : Type} {P : Program} {M : Nat → Prop} {w W : World} {gs : List Nat} {e : TypeId} {size : Nat} {f : α → List Value} {v : Value} {l : List α} {t ty : TypeId} {fl : Array Bool} {bytes : Nat} (he : elemB P t e size bytes = true) (hA : AtF w M gs W) (ho : OwnF w M gs W e size f v l) {a : Addr} {c : Nat} {x : α} (hl : (f x).length = size)
    (hnews : ∀ j u, (f x)[j]? = some u → W.cell? (a.add j) = some u) (h1 : ∀ u ∈ f x, u.oneCell' = true) (h63 : l.length + 1 ≤ 70368744177664) (hby : bytes = 1 ∨ (l.length + 1) * bytes ≤ 140737488355328) {K : Value → World → Prop}
    (h : ∀ v' w', AtF w M gs w' → Keeps gs W w' → W.grownBy w' v.ownBlock → OwnF w M gs w' e size f v' (l ++ [x]) → (v'.ownBlock = v.ownBlock ∨ ∀ k, v'.ownBlock = some k → W.heap.size ≤ k) → K v' w') :
    OpW P (builtin .append #[t, t] ty fl #[v, .slice (some a) 1 c]) W K := by
  refine opw_appendRaw he hA ho.row0 ho.mine ho.apart (m := 1) (by simpa using hl) hnews h1 (by simp only [maxLen]; omega) ?_ fun v' w' hA' hk hg hr hmi hap hb => h v' w' hA' hk hg ⟨?_, hmi, hap⟩ hb
  · rcases hby with rfl | h
    · omega
    · exact h
  · simpa using hr

/-- All elements of a slice more. -/
theorem opw_appendS {α : Type} {P : Program} {M : Nat → Prop} {w W : World} {gs : List Nat} {e : TypeId} {size : Nat} {f : α → List Value} {v : Value} {l l2 : List α} {t ty : TypeId} {fl : Array Bool} {bytes : Nat} (he : elemB P t e size bytes = true) (hA : AtF w M gs W) (ho : OwnF w M gs W e size f v l) {a : Option Addr} {len c : Nat} (hs : SlE W size f l2 a len c)
    (hf : ∀ x ∈ l2, (f x).length = size) (h1 : ∀ x ∈ l2, ∀ u ∈ f x, u.oneCell' = true) (h63 : l.length + l2.length ≤ maxLen) (hby : (l.length + l2.length) * bytes ≤ 140737488355328) {K : Value → World → Prop}
    (h : ∀ v' w', AtF w M gs w' → Keeps gs W w' → W.grownBy w' v.ownBlock → OwnF w M gs w' e size f v' (l ++ l2) → K v' w') :
    OpW P (builtin .append #[t, t] ty fl #[v, .slice a len c]) W K := by
  obtain ⟨hlen, hlc, hcm, hnone, hat⟩ := hs
  subst hlen
  cases a with
  | none =>
    have hc : c = 0 := hnone rfl
    subst hc
    have h0 : l2 = [] := List.eq_nil_of_length_eq_zero (by omega)
    subst h0
    obtain ⟨i, z, ok⟩ := elemB_ok he
    have hr := run_append_owned_none (P := P) W 0 t ty e i size ok.ht ok.hi v l.length _ ho.row0
    have hrun : (builtin .append #[t, t] ty fl #[v, .slice none 0 0]).run P W = .ok (.value v) W := by
      show (do pure (Next.value (← Builtin.append_ #[t, t] ty #[v, .slice none 0 0])) : Sem Next).run P W = _
      rw [run_bind_ok hr]
      rfl
    unfold OpW
    rw [show ([] : List α).length = 0 from rfl, hrun]
    exact h v W hA (fun _ _ => rfl) ⟨rfl, rfl, rfl, Nat.le_refl _, fun _ _ _ => rfl⟩ (by rw [List.append_nil]; exact ho)
  | some ad =>
    have hfl : (l2.flatMap f).length = l2.length * size := by
      clear hat h63 hby h hlc hnone h1
      induction l2 with
      | nil => simp
      | cons x l2 ih =>
        rw [List.flatMap_cons, List.length_append, List.length_cons, hf x (List.mem_cons_self ..), ih fun y hy => hf y (List.mem_cons_of_mem _ hy), Nat.add_mul]
        omega
    have hcells : ∀ j u, (l2.flatMap f)[j]? = some u → W.cell? (ad.add j) = some u := by
      intro j u hu
      have hj := (List.getElem?_eq_some_iff.1 hu).1
      rw [hfl] at hj
      have hsz : 0 < size := by
        rcases Nat.eq_zero_or_pos size with h | h
        · subst h; omega
        · exact h
      have hi : j / size < l2.length := Nat.div_lt_of_lt_mul (by rw [Nat.mul_comm]; exact hj)
      obtain ⟨ad', cs, hae, hcl, hcs, hcf⟩ := hat (j / size) _ (List.getElem?_eq_getElem hi)
      cases hae
      subst hcf
      have hp := flatMap_part hf (List.getElem?_eq_getElem hi)
      have hm : j % size < size := Nat.mod_lt _ hsz
      have hdm : j / size * size + j % size = j := by rw [Nat.mul_comm]; exact Nat.div_add_mod j size
      have hv : (f l2[j / size])[j % size]? = some u := by
        rw [← hp, List.getElem?_take, if_pos hm, List.getElem?_drop, hdm]
        exact hu
      have := hcs _ _ hv
      have hadd : (ad.add (j / size * size)).add (j % size) = ad.add j := by
        rcases Option.eq_none_or_eq_some ad.spot with hsp | ⟨s, hsp⟩
        · rw [addr_add_add _ _ _ hsp, hdm]
        · unfold Addr.add
          obtain ⟨b, o, sp⟩ := ad
          simp only at hsp
          subst hsp
          by_cases h1 : j / size * size = 0
          · rw [h1] at hdm
            rw [Nat.zero_add] at hdm
            simp [h1, hdm]
          · have h3 : j ≠ 0 := by omega
            by_cases h2 : j % size = 0
            · rw [h2] at hdm
              simp [h1, h2, h3]
              omega
            · simp [h1, h2, h3]
              omega
      rw [hadd] at this
      exact this
    refine opw_appendRaw he hA ho.row0 ho.mine ho.apart hfl hcells (fun u hu => ?_) h63 hby fun v' w' hA' hk hg hr hmi hap _ => h v' w' hA' hk hg ⟨?_, hmi, hap⟩
    · obtain ⟨x, hx, hxu⟩ := List.mem_flatMap.1 hu
      exact h1 x hx u hxu
    · rw [List.length_append, List.flatMap_append]
      exact hr
end Go.Vc

/- Arguments of the law, read. -/
namespace Go.Vc
open Go Go.RowKit
theorem i64_bounds' {x : Int} (h1 : IntKind.i64.min ≤ x) (h2 : x ≤ IntKind.i64.max) : -9223372036854775808 ≤ x ∧ x ≤ 9223372036854775807 := by
  have e1 : IntKind.i64.min = -9223372036854775808 := by decide
  have e2 : IntKind.i64.max = 9223372036854775807 := by decide
  omega
theorem int_V {w : World} {x : Int} {v : Value} (h : GT.V w (.int .i64) x v) : v = .int .i64 x ∧ (-9223372036854775808 ≤ x ∧ x ≤ 9223372036854775807) := by
  obtain ⟨h, h1, h2⟩ := h
  simp at h
  exact ⟨h, i64_bounds' h1 h2⟩
theorem str_V {w : World} {x : ByteArray} {v : Value} (h : GT.V w .str x v) : v = .string x ∧ x.size ≤ maxLen := by
  obtain ⟨h, h1⟩ := h
  simp at h
  exact ⟨h, h1⟩
theorem ints_V {w : World} {l : List Int} {v : Value} (h : GT.V w (.sl (.int .i64)) l v) : ∃ a n c, v = .slice a n c ∧ SlE w 1 (fun x => [Value.int .i64 x]) l a n c ∧ ∀ x ∈ l, -9223372036854775808 ≤ x ∧ x ≤ 9223372036854775807 := by
  obtain ⟨a, n, c, hv, hs⟩ := h
  simp at hv
  refine ⟨a, n, c, hv, hs.imp fun _ _ h => h.1, fun x hx => ?_⟩
  obtain ⟨cs, hr⟩ := hs.each hx
  exact i64_bounds' hr.2.1 hr.2.2
end Go.Vc

/- The formulas of functions, printed by a program (VcTool.lean): each is what the generator's formula comes to, by the kernel's reckoning; whoever proves one has the function's contract. -/
set_option maxRecDepth 100000
set_option maxHeartbeats 1000000
set_option linter.unusedVariables false
namespace Vcc
open Go Go.Vc Go.RowKit
/-! manciple/alarm.New -/
def h21 : Hints := ⟨[], [], [], [], [], [], [], [], []⟩
def f21_vc  (w : World) (R : Ending → World → Prop) : Prop :=
 Calls Proofs.Try.prog 9 #[] w fun (e1 : Ending) (w2 : World) =>
 ∃ (a3 : Option Addr),
 e1 = Ending.returned (Value.pointer a3) ∧
 OpW Proofs.Try.prog (valueS (Instr.makeMap 73 none)) w2 fun (v4 : Value) (w5 : World) =>
 ∃ (r6 : Option Nat),
 v4 = Value.map r6 ∧
 OpW Proofs.Try.prog (valueS (Instr.makeMap 74 none)) w5 fun (v7 : Value) (w8 : World) =>
 ∃ (r9 : Option Nat),
 v7 = Value.map r9 ∧
 OpW Proofs.Try.prog (valueS (Instr.box 76 (Value.agg #[Value.pointer a3, Value.map r6, Value.map r9, Value.int IntKind.i64 0]))) w8 fun (v10 : Value) (w11 : World) =>
 ∃ (ad12 : Addr), v10 = Value.pointer (some ad12) ∧ R (Ending.returned (Value.pointer (some ad12))) w11
theorem f21_eq  (w : World) (R : Ending → World → Prop) : (fnF Go.Proofs.Try.prog h21 Go.Proofs.Try.f21 [] w R).den = f21_vc  w R := by kernel_rfl
theorem f21_calls  (w : World) (R : Ending → World → Prop) (h : f21_vc  w R) : Calls Go.Proofs.Try.prog 21 (List.toArray []) w R :=
 fn_sound (H := h21) (fn := Go.Proofs.Try.f21) (by kernel_rfl) (by kernel_rfl) (by kernel_rfl) ((f21_eq  w R).mpr h)


/-! (*manciple/alarm.Alarms).Due -/
def h24 : Hints := ⟨[10], [17, 40, 32], [13, 29, 25], [(9, [0, 1, 2, 3, 6, 4, 5, 7, 8])], [], [(6, ⟨[(5, .sl), (7, .int .i64), (8, .int .i64), (9, .bool)], []⟩)], [], [], []⟩
def f24_vc (a : Option Addr) (now : Int) (w : World) (R : Ending → World → Prop) : Prop :=
 Calls Proofs.Try.prog 40 #[Value.pointer a] w fun (e1 : Ending) (w2 : World) =>
 ∃ (b3 : Bool),
 e1 = Ending.returned (Value.bool b3) ∧
 ((!b3) = true → R (Ending.returned (Value.slice none 0 0)) w2) ∧
 ((!b3) = false →
 OpW Proofs.Try.prog (valueS (Instr.makeMap 73 none)) w2 fun (v4 : Value) (w5 : World) =>
 ∃ (r6 : Option Nat),
 v4 = Value.map r6 ∧
 OpW Proofs.Try.prog (valueS (Instr.alloc 73 true (Value.tuple #[]))) w5 fun (v7 : Value) (w8 : World) =>
 ∃ (ad9 : Addr),
 v7 = Value.pointer (some ad9) ∧
 OpW Proofs.Try.prog (skipS (Instr.storeAt 73 (Value.pointer (some ad9)) (Value.map r6))) w8 fun (v10 : Value) (w11 : World) =>
 ∃ (ad12 : Addr),
 a = some ad12 ∧
 ∃ (a13 : Option Addr),
 Reads Proofs.Try.prog [] (Instr.loadAt 23 (Value.pointer (some ad12))) w11 (Value.pointer a13) ∧
 Calls Proofs.Try.prog 18 #[Value.pointer a13] w11 fun (e14 : Ending) (w15 : World) =>
 ∃ (x16 : Int),
 ∃ (x17 : Int),
 ∃ (b18 : Bool),
 e14 = Ending.returned (Value.tuple #[Value.int IntKind.i64 x16, Value.int IntKind.i64 x17, Value.bool b18]) ∧
 ∃ (J19 : (Option Addr × Nat × Nat) × Int × Int × Bool × Unit → World → Prop),
 ∃ (J20 : (Option Addr × Nat × Nat) × Int × Int × Bool × Unit → World → Nat),
 J19 ((none, 0, 0), x16, x17, b18, ()) w15 ∧
 ∀ (a21 : Option Addr) (n22 n23 : Nat) (x24 x25 : Int) (b26 : Bool) (w27 : World),
 J19 ((a21, n22, n23), x24, x25, b26, ()) w27 →
 (b26 = true →
 (decide (x25 ≤ now) = true →
 ∃ (ad28 : Addr),
 a = some ad28 ∧
 ∃ (r29 : Option Nat),
 Reads Proofs.Try.prog [] (Instr.loadAt 74 (Value.pointer (some (Addr.mk ad28.block (ad28.off + 2) none)))) w27 (Value.map r29) ∧
 ∃ (x30 : Int),
 ∃ (x31 : Int),
 ∃ (x32 : Int),
 Reads Proofs.Try.prog [] (Instr.lookup 74 (Value.map r29) (Value.int IntKind.i64 x24) false) w27
 (Value.agg #[Value.int IntKind.i64 x30, Value.int IntKind.i64 x31, Value.int IntKind.i64 x32]) ∧
 ∀ (n33 : Nat),
 w27.heap.size ≤ n33 →
 ∃ (r34 : Option Nat),
 Reads Proofs.Try.prog [n33] (Instr.loadAt 73 (Value.pointer (some ad9))) w27 (Value.map r34) ∧
 ∀ (w35 : World),
 Evo [n33] w27 w35 →
 Under [n33] w35 →
 OpW Proofs.Try.prog
 (valueS (Instr.buildSlice 49 1 #[(0, Value.agg #[Value.int IntKind.i64 x30, Value.int IntKind.i64 x31, Value.int IntKind.i64 x32])])) w35
 fun (v36 : Value) (w37 : World) =>
 ∃ (a38 : Option Addr),
 ∃ (n39 : Nat),
 ∃ (n40 : Nat),
 v36 = Value.slice a38 n39 n40 ∧
 Keeps [n33] w35 w37 ∧
 Reads Proofs.Try.prog [] (Instr.loadAt 73 (Value.pointer (some ad9))) w37 (Value.map r34) ∧
 OpW Proofs.Try.prog (builtin Builtin.append #[49, 49] 49 #[false, false] #[Value.slice a21 n22 n23, Value.slice a38 n39 n40]) w37
 fun (v41 : Value) (w42 : World) =>
 ∃ (a43 : Option Addr),
 ∃ (n44 : Nat),
 ∃ (n45 : Nat),
 v41 = Value.slice a43 n44 n45 ∧
 Keeps [n33] w37 w42 ∧
 Reads Proofs.Try.prog [] (Instr.loadAt 73 (Value.pointer (some ad9))) w42 (Value.map r34) ∧
 OpW Proofs.Try.prog
 (skipS
 (Instr.mapUpdate 73 (Value.map r34)
 (Value.agg #[Value.int IntKind.i64 x30, Value.int IntKind.i64 x31, Value.int IntKind.i64 x32])
 (Value.int IntKind.i64 x25)))
 w42 fun (v46 : Value) (w47 : World) =>
 Keeps [n33] w42 w47 ∧
 Calls Proofs.Try.prog 43
 #[Value.pointer a, Value.agg #[Value.int IntKind.i64 x30, Value.int IntKind.i64 x31, Value.int IntKind.i64 x32]] w47
 fun (e48 : Ending) (w49 : World) =>
 ∃ (b50 : Bool),
 e48 = Ending.returned (Value.bool b50) ∧
 Keeps [n33] w47 w49 ∧
 ∃ (ad51 : Addr),
 a = some ad51 ∧
 ∃ (a52 : Option Addr),
 Reads Proofs.Try.prog [] (Instr.loadAt 23 (Value.pointer (some ad51))) w49 (Value.pointer a52) ∧
 Calls Proofs.Try.prog 18 #[Value.pointer a52] w49 fun (e53 : Ending) (w54 : World) =>
 ∃ (x55 : Int),
 ∃ (x56 : Int),
 ∃ (b57 : Bool),
 e53 =
 Ending.returned
 (Value.tuple #[Value.int IntKind.i64 x55, Value.int IntKind.i64 x56, Value.bool b57]) ∧
 Keeps [n33] w49 w54 ∧
 J19 ((a43, n44, n45), x55, x56, b57, ()) w54 ∧
 J20 ((a43, n44, n45), x55, x56, b57, ()) w54 <
 J20 ((a21, n22, n23), x24, x25, b26, ()) w27) ∧
 (decide (x25 ≤ now) = false →
 Calls Proofs.Try.prog 41 #[Value.slice a21 n22 n23, Value.func (Fn.func 44) #[] #[Value.pointer (some ad9)]] w27 fun (e58 : Ending) (w59 : World) =>
 e58 = Ending.returned (Value.tuple #[]) ∧ R (Ending.returned (Value.slice a21 n22 n23)) w59)) ∧
 (b26 = false →
 Calls Proofs.Try.prog 41 #[Value.slice a21 n22 n23, Value.func (Fn.func 44) #[] #[Value.pointer (some ad9)]] w27 fun (e60 : Ending) (w61 : World) =>
 e60 = Ending.returned (Value.tuple #[]) ∧ R (Ending.returned (Value.slice a21 n22 n23)) w61))
theorem f24_eq (a : Option Addr) (now : Int) (w : World) (R : Ending → World → Prop) : (fnF Go.Proofs.Try.prog h24 Go.Proofs.Try.f24 [Value.pointer a, Value.int IntKind.i64 now] w R).den = f24_vc a now w R := by kernel_rfl
theorem f24_calls (a : Option Addr) (now : Int) (w : World) (R : Ending → World → Prop) (h : f24_vc a now w R) : Calls Go.Proofs.Try.prog 24 (List.toArray [Value.pointer a, Value.int IntKind.i64 now]) w R :=
 fn_sound (H := h24) (fn := Go.Proofs.Try.f24) (by kernel_rfl) (by kernel_rfl) (by kernel_rfl) ((f24_eq a now w R).mpr h)


/-! manciple/manciplelaw12.works -/
def h25 : Hints := ⟨[2, 3], [33, 40], [12, 17, 26, 31, 38, 45], [(5, [0, 1, 2, 3, 4, 5, 6, 7, 8, 9, 10, 11, 12, 13, 14, 15, 16, 17, 18, 19, 20, 21, 22, 23, 24, 25, 26])], [], [], [], [], []⟩
def f25_vc  (w : World) (R : Ending → World → Prop) : Prop :=
 Calls Proofs.Try.prog 21 #[] w fun (e1 : Ending) (w2 : World) =>
 ∃ (a3 : Option Addr),
 e1 = Ending.returned (Value.pointer a3) ∧
 ∀ (n4 : Nat),
 w2.heap.size ≤ n4 →
 ∀ (n5 : Nat),
 w2.heap.size ≤ n5 →
 ∀ (w6 : World),
 Evo [n5, n4] w2 w6 →
 Under [n4, n5] w6 →
 Calls Proofs.Try.prog 22 #[Value.pointer a3, Value.agg #[Value.int IntKind.i64 2, Value.int IntKind.i64 5, Value.int IntKind.i64 0], Value.int IntKind.i64 10] w6 fun (e7 : Ending) (w8 : World) =>
 ∃ (b9 : Bool),
 e7 = Ending.returned (Value.bool b9) ∧
 Keeps [n4, n5] w6 w8 ∧
 (b9 = true →
 Calls Proofs.Try.prog 22 #[Value.pointer a3, Value.agg #[Value.int IntKind.i64 1, Value.int IntKind.i64 9, Value.int IntKind.i64 9], Value.int IntKind.i64 10] w8 fun (e10 : Ending) (w11 : World) =>
 ∃ (b12 : Bool),
 e10 = Ending.returned (Value.bool b12) ∧
 Keeps [n4, n5] w8 w11 ∧
 (b12 = true →
 Calls Proofs.Try.prog 22 #[Value.pointer a3, Value.agg #[Value.int IntKind.i64 2, Value.int IntKind.i64 5, Value.int IntKind.i64 0], Value.int IntKind.i64 10] w11
 fun (e13 : Ending) (w14 : World) =>
 ∃ (b15 : Bool),
 e13 = Ending.returned (Value.bool b15) ∧
 Keeps [n4, n5] w11 w14 ∧
 Calls Proofs.Try.prog 24 #[Value.pointer a3, Value.int IntKind.i64 10] w14 fun (e16 : Ending) (w17 : World) =>
 ∃ (a18 : Option Addr),
 ∃ (n19 : Nat),
 ∃ (n20 : Nat),
 e16 = Ending.returned (Value.slice a18 n19 n20) ∧
 Keeps [n4, n5] w14 w17 ∧
 ((!b15) = true →
 (((↑n19 : Int) == 2) = true →
 ∃ (ad21 : Addr),
 Gives Proofs.Try.prog (Instr.indexAt 49 (Value.slice a18 n19 n20) (Value.int IntKind.i64 0)) (Value.pointer (some ad21)) ∧
 ∃ (x22 : Int),
 ∃ (x23 : Int),
 ∃ (x24 : Int),
 Reads Proofs.Try.prog [] (Instr.loadAt 54 (Value.pointer (some ad21))) w17
 (Value.agg #[Value.int IntKind.i64 x22, Value.int IntKind.i64 x23, Value.int IntKind.i64 x24]) ∧
 ((x22 == 1 && (x23 == 9 && (x24 == 9 && true))) = true →
 ∃ (ad25 : Addr),
 Gives Proofs.Try.prog (Instr.indexAt 49 (Value.slice a18 n19 n20) (Value.int IntKind.i64 1)) (Value.pointer (some ad25)) ∧
 ∃ (x26 : Int),
 ∃ (x27 : Int),
 ∃ (x28 : Int),
 Reads Proofs.Try.prog [] (Instr.loadAt 54 (Value.pointer (some ad25))) w17
 (Value.agg #[Value.int IntKind.i64 x26, Value.int IntKind.i64 x27, Value.int IntKind.i64 x28]) ∧
 ((x26 == 2 && (x27 == 5 && (x28 == 0 && true))) = true →
 ∀ (w29 : World),
 Bel w17 w29 →
 Under [n4, n5] w29 →
 Calls Proofs.Try.prog 23 #[Value.pointer a3] w29 fun (e30 : Ending) (w31 : World) =>
 ∃ (a32 : Option Addr),
 ∃ (n33 : Nat),
 ∃ (n34 : Nat),
 e30 = Ending.returned (Value.slice a32 n33 n34) ∧
 Keeps [n4, n5] w29 w31 ∧
 Reads Proofs.Try.prog [] (Instr.loadAt 54 (Value.pointer (some ad25))) w31
 (Value.agg #[Value.int IntKind.i64 x26, Value.int IntKind.i64 x27, Value.int IntKind.i64 x28]) ∧
 Reads Proofs.Try.prog [] (Instr.loadAt 54 (Value.pointer (some ad21))) w31
 (Value.agg #[Value.int IntKind.i64 x22, Value.int IntKind.i64 x23, Value.int IntKind.i64 x24]) ∧
 R (Ending.returned (Value.bool ((↑n33 : Int) == 0))) w31) ∧
 ((x26 == 2 && (x27 == 5 && (x28 == 0 && true))) = false →
 ∀ (w35 : World), Bel w17 w35 → Under [n4, n5] w35 → R (Ending.returned (Value.bool false)) w35)) ∧
 ((x22 == 1 && (x23 == 9 && (x24 == 9 && true))) = false →
 ∀ (w36 : World), Bel w17 w36 → Under [n4, n5] w36 → R (Ending.returned (Value.bool false)) w36)) ∧
 (((↑n19 : Int) == 2) = false → ∀ (w37 : World), Bel w17 w37 → Under [n4, n5] w37 → R (Ending.returned (Value.bool false)) w37)) ∧
 ((!b15) = false → ∀ (w38 : World), Bel w17 w38 → Under [n4, n5] w38 → R (Ending.returned (Value.bool false)) w38)) ∧
 (b12 = false →
 Calls Proofs.Try.prog 24 #[Value.pointer a3, Value.int IntKind.i64 10] w11 fun (e39 : Ending) (w40 : World) =>
 ∃ (a41 : Option Addr),
 ∃ (n42 : Nat),
 ∃ (n43 : Nat), e39 = Ending.returned (Value.slice a41 n42 n43) ∧ Keeps [n4, n5] w11 w40 ∧ ∀ (w44 : World), Bel w40 w44 → Under [n4, n5] w44 → R (Ending.returned (Value.bool false)) w44)) ∧
 (b9 = false →
 Calls Proofs.Try.prog 24 #[Value.pointer a3, Value.int IntKind.i64 10] w8 fun (e45 : Ending) (w46 : World) =>
 ∃ (a47 : Option Addr),
 ∃ (n48 : Nat), ∃ (n49 : Nat), e45 = Ending.returned (Value.slice a47 n48 n49) ∧ Keeps [n4, n5] w8 w46 ∧ ∀ (w50 : World), Bel w46 w50 → Under [n4, n5] w50 → R (Ending.returned (Value.bool false)) w50)
theorem f25_eq  (w : World) (R : Ending → World → Prop) : (fnF Go.Proofs.Try.prog h25 Go.Proofs.Try.f25 [] w R).den = f25_vc  w R := by kernel_rfl
theorem f25_calls  (w : World) (R : Ending → World → Prop) (h : f25_vc  w R) : Calls Go.Proofs.Try.prog 25 (List.toArray []) w R :=
 fn_sound (H := h25) (fn := Go.Proofs.Try.f25) (by kernel_rfl) (by kernel_rfl) (by kernel_rfl) ((f25_eq  w R).mpr h)


/-! manciple/manciplelaw12.does -/
def h26 : Hints := ⟨[5], [83, 94, 101], [19, 38, 51, 89, 80], [(4, [0, 1, 2, 4, 5, 8, 9, 10, 11, 12, 14, 15, 3, 6, 7, 13, 16, 17, 18]), (6, [0, 1, 2, 5, 6, 7, 9, 3, 4, 8, 10, 11, 12]), (11, [0, 1, 2, 3, 4, 5, 6, 7, 8, 9, 10, 11, 12, 13]), (13, [0, 1, 2, 3, 4, 5, 7, 8, 9, 6, 10, 11, 12])], [], [(11, ⟨[(10, .int .i64)], []⟩)], [], [], []⟩
def f26_vc (a : Option Addr) (la : Option Addr) (ln : Nat) (lc : Nat) (x_0 : Int) (x_1 : Int) (x_2 : Int) (x_3 : Int) (x_4 : Int) (w : World) (R : Ending → World → Prop) : Prop :=
 ∀ (n1 : Nat),
 w.heap.size ≤ n1 →
 ∀ (w2 : World),
 Bel w w2 →
 Under [n1] w2 →
 Calls Proofs.Try.prog 29 #[Value.agg #[Value.int IntKind.i64 x_1, Value.int IntKind.i64 x_2, Value.int IntKind.i64 x_3]] w2 fun (e3 : Ending) (w4 : World) =>
 ∃ (x5 : Int),
 ∃ (x6 : Int),
 ∃ (x7 : Int),
 e3 = Ending.returned (Value.agg #[Value.int IntKind.i64 x5, Value.int IntKind.i64 x6, Value.int IntKind.i64 x7]) ∧
 Keeps [n1] w2 w4 ∧
 Calls Proofs.Try.prog 28 #[Value.slice la ln lc, Value.agg #[Value.int IntKind.i64 x5, Value.int IntKind.i64 x6, Value.int IntKind.i64 x7]] w4 fun (e8 : Ending) (w9 : World) =>
 ∃ (x10 : Int),
 e8 = Ending.returned (Value.int IntKind.i64 x10) ∧
 Keeps [n1] w4 w9 ∧
 ((x_0 == 0) = true →
 ∀ (w11 : World),
 Bel w9 w11 →
 Under [n1] w11 →
 Calls Proofs.Try.prog 29 #[Value.agg #[Value.int IntKind.i64 x_1, Value.int IntKind.i64 x_2, Value.int IntKind.i64 x_3]] w11 fun (e12 : Ending) (w13 : World) =>
 ∃ (x14 : Int),
 ∃ (x15 : Int),
 ∃ (x16 : Int),
 e12 = Ending.returned (Value.agg #[Value.int IntKind.i64 x14, Value.int IntKind.i64 x15, Value.int IntKind.i64 x16]) ∧
 Keeps [n1] w11 w13 ∧
 Calls Proofs.Try.prog 45 #[Value.slice la ln lc, Value.agg #[Value.int IntKind.i64 x14, Value.int IntKind.i64 x15, Value.int IntKind.i64 x16, Value.int IntKind.i64 x_4]] w13
 fun (e17 : Ending) (w18 : World) =>
 ∃ (a19 : Option Addr),
 ∃ (n20 : Nat),
 ∃ (n21 : Nat),
 e17 = Ending.returned (Value.slice a19 n20 n21) ∧
 Keeps [n1] w13 w18 ∧
 Calls Proofs.Try.prog 22 #[Value.pointer a, Value.agg #[Value.int IntKind.i64 x_1, Value.int IntKind.i64 x_2, Value.int IntKind.i64 x_3], Value.int IntKind.i64 x_4] w18
 fun (e22 : Ending) (w23 : World) =>
 ∃ (b24 : Bool),
 e22 = Ending.returned (Value.bool b24) ∧ Keeps [n1] w18 w23 ∧ R (Ending.returned (Value.tuple #[Value.slice a19 n20 n21, Value.bool (b24 == !decide (x10 ≥ 0))])) w23) ∧
 ((x_0 == 0) = false →
 ((x_0 == 1) = true →
 ∀ (w25 : World),
 Bel w9 w25 →
 Under [n1] w25 →
 Calls Proofs.Try.prog 29 #[Value.agg #[Value.int IntKind.i64 x_1, Value.int IntKind.i64 x_2, Value.int IntKind.i64 x_3]] w25 fun (e26 : Ending) (w27 : World) =>
 ∃ (x28 : Int),
 ∃ (x29 : Int),
 ∃ (x30 : Int),
 e26 = Ending.returned (Value.agg #[Value.int IntKind.i64 x28, Value.int IntKind.i64 x29, Value.int IntKind.i64 x30]) ∧
 Keeps [n1] w25 w27 ∧
 Calls Proofs.Try.prog 46 #[Value.slice la ln lc, Value.agg #[Value.int IntKind.i64 x28, Value.int IntKind.i64 x29, Value.int IntKind.i64 x30]] w27 fun (e31 : Ending) (w32 : World) =>
 ∃ (a33 : Option Addr),
 ∃ (n34 : Nat),
 ∃ (n35 : Nat),
 e31 = Ending.returned (Value.slice a33 n34 n35) ∧
 Keeps [n1] w27 w32 ∧
 Calls Proofs.Try.prog 43 #[Value.pointer a, Value.agg #[Value.int IntKind.i64 x_1, Value.int IntKind.i64 x_2, Value.int IntKind.i64 x_3]] w32
 fun (e36 : Ending) (w37 : World) =>
 ∃ (b38 : Bool),
 e36 = Ending.returned (Value.bool b38) ∧ Keeps [n1] w32 w37 ∧ R (Ending.returned (Value.tuple #[Value.slice a33 n34 n35, Value.bool (b38 == decide (x10 ≥ 0))])) w37) ∧
 ((x_0 == 1) = false →
 ((x_0 == 2) = true →
 Calls Proofs.Try.prog 47 #[Value.slice la ln lc, Value.int IntKind.i64 x_1, Value.int IntKind.i64 x_2] w9 fun (e39 : Ending) (w40 : World) =>
 ∃ (a41 : Option Addr),
 ∃ (n42 : Nat),
 ∃ (n43 : Nat),
 e39 = Ending.returned (Value.slice a41 n42 n43) ∧
 Keeps [n1] w9 w40 ∧
 Calls Proofs.Try.prog 31 #[Value.pointer a, Value.int IntKind.i64 x_1, Value.int IntKind.i64 x_2] w40 fun (e44 : Ending) (w45 : World) =>
 ∃ (x46 : Int),
 e44 = Ending.returned (Value.int IntKind.i64 x46) ∧
 Keeps [n1] w40 w45 ∧ R (Ending.returned (Value.tuple #[Value.slice a41 n42 n43, Value.bool (x46 == IntKind.i64.wrap ((↑ln : Int) - (↑n42 : Int)))])) w45) ∧
 ((x_0 == 2) = false →
 ∃ (J47 : Int × Unit → World → Prop),
 ∃ (J48 : Int × Unit → World → Nat),
 J47 (0, ()) w9 ∧
 ∀ (x49 : Int) (w50 : World),
 J47 (x49, ()) w50 →
 (decide (x49 < (↑ln : Int)) = true →
 ∃ (ad51 : Addr),
 Gives Proofs.Try.prog (Instr.indexAt 59 (Value.slice la ln lc) (Value.int IntKind.i64 x49)) (Value.pointer (some ad51)) ∧
 ∃ (x52 : Int),
 Reads Proofs.Try.prog [] (Instr.loadAt 2 (Value.pointer (some (Addr.mk ad51.block (ad51.off + 3) none)))) w50 (Value.int IntKind.i64 x52) ∧
 (decide (x52 ≤ x_4) = true →
 ∀ (w53 : World), Bel w50 w53 → Under [n1] w53 → J47 (IntKind.i64.wrap (x49 + 1), ()) w53 ∧ J48 (IntKind.i64.wrap (x49 + 1), ()) w53 < J48 (x49, ()) w50) ∧
 (decide (x52 ≤ x_4) = false →
 ∃ (a54 : Option Addr),
 ∃ (n55 : Nat),
 ∃ (n56 : Nat),
 Gives Proofs.Try.prog (Instr.sliceAt 59 (Value.slice la ln lc) (some (Value.int IntKind.i64 x49)) none none) (Value.slice a54 n55 n56) ∧
 ∃ (a57 : Option Addr),
 ∃ (n58 : Nat),
 ∃ (n59 : Nat),
 Gives Proofs.Try.prog (Instr.sliceAt 59 (Value.slice la ln lc) none (some (Value.int IntKind.i64 x49)) none) (Value.slice a57 n58 n59) ∧
 ∀ (w60 : World),
 Bel w50 w60 →
 Under [n1] w60 →
 Calls Proofs.Try.prog 24 #[Value.pointer a, Value.int IntKind.i64 x_4] w60 fun (e61 : Ending) (w62 : World) =>
 ∃ (a63 : Option Addr),
 ∃ (n64 : Nat),
 ∃ (n65 : Nat),
 e61 = Ending.returned (Value.slice a63 n64 n65) ∧
 Keeps [n1] w60 w62 ∧
 Calls Proofs.Try.prog 30 #[Value.slice a63 n64 n65, Value.slice a57 n58 n59] w62 fun (e66 : Ending) (w67 : World) =>
 ∃ (b68 : Bool),
 e66 = Ending.returned (Value.bool b68) ∧
 Keeps [n1] w62 w67 ∧ R (Ending.returned (Value.tuple #[Value.slice a54 n55 n56, Value.bool b68])) w67)) ∧
 (decide (x49 < (↑ln : Int)) = false →
 ∃ (a69 : Option Addr),
 ∃ (n70 : Nat),
 ∃ (n71 : Nat),
 Gives Proofs.Try.prog (Instr.sliceAt 59 (Value.slice la ln lc) (some (Value.int IntKind.i64 x49)) none none) (Value.slice a69 n70 n71) ∧
 ∃ (a72 : Option Addr),
 ∃ (n73 : Nat),
 ∃ (n74 : Nat),
 Gives Proofs.Try.prog (Instr.sliceAt 59 (Value.slice la ln lc) none (some (Value.int IntKind.i64 x49)) none) (Value.slice a72 n73 n74) ∧
 ∀ (w75 : World),
 Bel w50 w75 →
 Under [n1] w75 →
 Calls Proofs.Try.prog 24 #[Value.pointer a, Value.int IntKind.i64 x_4] w75 fun (e76 : Ending) (w77 : World) =>
 ∃ (a78 : Option Addr),
 ∃ (n79 : Nat),
 ∃ (n80 : Nat),
 e76 = Ending.returned (Value.slice a78 n79 n80) ∧
 Keeps [n1] w75 w77 ∧
 Calls Proofs.Try.prog 30 #[Value.slice a78 n79 n80, Value.slice a72 n73 n74] w77 fun (e81 : Ending) (w82 : World) =>
 ∃ (b83 : Bool),
 e81 = Ending.returned (Value.bool b83) ∧ Keeps [n1] w77 w82 ∧ R (Ending.returned (Value.tuple #[Value.slice a69 n70 n71, Value.bool b83])) w82))))
theorem f26_eq (a : Option Addr) (la : Option Addr) (ln : Nat) (lc : Nat) (x_0 : Int) (x_1 : Int) (x_2 : Int) (x_3 : Int) (x_4 : Int) (w : World) (R : Ending → World → Prop) : (fnF Go.Proofs.Try.prog h26 Go.Proofs.Try.f26 [Value.pointer a, Value.slice la ln lc, Value.agg #[Value.int IntKind.i64 x_0, Value.int IntKind.i64 x_1, Value.int IntKind.i64 x_2, Value.int IntKind.i64 x_3, Value.int IntKind.i64 x_4]] w R).den = f26_vc a la ln lc x_0 x_1 x_2 x_3 x_4 w R := by kernel_rfl
theorem f26_calls (a : Option Addr) (la : Option Addr) (ln : Nat) (lc : Nat) (x_0 : Int) (x_1 : Int) (x_2 : Int) (x_3 : Int) (x_4 : Int) (w : World) (R : Ending → World → Prop) (h : f26_vc a la ln lc x_0 x_1 x_2 x_3 x_4 w R) : Calls Go.Proofs.Try.prog 26 (List.toArray [Value.pointer a, Value.slice la ln lc, Value.agg #[Value.int IntKind.i64 x_0, Value.int IntKind.i64 x_1, Value.int IntKind.i64 x_2, Value.int IntKind.i64 x_3, Value.int IntKind.i64 x_4]]) w R :=
 fn_sound (H := h26) (fn := Go.Proofs.Try.f26) (by kernel_rfl) (by kernel_rfl) (by kernel_rfl) ((f26_eq a la ln lc x_0 x_1 x_2 x_3 x_4 w R).mpr h)


/-! (*manciple/alarm.Alarms).At -/
def h27 : Hints := ⟨[3], [13, 23], [10, 21], [(3, [0, 1, 2, 3, 4, 5, 6, 7, 8, 9, 10])], [], [], [], [], []⟩
def f27_vc (a : Option Addr) (k_0 : Int) (k_1 : Int) (k_2 : Int) (w : World) (R : Ending → World → Prop) : Prop :=
 ∀ (n1 : Nat),
 w.heap.size ≤ n1 →
 ∀ (w2 : World),
 Bel w w2 →
 Under [n1] w2 →
 Calls Proofs.Try.prog 40 #[Value.pointer a] w2 fun (e3 : Ending) (w4 : World) =>
 ∃ (b5 : Bool),
 e3 = Ending.returned (Value.bool b5) ∧
 Keeps [n1] w2 w4 ∧
 ((!b5) = true → R (Ending.returned (Value.tuple #[Value.int IntKind.i64 0, Value.bool false])) w4) ∧
 ((!b5) = false →
 ∃ (ad6 : Addr),
 a = some ad6 ∧
 ∃ (r7 : Option Nat),
 Reads Proofs.Try.prog [] (Instr.loadAt 73 (Value.pointer (some (Addr.mk ad6.block (ad6.off + 1) none)))) w4 (Value.map r7) ∧
 ∃ (x8 : Int),
 ∃ (b9 : Bool),
 Reads Proofs.Try.prog [] (Instr.lookup 73 (Value.map r7) (Value.agg #[Value.int IntKind.i64 k_0, Value.int IntKind.i64 k_1, Value.int IntKind.i64 k_2]) true) w4
 (Value.tuple #[Value.int IntKind.i64 x8, Value.bool b9]) ∧
 ((!b9) = true → ∀ (w10 : World), Bel w4 w10 → Under [n1] w10 → R (Ending.returned (Value.tuple #[Value.int IntKind.i64 0, Value.bool false])) w10) ∧
 ((!b9) = false →
 ∃ (ad11 : Addr),
 a = some ad11 ∧
 ∃ (a12 : Option Addr),
 Reads Proofs.Try.prog [] (Instr.loadAt 23 (Value.pointer (some ad11))) w4 (Value.pointer a12) ∧
 ∀ (w13 : World),
 Bel w4 w13 →
 Under [n1] w13 →
 Calls Proofs.Try.prog 19 #[Value.pointer a12, Value.int IntKind.i64 x8] w13 fun (e14 : Ending) (w15 : World) =>
 ∃ (x16 : Int),
 ∃ (b17 : Bool),
 e14 = Ending.returned (Value.tuple #[Value.int IntKind.i64 x16, Value.bool b17]) ∧
 Keeps [n1] w13 w15 ∧ R (Ending.returned (Value.tuple #[Value.int IntKind.i64 x16, Value.bool b17])) w15))
theorem f27_eq (a : Option Addr) (k_0 : Int) (k_1 : Int) (k_2 : Int) (w : World) (R : Ending → World → Prop) : (fnF Go.Proofs.Try.prog h27 Go.Proofs.Try.f27 [Value.pointer a, Value.agg #[Value.int IntKind.i64 k_0, Value.int IntKind.i64 k_1, Value.int IntKind.i64 k_2]] w R).den = f27_vc a k_0 k_1 k_2 w R := by kernel_rfl
theorem f27_calls (a : Option Addr) (k_0 : Int) (k_1 : Int) (k_2 : Int) (w : World) (R : Ending → World → Prop) (h : f27_vc a k_0 k_1 k_2 w R) : Calls Go.Proofs.Try.prog 27 (List.toArray [Value.pointer a, Value.agg #[Value.int IntKind.i64 k_0, Value.int IntKind.i64 k_1, Value.int IntKind.i64 k_2]]) w R :=
 fn_sound (H := h27) (fn := Go.Proofs.Try.f27) (by kernel_rfl) (by kernel_rfl) (by kernel_rfl) ((f27_eq a k_0 k_1 k_2 w R).mpr h)


/-! manciple/mancipleref12.Find -/
def h28 : Hints := ⟨[3], [14], [9, 18], [(4, [0, 1, 2, 3, 4, 5, 6])], [], [(2, ⟨[(5, .int .i64)], []⟩)], [], [], []⟩
def f28_vc (la : Option Addr) (ln : Nat) (lc : Nat) (k_0 : Int) (k_1 : Int) (k_2 : Int) (w : World) (R : Ending → World → Prop) : Prop :=
 ∀ (n1 : Nat),
 w.heap.size ≤ n1 →
 ∃ (J2 : Int × Unit → World → Prop),
 ∃ (J3 : Int × Unit → World → Nat),
 (∀ (w4 : World), Bel w w4 → Under [n1] w4 → J2 (0, ()) w4) ∧
 ∀ (x5 : Int) (w6 : World),
 J2 (x5, ()) w6 →
 (decide (x5 < (↑ln : Int)) = true →
 ∃ (ad7 : Addr),
 Gives Proofs.Try.prog (Instr.indexAt 59 (Value.slice la ln lc) (Value.int IntKind.i64 x5)) (Value.pointer (some ad7)) ∧
 ∃ (x8 : Int),
 ∃ (x9 : Int),
 ∃ (x10 : Int),
 Reads Proofs.Try.prog [] (Instr.loadAt 66 (Value.pointer (some ad7))) w6 (Value.agg #[Value.int IntKind.i64 x8, Value.int IntKind.i64 x9, Value.int IntKind.i64 x10]) ∧
 ((x8 == k_0 && (x9 == k_1 && (x10 == k_2 && true))) = true → ∀ (w11 : World), Bel w6 w11 → Under [n1] w11 → R (Ending.returned (Value.int IntKind.i64 x5)) w11) ∧
 ((x8 == k_0 && (x9 == k_1 && (x10 == k_2 && true))) = false →
 ∀ (w12 : World), Bel w6 w12 → Under [n1] w12 → J2 (IntKind.i64.wrap (x5 + 1), ()) w12 ∧ J3 (IntKind.i64.wrap (x5 + 1), ()) w12 < J3 (x5, ()) w6)) ∧
 (decide (x5 < (↑ln : Int)) = false → R (Ending.returned (Value.int IntKind.i64 (-1))) w6)
theorem f28_eq (la : Option Addr) (ln : Nat) (lc : Nat) (k_0 : Int) (k_1 : Int) (k_2 : Int) (w : World) (R : Ending → World → Prop) : (fnF Go.Proofs.Try.prog h28 Go.Proofs.Try.f28 [Value.slice la ln lc, Value.agg #[Value.int IntKind.i64 k_0, Value.int IntKind.i64 k_1, Value.int IntKind.i64 k_2]] w R).den = f28_vc la ln lc k_0 k_1 k_2 w R := by kernel_rfl
theorem f28_calls (la : Option Addr) (ln : Nat) (lc : Nat) (k_0 : Int) (k_1 : Int) (k_2 : Int) (w : World) (R : Ending → World → Prop) (h : f28_vc la ln lc k_0 k_1 k_2 w R) : Calls Go.Proofs.Try.prog 28 (List.toArray [Value.slice la ln lc, Value.agg #[Value.int IntKind.i64 k_0, Value.int IntKind.i64 k_1, Value.int IntKind.i64 k_2]]) w R :=
 fn_sound (H := h28) (fn := Go.Proofs.Try.f28) (by kernel_rfl) (by kernel_rfl) (by kernel_rfl) ((f28_eq la ln lc k_0 k_1 k_2 w R).mpr h)


/-! manciple/manciplelaw12.key -/
def h29 : Hints := ⟨[1, 2], [], [], [], [], [], [], [], []⟩
def f29_vc (k_0 : Int) (k_1 : Int) (k_2 : Int) (w : World) (R : Ending → World → Prop) : Prop :=
 ∀ (n1 : Nat), w.heap.size ≤ n1 → ∀ (n2 : Nat), w.heap.size ≤ n2 → ∀ (w3 : World), Evo [n2] w w3 → Under [n1, n2] w3 → R (Ending.returned (Value.agg #[Value.int IntKind.i64 k_0, Value.int IntKind.i64 k_1, Value.int IntKind.i64 k_2])) w3
theorem f29_eq (k_0 : Int) (k_1 : Int) (k_2 : Int) (w : World) (R : Ending → World → Prop) : (fnF Go.Proofs.Try.prog h29 Go.Proofs.Try.f29 [Value.agg #[Value.int IntKind.i64 k_0, Value.int IntKind.i64 k_1, Value.int IntKind.i64 k_2]] w R).den = f29_vc k_0 k_1 k_2 w R := by kernel_rfl
theorem f29_calls (k_0 : Int) (k_1 : Int) (k_2 : Int) (w : World) (R : Ending → World → Prop) (h : f29_vc k_0 k_1 k_2 w R) : Calls Go.Proofs.Try.prog 29 (List.toArray [Value.agg #[Value.int IntKind.i64 k_0, Value.int IntKind.i64 k_1, Value.int IntKind.i64 k_2]]) w R :=
 fn_sound (H := h29) (fn := Go.Proofs.Try.f29) (by kernel_rfl) (by kernel_rfl) (by kernel_rfl) ((f29_eq k_0 k_1 k_2 w R).mpr h)


/-! manciple/manciplelaw12.alike -/
def h30 : Hints := ⟨[], [19, 24], [10, 14, 27], [(6, [0, 1, 2, 3, 5, 6, 7, 8, 9, 4, 10])], [], [(4, ⟨[(5, .int .i64)], []⟩)], [], [], []⟩
def f30_vc (aa : Option Addr) (an : Nat) (ac : Nat) (la : Option Addr) (ln : Nat) (lc : Nat) (w : World) (R : Ending → World → Prop) : Prop :=
 (((↑an : Int) != (↑ln : Int)) = true → R (Ending.returned (Value.bool false)) w) ∧
 (((↑an : Int) != (↑ln : Int)) = false →
 ∃ (J1 : Int × Unit → World → Prop),
 ∃ (J2 : Int × Unit → World → Nat),
 J1 (0, ()) w ∧
 ∀ (x3 : Int) (w4 : World),
 J1 (x3, ()) w4 →
 (decide (x3 < (↑an : Int)) = true →
 ∃ (ad5 : Addr),
 Gives Proofs.Try.prog (Instr.indexAt 49 (Value.slice aa an ac) (Value.int IntKind.i64 x3)) (Value.pointer (some ad5)) ∧
 ∃ (x6 : Int),
 ∃ (x7 : Int),
 ∃ (x8 : Int),
 Reads Proofs.Try.prog [] (Instr.loadAt 54 (Value.pointer (some ad5))) w4 (Value.agg #[Value.int IntKind.i64 x6, Value.int IntKind.i64 x7, Value.int IntKind.i64 x8]) ∧
 ∃ (ad9 : Addr),
 Gives Proofs.Try.prog (Instr.indexAt 59 (Value.slice la ln lc) (Value.int IntKind.i64 x3)) (Value.pointer (some ad9)) ∧
 ∃ (x10 : Int),
 ∃ (x11 : Int),
 ∃ (x12 : Int),
 Reads Proofs.Try.prog [] (Instr.loadAt 66 (Value.pointer (some ad9))) w4 (Value.agg #[Value.int IntKind.i64 x10, Value.int IntKind.i64 x11, Value.int IntKind.i64 x12]) ∧
 ∀ (w13 : World),
 Bel w4 w13 →
 Calls Proofs.Try.prog 29 #[Value.agg #[Value.int IntKind.i64 x6, Value.int IntKind.i64 x7, Value.int IntKind.i64 x8]] w13 fun (e14 : Ending) (w15 : World) =>
 ∃ (x16 : Int),
 ∃ (x17 : Int),
 ∃ (x18 : Int),
 e14 = Ending.returned (Value.agg #[Value.int IntKind.i64 x16, Value.int IntKind.i64 x17, Value.int IntKind.i64 x18]) ∧
 Reads Proofs.Try.prog [] (Instr.loadAt 66 (Value.pointer (some ad9))) w15 (Value.agg #[Value.int IntKind.i64 x10, Value.int IntKind.i64 x11, Value.int IntKind.i64 x12]) ∧
 ((!(x16 == x10 && (x17 == x11 && (x18 == x12 && true)))) = true → R (Ending.returned (Value.bool false)) w15) ∧
 ((!(x16 == x10 && (x17 == x11 && (x18 == x12 && true)))) = false → J1 (IntKind.i64.wrap (x3 + 1), ()) w15 ∧ J2 (IntKind.i64.wrap (x3 + 1), ()) w15 < J2 (x3, ()) w4)) ∧
 (decide (x3 < (↑an : Int)) = false → R (Ending.returned (Value.bool true)) w4))
theorem f30_eq (aa : Option Addr) (an : Nat) (ac : Nat) (la : Option Addr) (ln : Nat) (lc : Nat) (w : World) (R : Ending → World → Prop) : (fnF Go.Proofs.Try.prog h30 Go.Proofs.Try.f30 [Value.slice aa an ac, Value.slice la ln lc] w R).den = f30_vc aa an ac la ln lc w R := by kernel_rfl
theorem f30_calls (aa : Option Addr) (an : Nat) (ac : Nat) (la : Option Addr) (ln : Nat) (lc : Nat) (w : World) (R : Ending → World → Prop) (h : f30_vc aa an ac la ln lc w R) : Calls Go.Proofs.Try.prog 30 (List.toArray [Value.slice aa an ac, Value.slice la ln lc]) w R :=
 fn_sound (H := h30) (fn := Go.Proofs.Try.f30) (by kernel_rfl) (by kernel_rfl) (by kernel_rfl) ((f30_eq aa an ac la ln lc w R).mpr h)


/-! (*manciple/alarm.Alarms).made -/
def h40 : Hints := ⟨[], [4, 7, 10], [5], [], [], [], [], [], []⟩
def f40_vc (a : Option Addr) (w : World) (R : Ending → World → Prop) : Prop :=
 ∃ (b1 : Bool),
 Gives Proofs.Try.prog (binOpS BinOp.neq 50 (Operand.tmp 3) (Operand.const (Value.pointer none)) (Value.pointer a) (Value.pointer none)) (Value.bool b1) ∧
 (b1 = true →
 ∃ (ad2 : Addr),
 a = some ad2 ∧
 ∃ (a3 : Option Addr),
 Reads Proofs.Try.prog [] (Instr.loadAt 23 (Value.pointer (some ad2))) w (Value.pointer a3) ∧
 ∃ (b4 : Bool), Gives Proofs.Try.prog (binOpS BinOp.neq 23 (Operand.tmp 9) (Operand.const (Value.pointer none)) (Value.pointer a3) (Value.pointer none)) (Value.bool b4) ∧ R (Ending.returned (Value.bool b4)) w) ∧
 (b1 = false → R (Ending.returned (Value.bool false)) w)
theorem f40_eq (a : Option Addr) (w : World) (R : Ending → World → Prop) : (fnF Go.Proofs.Try.prog h40 Go.Proofs.Try.f40 [Value.pointer a] w R).den = f40_vc a w R := by kernel_rfl
theorem f40_calls (a : Option Addr) (w : World) (R : Ending → World → Prop) (h : f40_vc a w R) : Calls Go.Proofs.Try.prog 40 (List.toArray [Value.pointer a]) w R :=
 fn_sound (H := h40) (fn := Go.Proofs.Try.f40) (by kernel_rfl) (by kernel_rfl) (by kernel_rfl) ((f40_eq a w R).mpr h)


/-! manciple/alarm.order -/
def h41 : Hints := ⟨[], [], [], [], [], [], [], [], []⟩
def f41_vc (la : Option Addr) (ln : Nat) (lc : Nat) (at' : Value) (w : World) (R : Ending → World → Prop) : Prop :=
 OpW Proofs.Try.prog (valueS (Instr.box 88 at')) w fun (v1 : Value) (w2 : World) =>
 ∃ (ad3 : Addr),
 v1 = Value.pointer (some ad3) ∧
 Calls Proofs.Try.prog 51 #[Value.slice la ln lc, Value.func (Fn.func 52) #[] #[Value.pointer (some ad3)]] w2 fun (e4 : Ending) (w5 : World) => e4 = Ending.returned (Value.tuple #[]) ∧ R (Ending.returned (Value.tuple #[])) w5
theorem f41_eq (la : Option Addr) (ln : Nat) (lc : Nat) (at' : Value) (w : World) (R : Ending → World → Prop) : (fnF Go.Proofs.Try.prog h41 Go.Proofs.Try.f41 [Value.slice la ln lc, at'] w R).den = f41_vc la ln lc at' w R := by kernel_rfl
theorem f41_calls (la : Option Addr) (ln : Nat) (lc : Nat) (at' : Value) (w : World) (R : Ending → World → Prop) (h : f41_vc la ln lc at' w R) : Calls Go.Proofs.Try.prog 41 (List.toArray [Value.slice la ln lc, at']) w R :=
 fn_sound (H := h41) (fn := Go.Proofs.Try.f41) (by kernel_rfl) (by kernel_rfl) (by kernel_rfl) ((f41_eq la ln lc at' w R).mpr h)


/-! (*manciple/alarm.Alarms).All$1 -/
def h42 : Hints := ⟨[2], [], [], [], [], [], [], [], []⟩
def f42_vc (k_0 : Int) (k_1 : Int) (k_2 : Int) (cap0 : Value) (w : World) (R : Ending → World → Prop) : Prop :=
 ∀ (n1 : Nat),
 w.heap.size ≤ n1 →
 ∃ (a2 : Option Addr),
 Reads Proofs.Try.prog [] (Instr.loadAt 50 cap0) w (Value.pointer a2) ∧
 ∀ (w3 : World),
 Bel w w3 →
 Under [n1] w3 →
 Calls Proofs.Try.prog 27 #[Value.pointer a2, Value.agg #[Value.int IntKind.i64 k_0, Value.int IntKind.i64 k_1, Value.int IntKind.i64 k_2]] w3 fun (e4 : Ending) (w5 : World) =>
 ∃ (x6 : Int), ∃ (b7 : Bool), e4 = Ending.returned (Value.tuple #[Value.int IntKind.i64 x6, Value.bool b7]) ∧ Keeps [n1] w3 w5 ∧ R (Ending.returned (Value.int IntKind.i64 x6)) w5
theorem f42_eq (k_0 : Int) (k_1 : Int) (k_2 : Int) (cap0 : Value) (w : World) (R : Ending → World → Prop) : (fnF Go.Proofs.Try.prog h42 Go.Proofs.Try.f42 [Value.agg #[Value.int IntKind.i64 k_0, Value.int IntKind.i64 k_1, Value.int IntKind.i64 k_2], cap0] w R).den = f42_vc k_0 k_1 k_2 cap0 w R := by kernel_rfl
theorem f42_calls (k_0 : Int) (k_1 : Int) (k_2 : Int) (cap0 : Value) (w : World) (R : Ending → World → Prop) (h : f42_vc k_0 k_1 k_2 cap0 w R) : Calls Go.Proofs.Try.prog 42 (List.toArray [Value.agg #[Value.int IntKind.i64 k_0, Value.int IntKind.i64 k_1, Value.int IntKind.i64 k_2], cap0]) w R :=
 fn_sound (H := h42) (fn := Go.Proofs.Try.f42) (by kernel_rfl) (by kernel_rfl) (by kernel_rfl) ((f42_eq k_0 k_1 k_2 cap0 w R).mpr h)


/-! (*manciple/alarm.Alarms).Drop -/
def h43 : Hints := ⟨[3], [12, 21], [9, 19], [(3, [0, 1, 2, 3, 4, 5, 6, 7, 8, 9, 10])], [], [], [], [], []⟩
def f43_vc (a : Option Addr) (k_0 : Int) (k_1 : Int) (k_2 : Int) (w : World) (R : Ending → World → Prop) : Prop :=
 ∀ (n1 : Nat),
 w.heap.size ≤ n1 →
 ∀ (w2 : World),
 Bel w w2 →
 Under [n1] w2 →
 Calls Proofs.Try.prog 40 #[Value.pointer a] w2 fun (e3 : Ending) (w4 : World) =>
 ∃ (b5 : Bool),
 e3 = Ending.returned (Value.bool b5) ∧
 Keeps [n1] w2 w4 ∧
 ((!b5) = true → R (Ending.returned (Value.bool false)) w4) ∧
 ((!b5) = false →
 ∃ (ad6 : Addr),
 a = some ad6 ∧
 ∃ (r7 : Option Nat),
 Reads Proofs.Try.prog [] (Instr.loadAt 73 (Value.pointer (some (Addr.mk ad6.block (ad6.off + 1) none)))) w4 (Value.map r7) ∧
 ∃ (x8 : Int),
 ∃ (b9 : Bool),
 Reads Proofs.Try.prog [] (Instr.lookup 73 (Value.map r7) (Value.agg #[Value.int IntKind.i64 k_0, Value.int IntKind.i64 k_1, Value.int IntKind.i64 k_2]) true) w4
 (Value.tuple #[Value.int IntKind.i64 x8, Value.bool b9]) ∧
 (b9 = true →
 ∃ (ad10 : Addr),
 a = some ad10 ∧
 ∃ (a11 : Option Addr),
 Reads Proofs.Try.prog [] (Instr.loadAt 23 (Value.pointer (some ad10))) w4 (Value.pointer a11) ∧
 ∀ (w12 : World),
 Bel w4 w12 →
 Under [n1] w12 →
 Calls Proofs.Try.prog 14 #[Value.pointer a11, Value.int IntKind.i64 x8] w12 fun (e13 : Ending) (w14 : World) =>
 ∃ (b15 : Bool),
 e13 = Ending.returned (Value.bool b15) ∧
 Keeps [n1] w12 w14 ∧
 Calls Proofs.Try.prog 56 #[Value.pointer a, Value.int IntKind.i64 x8] w14 fun (e16 : Ending) (w17 : World) =>
 e16 = Ending.returned (Value.tuple #[]) ∧ Keeps [n1] w14 w17 ∧ R (Ending.returned (Value.bool b9)) w17) ∧
 (b9 = false → ∀ (w18 : World), Bel w4 w18 → Under [n1] w18 → R (Ending.returned (Value.bool b9)) w18))
theorem f43_eq (a : Option Addr) (k_0 : Int) (k_1 : Int) (k_2 : Int) (w : World) (R : Ending → World → Prop) : (fnF Go.Proofs.Try.prog h43 Go.Proofs.Try.f43 [Value.pointer a, Value.agg #[Value.int IntKind.i64 k_0, Value.int IntKind.i64 k_1, Value.int IntKind.i64 k_2]] w R).den = f43_vc a k_0 k_1 k_2 w R := by kernel_rfl
theorem f43_calls (a : Option Addr) (k_0 : Int) (k_1 : Int) (k_2 : Int) (w : World) (R : Ending → World → Prop) (h : f43_vc a k_0 k_1 k_2 w R) : Calls Go.Proofs.Try.prog 43 (List.toArray [Value.pointer a, Value.agg #[Value.int IntKind.i64 k_0, Value.int IntKind.i64 k_1, Value.int IntKind.i64 k_2]]) w R :=
 fn_sound (H := h43) (fn := Go.Proofs.Try.f43) (by kernel_rfl) (by kernel_rfl) (by kernel_rfl) ((f43_eq a k_0 k_1 k_2 w R).mpr h)


/-! (*manciple/alarm.Alarms).Due$1 -/
def h44 : Hints := ⟨[2], [], [], [], [], [], [], [], []⟩
def f44_vc (k_0 : Int) (k_1 : Int) (k_2 : Int) (cap0 : Value) (w : World) (R : Ending → World → Prop) : Prop :=
 ∀ (n1 : Nat),
 w.heap.size ≤ n1 →
 ∃ (r2 : Option Nat),
 Reads Proofs.Try.prog [] (Instr.loadAt 73 cap0) w (Value.map r2) ∧
 ∃ (x3 : Int),
 Reads Proofs.Try.prog [] (Instr.lookup 73 (Value.map r2) (Value.agg #[Value.int IntKind.i64 k_0, Value.int IntKind.i64 k_1, Value.int IntKind.i64 k_2]) false) w (Value.int IntKind.i64 x3) ∧
 ∀ (w4 : World), Bel w w4 → Under [n1] w4 → R (Ending.returned (Value.int IntKind.i64 x3)) w4
theorem f44_eq (k_0 : Int) (k_1 : Int) (k_2 : Int) (cap0 : Value) (w : World) (R : Ending → World → Prop) : (fnF Go.Proofs.Try.prog h44 Go.Proofs.Try.f44 [Value.agg #[Value.int IntKind.i64 k_0, Value.int IntKind.i64 k_1, Value.int IntKind.i64 k_2], cap0] w R).den = f44_vc k_0 k_1 k_2 cap0 w R := by kernel_rfl
theorem f44_calls (k_0 : Int) (k_1 : Int) (k_2 : Int) (cap0 : Value) (w : World) (R : Ending → World → Prop) (h : f44_vc k_0 k_1 k_2 cap0 w R) : Calls Go.Proofs.Try.prog 44 (List.toArray [Value.agg #[Value.int IntKind.i64 k_0, Value.int IntKind.i64 k_1, Value.int IntKind.i64 k_2], cap0]) w R :=
 fn_sound (H := h44) (fn := Go.Proofs.Try.f44) (by kernel_rfl) (by kernel_rfl) (by kernel_rfl) ((f44_eq k_0 k_1 k_2 cap0 w R).mpr h)


/-! manciple/mancipleref12.Set -/
def h45 : Hints := ⟨[3], [25, 36], [16, 28, 41, 21], [(7, [0, 1, 2, 3, 4, 5, 6, 7, 8, 9])], [], [(5, ⟨[(6, .sl), (7, .bool), (8, .int .i64)], []⟩)], [], [], []⟩
def f45_vc (la : Option Addr) (ln : Nat) (lc : Nat) (x_0 : Int) (x_1 : Int) (x_2 : Int) (x_3 : Int) (w : World) (R : Ending → World → Prop) : Prop :=
 ∀ (n1 : Nat),
 w.heap.size ≤ n1 →
 ∀ (w2 : World),
 Bel w w2 →
 Under [n1] w2 →
 Calls Proofs.Try.prog 46 #[Value.slice la ln lc, Value.agg #[Value.int IntKind.i64 x_0, Value.int IntKind.i64 x_1, Value.int IntKind.i64 x_2]] w2 fun (e3 : Ending) (w4 : World) =>
 ∃ (a5 : Option Addr),
 ∃ (n6 : Nat),
 ∃ (n7 : Nat),
 e3 = Ending.returned (Value.slice a5 n6 n7) ∧
 Keeps [n1] w2 w4 ∧
 ∃ (J8 : (Option Addr × Nat × Nat) × Bool × Int × Unit → World → Prop),
 ∃ (J9 : (Option Addr × Nat × Nat) × Bool × Int × Unit → World → Nat),
 J8 ((none, 0, 0), false, 0, ()) w4 ∧
 ∀ (a10 : Option Addr) (n11 n12 : Nat) (b13 : Bool) (x14 : Int) (w15 : World),
 J8 ((a10, n11, n12), b13, x14, ()) w15 →
 (decide (x14 < (↑n6 : Int)) = true →
 ((!b13) = true →
 ∃ (ad16 : Addr),
 Gives Proofs.Try.prog (Instr.indexAt 59 (Value.slice a5 n6 n7) (Value.int IntKind.i64 x14)) (Value.pointer (some ad16)) ∧
 ∃ (x17 : Int),
 ∃ (x18 : Int),
 ∃ (x19 : Int),
 ∃ (x20 : Int),
 Reads Proofs.Try.prog [] (Instr.loadAt 70 (Value.pointer (some ad16))) w15
 (Value.agg #[Value.int IntKind.i64 x17, Value.int IntKind.i64 x18, Value.int IntKind.i64 x19, Value.int IntKind.i64 x20]) ∧
 ∀ (w21 : World),
 Bel w15 w21 →
 Under [n1] w21 →
 Calls Proofs.Try.prog 57
 #[Value.agg #[Value.int IntKind.i64 x_0, Value.int IntKind.i64 x_1, Value.int IntKind.i64 x_2, Value.int IntKind.i64 x_3],
 Value.agg #[Value.int IntKind.i64 x17, Value.int IntKind.i64 x18, Value.int IntKind.i64 x19, Value.int IntKind.i64 x20]]
 w21 fun (e22 : Ending) (w23 : World) =>
 ∃ (b24 : Bool),
 e22 = Ending.returned (Value.bool b24) ∧
 Keeps [n1] w21 w23 ∧
 (b24 = true →
 OpW Proofs.Try.prog
 (valueS (Instr.buildSlice 59 1 #[(0, Value.agg #[Value.int IntKind.i64 x_0, Value.int IntKind.i64 x_1, Value.int IntKind.i64 x_2, Value.int IntKind.i64 x_3])])) w23
 fun (v25 : Value) (w26 : World) =>
 ∃ (a27 : Option Addr),
 ∃ (n28 : Nat),
 ∃ (n29 : Nat),
 v25 = Value.slice a27 n28 n29 ∧
 Keeps [n1] w23 w26 ∧
 OpW Proofs.Try.prog (builtin Builtin.append #[59, 59] 59 #[false, false] #[Value.slice a10 n11 n12, Value.slice a27 n28 n29]) w26
 fun (v30 : Value) (w31 : World) =>
 ∃ (a32 : Option Addr),
 ∃ (n33 : Nat),
 ∃ (n34 : Nat),
 v30 = Value.slice a32 n33 n34 ∧
 Keeps [n1] w26 w31 ∧
 ∃ (ad35 : Addr),
 Gives Proofs.Try.prog (Instr.indexAt 59 (Value.slice a5 n6 n7) (Value.int IntKind.i64 x14)) (Value.pointer (some ad35)) ∧
 ∃ (x36 : Int),
 ∃ (x37 : Int),
 ∃ (x38 : Int),
 ∃ (x39 : Int),
 Reads Proofs.Try.prog [] (Instr.loadAt 70 (Value.pointer (some ad35))) w31
 (Value.agg #[Value.int IntKind.i64 x36, Value.int IntKind.i64 x37, Value.int IntKind.i64 x38, Value.int IntKind.i64 x39]) ∧
 OpW Proofs.Try.prog
 (valueS
 (Instr.buildSlice 59 1
 #[(0,
 Value.agg
 #[Value.int IntKind.i64 x36, Value.int IntKind.i64 x37, Value.int IntKind.i64 x38, Value.int IntKind.i64 x39])]))
 w31 fun (v40 : Value) (w41 : World) =>
 ∃ (a42 : Option Addr),
 ∃ (n43 : Nat),
 ∃ (n44 : Nat),
 v40 = Value.slice a42 n43 n44 ∧
 Keeps [n1] w31 w41 ∧
 OpW Proofs.Try.prog
 (builtin Builtin.append #[59, 59] 59 #[false, false] #[Value.slice a32 n33 n34, Value.slice a42 n43 n44]) w41
 fun (v45 : Value) (w46 : World) =>
 ∃ (a47 : Option Addr),
 ∃ (n48 : Nat),
 ∃ (n49 : Nat),
 v45 = Value.slice a47 n48 n49 ∧
 Keeps [n1] w41 w46 ∧
 J8 ((a47, n48, n49), true, IntKind.i64.wrap (x14 + 1), ()) w46 ∧
 J9 ((a47, n48, n49), true, IntKind.i64.wrap (x14 + 1), ()) w46 <
 J9 ((a10, n11, n12), b13, x14, ()) w15) ∧
 (b24 = false →
 ∃ (ad50 : Addr),
 Gives Proofs.Try.prog (Instr.indexAt 59 (Value.slice a5 n6 n7) (Value.int IntKind.i64 x14)) (Value.pointer (some ad50)) ∧
 ∃ (x51 : Int),
 ∃ (x52 : Int),
 ∃ (x53 : Int),
 ∃ (x54 : Int),
 Reads Proofs.Try.prog [] (Instr.loadAt 70 (Value.pointer (some ad50))) w23
 (Value.agg #[Value.int IntKind.i64 x51, Value.int IntKind.i64 x52, Value.int IntKind.i64 x53, Value.int IntKind.i64 x54]) ∧
 OpW Proofs.Try.prog
 (valueS
 (Instr.buildSlice 59 1
 #[(0, Value.agg #[Value.int IntKind.i64 x51, Value.int IntKind.i64 x52, Value.int IntKind.i64 x53, Value.int IntKind.i64 x54])]))
 w23 fun (v55 : Value) (w56 : World) =>
 ∃ (a57 : Option Addr),
 ∃ (n58 : Nat),
 ∃ (n59 : Nat),
 v55 = Value.slice a57 n58 n59 ∧
 Keeps [n1] w23 w56 ∧
 OpW Proofs.Try.prog (builtin Builtin.append #[59, 59] 59 #[false, false] #[Value.slice a10 n11 n12, Value.slice a57 n58 n59]) w56
 fun (v60 : Value) (w61 : World) =>
 ∃ (a62 : Option Addr),
 ∃ (n63 : Nat),
 ∃ (n64 : Nat),
 v60 = Value.slice a62 n63 n64 ∧
 Keeps [n1] w56 w61 ∧
 J8 ((a62, n63, n64), b13, IntKind.i64.wrap (x14 + 1), ()) w61 ∧
 J9 ((a62, n63, n64), b13, IntKind.i64.wrap (x14 + 1), ()) w61 < J9 ((a10, n11, n12), b13, x14, ()) w15)) ∧
 ((!b13) = false →
 ∃ (ad65 : Addr),
 Gives Proofs.Try.prog (Instr.indexAt 59 (Value.slice a5 n6 n7) (Value.int IntKind.i64 x14)) (Value.pointer (some ad65)) ∧
 ∃ (x66 : Int),
 ∃ (x67 : Int),
 ∃ (x68 : Int),
 ∃ (x69 : Int),
 Reads Proofs.Try.prog [] (Instr.loadAt 70 (Value.pointer (some ad65))) w15
 (Value.agg #[Value.int IntKind.i64 x66, Value.int IntKind.i64 x67, Value.int IntKind.i64 x68, Value.int IntKind.i64 x69]) ∧
 ∀ (w70 : World),
 Bel w15 w70 →
 Under [n1] w70 →
 OpW Proofs.Try.prog (valueS (Instr.buildSlice 59 1 #[(0, Value.agg #[Value.int IntKind.i64 x66, Value.int IntKind.i64 x67, Value.int IntKind.i64 x68, Value.int IntKind.i64 x69])]))
 w70 fun (v71 : Value) (w72 : World) =>
 ∃ (a73 : Option Addr),
 ∃ (n74 : Nat),
 ∃ (n75 : Nat),
 v71 = Value.slice a73 n74 n75 ∧
 Keeps [n1] w70 w72 ∧
 OpW Proofs.Try.prog (builtin Builtin.append #[59, 59] 59 #[false, false] #[Value.slice a10 n11 n12, Value.slice a73 n74 n75]) w72 fun (v76 : Value) (w77 : World) =>
 ∃ (a78 : Option Addr),
 ∃ (n79 : Nat),
 ∃ (n80 : Nat),
 v76 = Value.slice a78 n79 n80 ∧
 Keeps [n1] w72 w77 ∧
 J8 ((a78, n79, n80), b13, IntKind.i64.wrap (x14 + 1), ()) w77 ∧
 J9 ((a78, n79, n80), b13, IntKind.i64.wrap (x14 + 1), ()) w77 < J9 ((a10, n11, n12), b13, x14, ()) w15)) ∧
 (decide (x14 < (↑n6 : Int)) = false →
 ((!b13) = true →
 OpW Proofs.Try.prog (valueS (Instr.buildSlice 59 1 #[(0, Value.agg #[Value.int IntKind.i64 x_0, Value.int IntKind.i64 x_1, Value.int IntKind.i64 x_2, Value.int IntKind.i64 x_3])])) w15
 fun (v81 : Value) (w82 : World) =>
 ∃ (a83 : Option Addr),
 ∃ (n84 : Nat),
 ∃ (n85 : Nat),
 v81 = Value.slice a83 n84 n85 ∧
 Keeps [n1] w15 w82 ∧
 OpW Proofs.Try.prog (builtin Builtin.append #[59, 59] 59 #[false, false] #[Value.slice a10 n11 n12, Value.slice a83 n84 n85]) w82 fun (v86 : Value) (w87 : World) =>
 ∃ (a88 : Option Addr), ∃ (n89 : Nat), ∃ (n90 : Nat), v86 = Value.slice a88 n89 n90 ∧ Keeps [n1] w82 w87 ∧ R (Ending.returned (Value.slice a88 n89 n90)) w87) ∧
 ((!b13) = false → R (Ending.returned (Value.slice a10 n11 n12)) w15))
theorem f45_eq (la : Option Addr) (ln : Nat) (lc : Nat) (x_0 : Int) (x_1 : Int) (x_2 : Int) (x_3 : Int) (w : World) (R : Ending → World → Prop) : (fnF Go.Proofs.Try.prog h45 Go.Proofs.Try.f45 [Value.slice la ln lc, Value.agg #[Value.int IntKind.i64 x_0, Value.int IntKind.i64 x_1, Value.int IntKind.i64 x_2, Value.int IntKind.i64 x_3]] w R).den = f45_vc la ln lc x_0 x_1 x_2 x_3 w R := by kernel_rfl
theorem f45_calls (la : Option Addr) (ln : Nat) (lc : Nat) (x_0 : Int) (x_1 : Int) (x_2 : Int) (x_3 : Int) (w : World) (R : Ending → World → Prop) (h : f45_vc la ln lc x_0 x_1 x_2 x_3 w R) : Calls Go.Proofs.Try.prog 45 (List.toArray [Value.slice la ln lc, Value.agg #[Value.int IntKind.i64 x_0, Value.int IntKind.i64 x_1, Value.int IntKind.i64 x_2, Value.int IntKind.i64 x_3]]) w R :=
 fn_sound (H := h45) (fn := Go.Proofs.Try.f45) (by kernel_rfl) (by kernel_rfl) (by kernel_rfl) ((f45_eq la ln lc x_0 x_1 x_2 x_3 w R).mpr h)


/-! manciple/mancipleref12.Drop -/
def h46 : Hints := ⟨[3], [15, 23], [10, 19], [(5, [0, 1, 2, 3, 4, 5, 6])], [], [(3, ⟨[(5, .sl), (6, .int .i64)], []⟩)], [], [], []⟩
def f46_vc (la : Option Addr) (ln : Nat) (lc : Nat) (k_0 : Int) (k_1 : Int) (k_2 : Int) (w : World) (R : Ending → World → Prop) : Prop :=
 ∀ (n1 : Nat),
 w.heap.size ≤ n1 →
 ∃ (J2 : (Option Addr × Nat × Nat) × Int × Unit → World → Prop),
 ∃ (J3 : (Option Addr × Nat × Nat) × Int × Unit → World → Nat),
 (∀ (w4 : World), Bel w w4 → Under [n1] w4 → J2 ((none, 0, 0), 0, ()) w4) ∧
 ∀ (a5 : Option Addr) (n6 n7 : Nat) (x8 : Int) (w9 : World),
 J2 ((a5, n6, n7), x8, ()) w9 →
 (decide (x8 < (↑ln : Int)) = true →
 ∃ (ad10 : Addr),
 Gives Proofs.Try.prog (Instr.indexAt 59 (Value.slice la ln lc) (Value.int IntKind.i64 x8)) (Value.pointer (some ad10)) ∧
 ∃ (x11 : Int),
 ∃ (x12 : Int),
 ∃ (x13 : Int),
 Reads Proofs.Try.prog [] (Instr.loadAt 66 (Value.pointer (some ad10))) w9 (Value.agg #[Value.int IntKind.i64 x11, Value.int IntKind.i64 x12, Value.int IntKind.i64 x13]) ∧
 ((!(x11 == k_0 && (x12 == k_1 && (x13 == k_2 && true)))) = true →
 ∃ (ad14 : Addr),
 Gives Proofs.Try.prog (Instr.indexAt 59 (Value.slice la ln lc) (Value.int IntKind.i64 x8)) (Value.pointer (some ad14)) ∧
 ∃ (x15 : Int),
 ∃ (x16 : Int),
 ∃ (x17 : Int),
 ∃ (x18 : Int),
 Reads Proofs.Try.prog [] (Instr.loadAt 70 (Value.pointer (some ad14))) w9
 (Value.agg #[Value.int IntKind.i64 x15, Value.int IntKind.i64 x16, Value.int IntKind.i64 x17, Value.int IntKind.i64 x18]) ∧
 ∀ (w19 : World),
 Bel w9 w19 →
 Under [n1] w19 →
 OpW Proofs.Try.prog (valueS (Instr.buildSlice 59 1 #[(0, Value.agg #[Value.int IntKind.i64 x15, Value.int IntKind.i64 x16, Value.int IntKind.i64 x17, Value.int IntKind.i64 x18])])) w19
 fun (v20 : Value) (w21 : World) =>
 ∃ (a22 : Option Addr),
 ∃ (n23 : Nat),
 ∃ (n24 : Nat),
 v20 = Value.slice a22 n23 n24 ∧
 Keeps [n1] w19 w21 ∧
 OpW Proofs.Try.prog (builtin Builtin.append #[59, 59] 59 #[false, false] #[Value.slice a5 n6 n7, Value.slice a22 n23 n24]) w21 fun (v25 : Value) (w26 : World) =>
 ∃ (a27 : Option Addr),
 ∃ (n28 : Nat),
 ∃ (n29 : Nat),
 v25 = Value.slice a27 n28 n29 ∧
 Keeps [n1] w21 w26 ∧
 J2 ((a27, n28, n29), IntKind.i64.wrap (x8 + 1), ()) w26 ∧ J3 ((a27, n28, n29), IntKind.i64.wrap (x8 + 1), ()) w26 < J3 ((a5, n6, n7), x8, ()) w9) ∧
 ((!(x11 == k_0 && (x12 == k_1 && (x13 == k_2 && true)))) = false →
 ∀ (w30 : World), Bel w9 w30 → Under [n1] w30 → J2 ((a5, n6, n7), IntKind.i64.wrap (x8 + 1), ()) w30 ∧ J3 ((a5, n6, n7), IntKind.i64.wrap (x8 + 1), ()) w30 < J3 ((a5, n6, n7), x8, ()) w9)) ∧
 (decide (x8 < (↑ln : Int)) = false → R (Ending.returned (Value.slice a5 n6 n7)) w9)
theorem f46_eq (la : Option Addr) (ln : Nat) (lc : Nat) (k_0 : Int) (k_1 : Int) (k_2 : Int) (w : World) (R : Ending → World → Prop) : (fnF Go.Proofs.Try.prog h46 Go.Proofs.Try.f46 [Value.slice la ln lc, Value.agg #[Value.int IntKind.i64 k_0, Value.int IntKind.i64 k_1, Value.int IntKind.i64 k_2]] w R).den = f46_vc la ln lc k_0 k_1 k_2 w R := by kernel_rfl
theorem f46_calls (la : Option Addr) (ln : Nat) (lc : Nat) (k_0 : Int) (k_1 : Int) (k_2 : Int) (w : World) (R : Ending → World → Prop) (h : f46_vc la ln lc k_0 k_1 k_2 w R) : Calls Go.Proofs.Try.prog 46 (List.toArray [Value.slice la ln lc, Value.agg #[Value.int IntKind.i64 k_0, Value.int IntKind.i64 k_1, Value.int IntKind.i64 k_2]]) w R :=
 fn_sound (H := h46) (fn := Go.Proofs.Try.f46) (by kernel_rfl) (by kernel_rfl) (by kernel_rfl) ((f46_eq la ln lc k_0 k_1 k_2 w R).mpr h)


/-! manciple/mancipleref12.Forget -/
def h47 : Hints := ⟨[], [17, 26, 36], [12, 32, 23], [], [], [(3, ⟨[(7, .sl), (8, .int .i64)], []⟩)], [], [], []⟩
def f47_vc (la : Option Addr) (ln : Nat) (lc : Nat) (what : Int) (first : Int) (w : World) (R : Ending → World → Prop) : Prop :=
 ∃ (J1 : (Option Addr × Nat × Nat) × Int × Unit → World → Prop),
 ∃ (J2 : (Option Addr × Nat × Nat) × Int × Unit → World → Nat),
 J1 ((none, 0, 0), 0, ()) w ∧
 ∀ (a3 : Option Addr) (n4 n5 : Nat) (x6 : Int) (w7 : World),
 J1 ((a3, n4, n5), x6, ()) w7 →
 (decide (x6 < (↑ln : Int)) = true →
 ∃ (ad8 : Addr),
 Gives Proofs.Try.prog (Instr.indexAt 59 (Value.slice la ln lc) (Value.int IntKind.i64 x6)) (Value.pointer (some ad8)) ∧
 ∃ (x9 : Int),
 Reads Proofs.Try.prog [] (Instr.loadAt 3 (Value.pointer (some ad8))) w7 (Value.int IntKind.i64 x9) ∧
 ((x9 != what) = true →
 ∃ (ad10 : Addr),
 Gives Proofs.Try.prog (Instr.indexAt 59 (Value.slice la ln lc) (Value.int IntKind.i64 x6)) (Value.pointer (some ad10)) ∧
 ∃ (x11 : Int),
 ∃ (x12 : Int),
 ∃ (x13 : Int),
 ∃ (x14 : Int),
 Reads Proofs.Try.prog [] (Instr.loadAt 70 (Value.pointer (some ad10))) w7 (Value.agg #[Value.int IntKind.i64 x11, Value.int IntKind.i64 x12, Value.int IntKind.i64 x13, Value.int IntKind.i64 x14]) ∧
 OpW Proofs.Try.prog (valueS (Instr.buildSlice 59 1 #[(0, Value.agg #[Value.int IntKind.i64 x11, Value.int IntKind.i64 x12, Value.int IntKind.i64 x13, Value.int IntKind.i64 x14])])) w7
 fun (v15 : Value) (w16 : World) =>
 ∃ (a17 : Option Addr),
 ∃ (n18 : Nat),
 ∃ (n19 : Nat),
 v15 = Value.slice a17 n18 n19 ∧
 OpW Proofs.Try.prog (builtin Builtin.append #[59, 59] 59 #[false, false] #[Value.slice a3 n4 n5, Value.slice a17 n18 n19]) w16 fun (v20 : Value) (w21 : World) =>
 ∃ (a22 : Option Addr),
 ∃ (n23 : Nat),
 ∃ (n24 : Nat),
 v20 = Value.slice a22 n23 n24 ∧ J1 ((a22, n23, n24), IntKind.i64.wrap (x6 + 1), ()) w21 ∧ J2 ((a22, n23, n24), IntKind.i64.wrap (x6 + 1), ()) w21 < J2 ((a3, n4, n5), x6, ()) w7) ∧
 ((x9 != what) = false →
 ∃ (ad25 : Addr),
 Gives Proofs.Try.prog (Instr.indexAt 59 (Value.slice la ln lc) (Value.int IntKind.i64 x6)) (Value.pointer (some ad25)) ∧
 ∃ (x26 : Int),
 Reads Proofs.Try.prog [] (Instr.loadAt 2 (Value.pointer (some (Addr.mk ad25.block (ad25.off + 1) none)))) w7 (Value.int IntKind.i64 x26) ∧
 ((x26 != first) = true →
 ∃ (ad27 : Addr),
 Gives Proofs.Try.prog (Instr.indexAt 59 (Value.slice la ln lc) (Value.int IntKind.i64 x6)) (Value.pointer (some ad27)) ∧
 ∃ (x28 : Int),
 ∃ (x29 : Int),
 ∃ (x30 : Int),
 ∃ (x31 : Int),
 Reads Proofs.Try.prog [] (Instr.loadAt 70 (Value.pointer (some ad27))) w7
 (Value.agg #[Value.int IntKind.i64 x28, Value.int IntKind.i64 x29, Value.int IntKind.i64 x30, Value.int IntKind.i64 x31]) ∧
 OpW Proofs.Try.prog (valueS (Instr.buildSlice 59 1 #[(0, Value.agg #[Value.int IntKind.i64 x28, Value.int IntKind.i64 x29, Value.int IntKind.i64 x30, Value.int IntKind.i64 x31])])) w7
 fun (v32 : Value) (w33 : World) =>
 ∃ (a34 : Option Addr),
 ∃ (n35 : Nat),
 ∃ (n36 : Nat),
 v32 = Value.slice a34 n35 n36 ∧
 OpW Proofs.Try.prog (builtin Builtin.append #[59, 59] 59 #[false, false] #[Value.slice a3 n4 n5, Value.slice a34 n35 n36]) w33 fun (v37 : Value) (w38 : World) =>
 ∃ (a39 : Option Addr),
 ∃ (n40 : Nat),
 ∃ (n41 : Nat),
 v37 = Value.slice a39 n40 n41 ∧
 J1 ((a39, n40, n41), IntKind.i64.wrap (x6 + 1), ()) w38 ∧ J2 ((a39, n40, n41), IntKind.i64.wrap (x6 + 1), ()) w38 < J2 ((a3, n4, n5), x6, ()) w7) ∧
 ((x26 != first) = false → J1 ((a3, n4, n5), IntKind.i64.wrap (x6 + 1), ()) w7 ∧ J2 ((a3, n4, n5), IntKind.i64.wrap (x6 + 1), ()) w7 < J2 ((a3, n4, n5), x6, ()) w7))) ∧
 (decide (x6 < (↑ln : Int)) = false → R (Ending.returned (Value.slice a3 n4 n5)) w7)
theorem f47_eq (la : Option Addr) (ln : Nat) (lc : Nat) (what : Int) (first : Int) (w : World) (R : Ending → World → Prop) : (fnF Go.Proofs.Try.prog h47 Go.Proofs.Try.f47 [Value.slice la ln lc, Value.int IntKind.i64 what, Value.int IntKind.i64 first] w R).den = f47_vc la ln lc what first w R := by kernel_rfl
theorem f47_calls (la : Option Addr) (ln : Nat) (lc : Nat) (what : Int) (first : Int) (w : World) (R : Ending → World → Prop) (h : f47_vc la ln lc what first w R) : Calls Go.Proofs.Try.prog 47 (List.toArray [Value.slice la ln lc, Value.int IntKind.i64 what, Value.int IntKind.i64 first]) w R :=
 fn_sound (H := h47) (fn := Go.Proofs.Try.f47) (by kernel_rfl) (by kernel_rfl) (by kernel_rfl) ((f47_eq la ln lc what first w R).mpr h)


/-! manciple/alarm.order$1 -/
def h52 : Hints := ⟨[3, 4], [8, 11], [], [(1, [0, 1, 3, 4, 7, 8, 9, 10, 12, 13, 14, 15, 17, 18, 19, 20, 2, 5, 6, 11, 16, 21, 22, 23, 24])], [], [], [], [], []⟩
def f52_vc (x_0 : Int) (x_1 : Int) (x_2 : Int) (y_0 : Int) (y_1 : Int) (y_2 : Int) (cap0 : Value) (w : World) (R : Ending → World → Prop) : Prop :=
 ∀ (n1 : Nat),
 w.heap.size ≤ n1 →
 ∀ (n2 : Nat),
 w.heap.size ≤ n2 →
 ∃ (v3 : Value),
 Reads Proofs.Try.prog [] (Instr.loadAt 88 cap0) w v3 ∧
 ∃ (v4 : Value),
 Reads Proofs.Try.prog [] (Instr.loadAt 88 cap0) w v4 ∧
 ∀ (w5 : World),
 Bel w w5 →
 Under [n1, n2] w5 →
 OpW Proofs.Try.prog (invokeS v3 #[Value.agg #[Value.int IntKind.i64 x_0, Value.int IntKind.i64 x_1, Value.int IntKind.i64 x_2]]) w5 fun (v6 : Value) (w7 : World) =>
 ∃ (x8 : Int),
 v6 = Value.int IntKind.i64 x8 ∧
 Keeps [n1, n2] w5 w7 ∧
 Reads Proofs.Try.prog [] (Instr.loadAt 88 cap0) w7 v4 ∧
 OpW Proofs.Try.prog (invokeS v4 #[Value.agg #[Value.int IntKind.i64 y_0, Value.int IntKind.i64 y_1, Value.int IntKind.i64 y_2]]) w7 fun (v9 : Value) (w10 : World) =>
 ∃ (x11 : Int),
 v9 = Value.int IntKind.i64 x11 ∧
 Keeps [n1, n2] w7 w10 ∧
 Calls Proofs.Try.prog 54 #[Value.int IntKind.i64 x8, Value.int IntKind.i64 x11] w10 fun (e12 : Ending) (w13 : World) =>
 ∃ (x14 : Int),
 e12 = Ending.returned (Value.int IntKind.i64 x14) ∧
 Keeps [n1, n2] w10 w13 ∧
 Calls Proofs.Try.prog 55 #[Value.int IntKind.i64 x_0, Value.int IntKind.i64 y_0] w13 fun (e15 : Ending) (w16 : World) =>
 ∃ (x17 : Int),
 e15 = Ending.returned (Value.int IntKind.i64 x17) ∧
 Keeps [n1, n2] w13 w16 ∧
 Calls Proofs.Try.prog 54 #[Value.int IntKind.i64 x_1, Value.int IntKind.i64 y_1] w16 fun (e18 : Ending) (w19 : World) =>
 ∃ (x20 : Int),
 e18 = Ending.returned (Value.int IntKind.i64 x20) ∧
 Keeps [n1, n2] w16 w19 ∧
 Calls Proofs.Try.prog 54 #[Value.int IntKind.i64 x_2, Value.int IntKind.i64 y_2] w19 fun (e21 : Ending) (w22 : World) =>
 ∃ (x23 : Int),
 e21 = Ending.returned (Value.int IntKind.i64 x23) ∧
 Keeps [n1, n2] w19 w22 ∧
 OpW Proofs.Try.prog
 (valueS (Instr.buildSlice 95 4 #[(0, Value.int IntKind.i64 x14), (1, Value.int IntKind.i64 x17), (2, Value.int IntKind.i64 x20), (3, Value.int IntKind.i64 x23)])) w22
 fun (v24 : Value) (w25 : World) =>
 ∃ (a26 : Option Addr),
 ∃ (n27 : Nat),
 ∃ (n28 : Nat),
 v24 = Value.slice a26 n27 n28 ∧
 Keeps [n1, n2] w22 w25 ∧
 Calls Proofs.Try.prog 53 #[Value.slice a26 n27 n28] w25 fun (e29 : Ending) (w30 : World) =>
 ∃ (x31 : Int), e29 = Ending.returned (Value.int IntKind.i64 x31) ∧ Keeps [n1, n2] w25 w30 ∧ R (Ending.returned (Value.int IntKind.i64 x31)) w30
theorem f52_eq (x_0 : Int) (x_1 : Int) (x_2 : Int) (y_0 : Int) (y_1 : Int) (y_2 : Int) (cap0 : Value) (w : World) (R : Ending → World → Prop) : (fnF Go.Proofs.Try.prog h52 Go.Proofs.Try.f52 [Value.agg #[Value.int IntKind.i64 x_0, Value.int IntKind.i64 x_1, Value.int IntKind.i64 x_2], Value.agg #[Value.int IntKind.i64 y_0, Value.int IntKind.i64 y_1, Value.int IntKind.i64 y_2], cap0] w R).den = f52_vc x_0 x_1 x_2 y_0 y_1 y_2 cap0 w R := by kernel_rfl
theorem f52_calls (x_0 : Int) (x_1 : Int) (x_2 : Int) (y_0 : Int) (y_1 : Int) (y_2 : Int) (cap0 : Value) (w : World) (R : Ending → World → Prop) (h : f52_vc x_0 x_1 x_2 y_0 y_1 y_2 cap0 w R) : Calls Go.Proofs.Try.prog 52 (List.toArray [Value.agg #[Value.int IntKind.i64 x_0, Value.int IntKind.i64 x_1, Value.int IntKind.i64 x_2], Value.agg #[Value.int IntKind.i64 y_0, Value.int IntKind.i64 y_1, Value.int IntKind.i64 y_2], cap0]) w R :=
 fn_sound (H := h52) (fn := Go.Proofs.Try.f52) (by kernel_rfl) (by kernel_rfl) (by kernel_rfl) ((f52_eq x_0 x_1 x_2 y_0 y_1 y_2 cap0 w R).mpr h)


/-! cmp.Or[int] -/
def h53 : Hints := ⟨[], [10], [9, 14], [], [], [(3, ⟨[(8, .int .i64)], []⟩)], [], [], []⟩
def f53_vc (valsa : Option Addr) (valsn : Nat) (valsc : Nat) (w : World) (R : Ending → World → Prop) : Prop :=
 ∃ (J1 : Int × Unit → World → Prop),
 ∃ (J2 : Int × Unit → World → Nat),
 J1 (0, ()) w ∧
 ∀ (x3 : Int) (w4 : World),
 J1 (x3, ()) w4 →
 (decide (x3 < (↑valsn : Int)) = true →
 ∃ (ad5 : Addr),
 Gives Proofs.Try.prog (Instr.indexAt 95 (Value.slice valsa valsn valsc) (Value.int IntKind.i64 x3)) (Value.pointer (some ad5)) ∧
 ∃ (x6 : Int),
 Reads Proofs.Try.prog [] (Instr.loadAt 3 (Value.pointer (some ad5))) w4 (Value.int IntKind.i64 x6) ∧
 ((x6 != 0) = true → R (Ending.returned (Value.int IntKind.i64 x6)) w4) ∧ ((x6 != 0) = false → J1 (IntKind.i64.wrap (x3 + 1), ()) w4 ∧ J2 (IntKind.i64.wrap (x3 + 1), ()) w4 < J2 (x3, ()) w4)) ∧
 (decide (x3 < (↑valsn : Int)) = false → R (Ending.returned (Value.int IntKind.i64 0)) w4)
theorem f53_eq (valsa : Option Addr) (valsn : Nat) (valsc : Nat) (w : World) (R : Ending → World → Prop) : (fnF Go.Proofs.Try.prog h53 Go.Proofs.Try.f53 [Value.slice valsa valsn valsc] w R).den = f53_vc valsa valsn valsc w R := by kernel_rfl
theorem f53_calls (valsa : Option Addr) (valsn : Nat) (valsc : Nat) (w : World) (R : Ending → World → Prop) (h : f53_vc valsa valsn valsc w R) : Calls Go.Proofs.Try.prog 53 (List.toArray [Value.slice valsa valsn valsc]) w R :=
 fn_sound (H := h53) (fn := Go.Proofs.Try.f53) (by kernel_rfl) (by kernel_rfl) (by kernel_rfl) ((f53_eq valsa valsn valsc w R).mpr h)


/-! cmp.Compare[int64] -/
def h54 : Hints := ⟨[], [], [11, 12, 13, 16, 19], [], [], [], [], [], []⟩
def f54_vc (x : Int) (y : Int) (w : World) (R : Ending → World → Prop) : Prop :=
 Calls Proofs.Try.prog 60 #[Value.int IntKind.i64 x] w fun (e1 : Ending) (w2 : World) =>
 ∃ (b3 : Bool),
 e1 = Ending.returned (Value.bool b3) ∧
 Calls Proofs.Try.prog 60 #[Value.int IntKind.i64 y] w2 fun (e4 : Ending) (w5 : World) =>
 ∃ (b6 : Bool),
 e4 = Ending.returned (Value.bool b6) ∧
 (b3 = true → (b6 = true → R (Ending.returned (Value.int IntKind.i64 0)) w5) ∧ (b6 = false → R (Ending.returned (Value.int IntKind.i64 (-1))) w5)) ∧
 (b3 = false →
 (b6 = true → R (Ending.returned (Value.int IntKind.i64 1)) w5) ∧
 (b6 = false →
 (decide (x < y) = true → R (Ending.returned (Value.int IntKind.i64 (-1))) w5) ∧
 (decide (x < y) = false → (decide (x > y) = true → R (Ending.returned (Value.int IntKind.i64 1)) w5) ∧ (decide (x > y) = false → R (Ending.returned (Value.int IntKind.i64 0)) w5))))
theorem f54_eq (x : Int) (y : Int) (w : World) (R : Ending → World → Prop) : (fnF Go.Proofs.Try.prog h54 Go.Proofs.Try.f54 [Value.int IntKind.i64 x, Value.int IntKind.i64 y] w R).den = f54_vc x y w R := by kernel_rfl
theorem f54_calls (x : Int) (y : Int) (w : World) (R : Ending → World → Prop) (h : f54_vc x y w R) : Calls Go.Proofs.Try.prog 54 (List.toArray [Value.int IntKind.i64 x, Value.int IntKind.i64 y]) w R :=
 fn_sound (H := h54) (fn := Go.Proofs.Try.f54) (by kernel_rfl) (by kernel_rfl) (by kernel_rfl) ((f54_eq x y w R).mpr h)


/-! cmp.Compare[int] -/
def h55 : Hints := ⟨[], [], [11, 12, 13, 16, 19], [], [], [], [], [], []⟩
def f55_vc (x : Int) (y : Int) (w : World) (R : Ending → World → Prop) : Prop :=
 Calls Proofs.Try.prog 61 #[Value.int IntKind.i64 x] w fun (e1 : Ending) (w2 : World) =>
 ∃ (b3 : Bool),
 e1 = Ending.returned (Value.bool b3) ∧
 Calls Proofs.Try.prog 61 #[Value.int IntKind.i64 y] w2 fun (e4 : Ending) (w5 : World) =>
 ∃ (b6 : Bool),
 e4 = Ending.returned (Value.bool b6) ∧
 (b3 = true → (b6 = true → R (Ending.returned (Value.int IntKind.i64 0)) w5) ∧ (b6 = false → R (Ending.returned (Value.int IntKind.i64 (-1))) w5)) ∧
 (b3 = false →
 (b6 = true → R (Ending.returned (Value.int IntKind.i64 1)) w5) ∧
 (b6 = false →
 (decide (x < y) = true → R (Ending.returned (Value.int IntKind.i64 (-1))) w5) ∧
 (decide (x < y) = false → (decide (x > y) = true → R (Ending.returned (Value.int IntKind.i64 1)) w5) ∧ (decide (x > y) = false → R (Ending.returned (Value.int IntKind.i64 0)) w5))))
theorem f55_eq (x : Int) (y : Int) (w : World) (R : Ending → World → Prop) : (fnF Go.Proofs.Try.prog h55 Go.Proofs.Try.f55 [Value.int IntKind.i64 x, Value.int IntKind.i64 y] w R).den = f55_vc x y w R := by kernel_rfl
theorem f55_calls (x : Int) (y : Int) (w : World) (R : Ending → World → Prop) (h : f55_vc x y w R) : Calls Go.Proofs.Try.prog 55 (List.toArray [Value.int IntKind.i64 x, Value.int IntKind.i64 y]) w R :=
 fn_sound (H := h55) (fn := Go.Proofs.Try.f55) (by kernel_rfl) (by kernel_rfl) (by kernel_rfl) ((f55_eq x y w R).mpr h)


/-! (*manciple/alarm.Alarms).loose -/
def h56 : Hints := ⟨[], [5, 9, 15], [], [(0, [0, 1, 2, 3, 4, 5, 6, 7, 8, 9, 10])], [], [], [], [], []⟩
def f56_vc (a : Option Addr) (id : Int) (w : World) (R : Ending → World → Prop) : Prop :=
 ∃ (ad1 : Addr),
 a = some ad1 ∧
 ∃ (r2 : Option Nat),
 Reads Proofs.Try.prog [] (Instr.loadAt 73 (Value.pointer (some (Addr.mk ad1.block (ad1.off + 1) none)))) w (Value.map r2) ∧
 ∃ (ad3 : Addr),
 a = some ad3 ∧
 ∃ (r4 : Option Nat),
 Reads Proofs.Try.prog [] (Instr.loadAt 74 (Value.pointer (some (Addr.mk ad3.block (ad3.off + 2) none)))) w (Value.map r4) ∧
 ∃ (x5 : Int),
 ∃ (x6 : Int),
 ∃ (x7 : Int),
 Reads Proofs.Try.prog [] (Instr.lookup 74 (Value.map r4) (Value.int IntKind.i64 id) false) w (Value.agg #[Value.int IntKind.i64 x5, Value.int IntKind.i64 x6, Value.int IntKind.i64 x7]) ∧
 ∀ (w8 : World),
 Bel w w8 →
 OpW Proofs.Try.prog (builtin Builtin.delete #[73, 54] 0 #[false, false] #[Value.map r2, Value.agg #[Value.int IntKind.i64 x5, Value.int IntKind.i64 x6, Value.int IntKind.i64 x7]]) w8
 fun (v9 : Value) (w10 : World) =>
 v9 = Value.tuple #[] ∧
 Reads Proofs.Try.prog [] (Instr.loadAt 74 (Value.pointer (some (Addr.mk ad3.block (ad3.off + 2) none)))) w10 (Value.map r4) ∧
 ∃ (ad11 : Addr),
 a = some ad11 ∧
 ∃ (r12 : Option Nat),
 Reads Proofs.Try.prog [] (Instr.loadAt 74 (Value.pointer (some (Addr.mk ad11.block (ad11.off + 2) none)))) w10 (Value.map r12) ∧
 OpW Proofs.Try.prog (builtin Builtin.delete #[74, 2] 0 #[false, false] #[Value.map r12, Value.int IntKind.i64 id]) w10 fun (v13 : Value) (w14 : World) =>
 v13 = Value.tuple #[] ∧ R (Ending.returned (Value.tuple #[])) w14
theorem f56_eq (a : Option Addr) (id : Int) (w : World) (R : Ending → World → Prop) : (fnF Go.Proofs.Try.prog h56 Go.Proofs.Try.f56 [Value.pointer a, Value.int IntKind.i64 id] w R).den = f56_vc a id w R := by kernel_rfl
theorem f56_calls (a : Option Addr) (id : Int) (w : World) (R : Ending → World → Prop) (h : f56_vc a id w R) : Calls Go.Proofs.Try.prog 56 (List.toArray [Value.pointer a, Value.int IntKind.i64 id]) w R :=
 fn_sound (H := h56) (fn := Go.Proofs.Try.f56) (by kernel_rfl) (by kernel_rfl) (by kernel_rfl) ((f56_eq a id w R).mpr h)

end Vcc

/- The formulas of functions, printed by a program (VcTool.lean): each is what the generator's formula comes to, by the kernel's reckoning; whoever proves one has the function's contract. -/
set_option maxRecDepth 100000
set_option maxHeartbeats 1000000
set_option linter.unusedVariables false
namespace Vcc
open Go Go.Vc Go.RowKit
/-! cmp.isNaN[int64] -/
def h60 : Hints := ⟨[], [], [], [], [], [], [], [], []⟩
def f60_vc (x : Int) (w : World) (R : Ending → World → Prop) : Prop :=
 R (Ending.returned (Value.bool (x != x))) w
theorem f60_eq (x : Int) (w : World) (R : Ending → World → Prop) : (fnF Go.Proofs.Try.prog h60 Go.Proofs.Try.f60 [Value.int IntKind.i64 x] w R).den = f60_vc x w R := by kernel_rfl
theorem f60_calls (x : Int) (w : World) (R : Ending → World → Prop) (h : f60_vc x w R) : Calls Go.Proofs.Try.prog 60 (List.toArray [Value.int IntKind.i64 x]) w R :=
 fn_sound (H := h60) (fn := Go.Proofs.Try.f60) (by kernel_rfl) (by kernel_rfl) (by kernel_rfl) ((f60_eq x w R).mpr h)


/-! cmp.isNaN[int] -/
def h61 : Hints := ⟨[], [], [], [], [], [], [], [], []⟩
def f61_vc (x : Int) (w : World) (R : Ending → World → Prop) : Prop :=
 R (Ending.returned (Value.bool (x != x))) w
theorem f61_eq (x : Int) (w : World) (R : Ending → World → Prop) : (fnF Go.Proofs.Try.prog h61 Go.Proofs.Try.f61 [Value.int IntKind.i64 x] w R).den = f61_vc x w R := by kernel_rfl
theorem f61_calls (x : Int) (w : World) (R : Ending → World → Prop) (h : f61_vc x w R) : Calls Go.Proofs.Try.prog 61 (List.toArray [Value.int IntKind.i64 x]) w R :=
 fn_sound (H := h61) (fn := Go.Proofs.Try.f61) (by kernel_rfl) (by kernel_rfl) (by kernel_rfl) ((f61_eq x w R).mpr h)

end Vcc

/- Slices, continued: an element read; a row made; an element stored. -/
namespace Go.Vc
open Go Go.RowKit

section
variable {α : Type} {P : Program} {M : Nat → Prop} {w W W' : World} {gs ds : List Nat} {e : TypeId} {size : Nat} {f : α → List Value} {l : List α} {a : Option Addr} {n c : Nat}

theorem OwnF.sl (h : OwnF w M gs W e size f (.slice a n c) l) (hf : ∀ x ∈ l, (f x).length = size) : SlE W size f l a n c := by
  obtain ⟨a', c', hv, hs⟩ := h.slice hf
  obtain ⟨rfl, rfl, rfl⟩ := Value.slice.inj hv
  exact hs
theorem OwnF.len (h : OwnF w M gs W e size f (.slice a n c) l) : n = l.length := by
  rcases h.row0.2 with ⟨hv, hn⟩ | ⟨g, cap, cur, hv, _⟩
  · rw [hn]; exact (Value.slice.inj hv).2.1
  · exact (Value.slice.inj hv).2.1
theorem OwnF.ptr (h : OwnF w M gs W e size f (.slice a n c) l) (hl : 0 < l.length) : ∃ g cur, a = some ⟨g, 0, none⟩ ∧ 0 ≤ g ∧ W.heap[g]? = some (.cells cur e (0, 0)) ∧ l.length ≤ c ∧ c ≤ maxLen ∧ cur.size = c * size ∧ cur.toList.take (l.length * size) = l.flatMap f := by
  rcases h.row0.2 with ⟨hv, hn⟩ | ⟨g, cap, cur, hv, rest⟩
  · omega
  · obtain ⟨rfl, rfl, rfl⟩ := Value.slice.inj hv
    exact ⟨g, cur, rfl, rest⟩

theorem rd_agg {t te : TypeId} {x : α} {i : Nat} {k : IntKind} (hs : SlE W size f l a n c) (hx : l[i]? = some x) (ht : P.underlying t = some (.slice e)) (hz : pureRun P (sizeOf e) = some size) (hagg : pureRun P (isAgg te) = some true) (hsz : pureRun P (sizeOf te) = some (f x).length) (hd : ∀ d ∈ ds, ∀ b, a = some b → d ≠ b.block) :
    ∃ ad, Gives P (Instr.indexAt t (.slice a n c) (.int k (i : Int))) (.pointer (some ad)) ∧ Reads P ds (Instr.loadAt te (.pointer (some ad))) W (.agg (f x).toArray) := by
  obtain ⟨ad, cs, rfl, hcl, hcs, rfl⟩ := hs.at_ hx
  have hi := (List.getElem?_eq_some_iff.1 hx).1
  refine ⟨_, gives_index ht hz (by rw [hs.1]; exact hi), reads_agg hagg hsz (fun d hm => ?_) hcs⟩
  have hb : (ad.add (i * size)).block = ad.block := by unfold Addr.add; split <;> rfl
  rw [hb]
  exact hd d hm ad rfl

theorem rd_one {t te : TypeId} {x : α} {i : Nat} {k : IntKind} {u : Value} (hs : SlE W size f l a n c) (hx : l[i]? = some x) (hu : f x = [u]) (ht : P.underlying t = some (.slice e)) (hz : pureRun P (sizeOf e) = some size) (hagg : pureRun P (isAgg te) = some false) (hd : ∀ d ∈ ds, ∀ b, a = some b → d ≠ b.block) :
    ∃ ad, Gives P (Instr.indexAt t (.slice a n c) (.int k (i : Int))) (.pointer (some ad)) ∧ Reads P ds (Instr.loadAt te (.pointer (some ad))) W u := by
  obtain ⟨ad, cs, rfl, hcl, hcs, rfl⟩ := hs.at_ hx
  have hi := (List.getElem?_eq_some_iff.1 hx).1
  refine ⟨_, gives_index ht hz (by rw [hs.1]; exact hi), reads_one hagg (fun d hm => ?_) ?_⟩
  · have hb : (ad.add (i * size)).block = ad.block := by unfold Addr.add; split <;> rfl
    rw [hb]
    exact hd d hm ad rfl
  · have := hcs 0 u (by rw [hu]; rfl)
    have ha : (ad.add (i * size)).add 0 = ad.add (i * size) := by
      generalize ad.add (i * size) = q
      unfold Addr.add
      simp
    rwa [ha] at this

theorem flatMap_len (hf : ∀ x ∈ l, (f x).length = size) : (l.flatMap f).length = l.length * size := by
  induction l with
  | nil => simp
  | cons x l ih =>
    rw [List.flatMap_cons, List.length_append, List.length_cons, hf x (List.mem_cons_self ..), ih fun y hy => hf y (List.mem_cons_of_mem _ hy), Nat.add_mul]
    omega

theorem flatMap_set {i : Nat} {y : α} (hf : ∀ x ∈ l, (f x).length = size) (hi : i < l.length) : (l.set i y).flatMap f = (l.flatMap f).take (i * size) ++ f y ++ (l.flatMap f).drop (i * size + size) := by
  induction l generalizing i with
  | nil => simp at hi
  | cons x l ih =>
    have hx := hf x (List.mem_cons_self ..)
    cases i with
    | zero =>
      simp only [List.set_cons_zero, List.flatMap_cons, Nat.zero_mul, List.take_zero, List.nil_append, Nat.zero_add]
      rw [← hx, List.drop_left]
    | succ i =>
      have := ih (i := i) (fun x hx => hf x (List.mem_cons_of_mem _ hx)) (by simpa using hi)
      simp only [List.set_cons_succ, List.flatMap_cons, this]
      have e1 : (i + 1) * size = (f x).length + i * size := by rw [hx, Nat.add_mul]; omega
      rw [e1, List.take_length_add_append, Nat.add_assoc, List.drop_length_add_append]
      simp [List.append_assoc]

theorem take_mid {β : Type} {cur xs y : List β} {L a s : Nat} (h : cur.take L = xs) (hL : xs.length = L) (hy : y.length = s) (ha : a + s ≤ L) :
    (cur.take a ++ y ++ cur.drop (a + s)).take L = xs.take a ++ y ++ xs.drop (a + s) := by
  have hc : cur = xs ++ cur.drop L := by rw [← h, List.take_append_drop]
  have e1 : cur.take a = xs.take a := by rw [← h, List.take_take, Nat.min_eq_left (by omega)]
  have e2 : cur.drop (a + s) = xs.drop (a + s) ++ cur.drop L := by
    rw [hc, List.drop_append_of_le_length (by omega), ← hc]
  rw [e1, e2, ← List.append_assoc]
  have hl : (xs.take a ++ y ++ xs.drop (a + s)).length = L := by
    simp only [List.length_append, List.length_take, List.length_drop, hL]
    omega
  have := List.take_left (l₁ := xs.take a ++ y ++ xs.drop (a + s)) (l₂ := cur.drop L)
  rwa [hl] at this

/-- An element is stored. -/
theorem opw_store {te : TypeId} {i : Nat} {y : α} {x : Value} (hA : AtF w M gs W) (ho : OwnF w M gs W e size f (.slice a n c) l) (hf : ∀ x ∈ l, (f x).length = size) (hi : i < l.length) (hy : x.cells.toList = f y) (hyl : (f y).length = size) (h1 : (f y).all oneCell = true) (hsz : pureRun P (sizeOf te) = some size) {K : Value → World → Prop}
    (h : ∀ w', AtF w M gs w' → Keeps gs W w' → W.grownBy w' (Value.slice a n c).ownBlock → OwnF w M gs w' e size f (.slice a n c) (l.set i y) → K undef w') {ad : Addr} (had : ∀ g, a = some ⟨g, 0, none⟩ → ad = ⟨g, i * size, none⟩) :
    OpW P (skipS (Instr.storeAt te (.pointer (some ad)) x)) W K := by
  obtain ⟨g, cur, rfl, hge, hg, hlc, hcm, hcs, htk⟩ := ho.ptr (by omega)
  have had := had g rfl
  subst had
  have hn := ho.len
  have hle : i * size + size ≤ l.length * size := by
    have := Nat.mul_le_mul_right size (show i + 1 ≤ l.length by omega)
    rw [Nat.add_mul] at this
    omega
  have hle2 : l.length * size ≤ cur.size := by rw [hcs]; exact Nat.mul_le_mul_right _ hlc
  have hcl : cellStore P te cur.toList (i * size) x = some (cur.toList.take (i * size) ++ f y ++ cur.toList.drop (i * size + size)) := by
    unfold cellStore
    rw [hsz]
    simp only [hy, h1]
    have b1 : Nat.beq (f y).length size = true := by rw [hyl]; exact Nat.beq_refl _
    have b2 : Nat.ble (i * size + size) cur.toList.length = true := Nat.ble_eq_true_of_le (by rw [Array.length_toList]; omega)
    rw [b1, b2]
    rfl
  obtain ⟨W', hr, hg', hb, hs1, h2, h3, h4⟩ := run_cellStore (P := P) (t := te) (cells := cur.toList) (by simpa using hg) hcl
  have hgr : W.grownBy W' (some g) := ⟨h2, h3, h4, by omega, fun k _ hk => hb k (fun e => hk (by rw [e]))⟩
  have hsk : (skipS (Instr.storeAt te (.pointer (some ⟨g, i * size, none⟩)) x)).run P W = .ok .skip W' := by
    unfold skipS
    rw [run_bind_ok hr]
    rfl
  unfold OpW
  rw [hsk]
  refine h W' (hA.step (Chg.of_grown hgr (run_drawn hr)) fun k _ hk => ho.mine k hk) (fun g' hm => hgr.block g' (hA.under g' hm) fun e => ho.apart g' hm e.symm) hgr ⟨⟨?_, .inr ⟨g, c, _, ?_, hge, hg', ?_, hcm, ?_, ?_⟩⟩, ho.mine, ho.apart⟩
  · rw [flatMap_set hf hi, List.length_set]
    have := flatMap_len hf
    simp only [List.length_append, List.length_take, List.length_drop, hyl]
    omega
  · rw [List.length_set, hn]
  · rw [List.length_set]; exact hlc
  · simp only [List.size_toArray, List.length_append, List.length_take, List.length_drop, hyl, Array.length_toList]
    omega
  · rw [flatMap_set hf hi, List.length_set]
    exact take_mid htk (by rw [flatMap_len hf]) hyl hle

/-- A slice written out. -/
theorem opw_lit {t e' : TypeId} {len : Nat} {parts : Array (Nat × Value)} {cs : List Value} {K : Value → World → Prop} (hA : AtF w M gs W) (hc : sliceCells P t len parts = some (e', cs))
    (h : ∀ w', AtF w M gs w' → Keeps gs W w' → Bel W w' → (∀ j u, cs[j]? = some u → w'.cell? ((⟨W.heap.size, 0, none⟩ : Addr).add j) = some u) → w'.heap[W.heap.size]? = some (.cells cs.toArray e' (0, 0)) → K (.slice (some ⟨W.heap.size, 0, none⟩) len len) w') : OpW P (valueS (Instr.buildSlice t len parts)) W K := by
  refine opw_buildSlice hc (h _ (hA.call (below_alloc _)) (hA.keeps (below_alloc _)) (below_alloc _) (fun j u hu => ?_) (heap_alloc_new W _))
  rw [addr_add, cell_at (cells := cs) (ty := e') (fr := (0, 0)) (heap_alloc_new W _), Nat.zero_add]
  exact hu

/-- A row made, all zero. -/
theorem opw_make {t : TypeId} {bytes m : Nat} {kl kc : IntKind} {z : α} (he : elemB P t e size bytes = true) (hA : AtF w M gs W) (hz : ∃ i zv, P.info? e = some i ∧ i.zero = some zv ∧ zv.cells.toList = f z) (hb : bytes * m ≤ 281474976710656) (hm : m ≤ maxLen) {K : Value → World → Prop}
    (h : ∀ w', AtF w M gs w' → Keeps gs W w' → OwnF w M gs w' e size f (.slice (some ⟨W.heap.size, 0, none⟩) m m) (List.replicate m z) → W.grownBy w' none → K (.slice (some ⟨W.heap.size, 0, none⟩) m m) w') :
    OpW P (valueS (Instr.makeSlice t (.int kl (m : Int)) (.int kc (m : Int)))) W K := by
  obtain ⟨i, zv, ok⟩ := elemB_ok he
  obtain ⟨i', zv', hi', hz', hf⟩ := hz
  rw [ok.hi] at hi'
  cases hi'
  rw [ok.hz] at hz'
  cases hz'
  obtain ⟨w', hr, ho, hgr⟩ := run_make_full (P := P) W W.heap.size t e i zv size ok.ht ok.hi ok.hz ok.hsize kl kc m (by rw [ok.hby]; exact hb) hm (Nat.le_refl _)
  unfold OpW
  rw [run_valueS hr]
  have hbl : Bel W w' := ⟨⟨hgr.os, hgr.tape, hgr.output, hgr.size, fun k hk => hgr.block k hk (by simp)⟩, run_drawn hr⟩
  refine h w' (hA.call hbl) (hA.keeps hbl) (OwnF.ret hA ho (by rw [List.length_replicate]) ?_) hgr
  have hl : zv.cells.toList.length = size := by rw [Array.length_toList, ok.hzs]
  have hsz := ok.hsz
  apply List.ext_getElem?
  intro j
  have hfz : (f z).length = size := by rw [← hf]; exact hl
  have hfl : ((List.replicate m z).flatMap f).length = m * size := by
    rw [flatMap_len (size := size) (fun x hx => by rw [(List.mem_replicate.1 hx).2]; exact hfz), List.length_replicate]
  by_cases hj : j < m * size
  · have hq : j / size < m := Nat.div_lt_of_lt_mul (by rw [Nat.mul_comm]; exact hj)
    have hp := flatMap_part (l := List.replicate m z) (f := f) (size := size) (fun x hx => by rw [(List.mem_replicate.1 hx).2]; exact hfz) (i := j / size) (x := z) (by rw [List.getElem?_replicate, if_pos hq])
    have hmd : j % size < size := Nat.mod_lt _ hsz
    have hdm : j / size * size + j % size = j := by rw [Nat.mul_comm]; exact Nat.div_add_mod j size
    have e1 : ((List.replicate m z).flatMap f)[j]? = (f z)[j % size]? := by
      rw [← hp, List.getElem?_take, if_pos hmd, List.getElem?_drop, hdm]
    rw [e1, ← hf]
    have hsz0 : zv.cells.size = size := ok.hzs
    have : j % zv.cells.size < zv.cells.size := by rw [hsz0]; exact hmd
    simp [madeCells, hj, hsz0]
    rw [getElem!_pos zv.cells (j % size) (by rw [hsz0]; exact hmd)]
    simp [hmd, hsz0]
  · rw [List.getElem?_eq_none (by rw [Array.length_toList, size_madeCells]; omega), List.getElem?_eq_none (by rw [hfl]; omega)]
end

/-- A contract that returns a new slice. -/
def RetL {α : Type} (P : Program) (fn : FuncId) (args : Array Value) (W : World) (e : TypeId) (size : Nat) (f : α → List Value) (l : List α) : Prop :=
  RetQ P fn args W fun v w' => w'.ownsRow W.heap.size e size v l.length (l.flatMap f)

theorem at_calll {α : Type} {P : Program} {M : Nat → Prop} {w W : World} {gs : List Nat} {fn : FuncId} {args : Array Value} {e : TypeId} {size : Nat} {f : α → List Value} {l : List α} {K : Ending → World → Prop} (hA : AtF w M gs W) (hc : RetL P fn args W e size f l) (hf : ∀ x ∈ l, (f x).length = size)
    (hK : ∀ a c w', AtF w M gs w' → Keeps gs W w' → Bel W w' → OwnF w M gs w' e size f (.slice a l.length c) l → SlE w' size f l a l.length c → K (.returned (.slice a l.length c)) w') : Calls P fn args W K :=
  at_callq hA hc fun v w' hA' hk hb hq => by
    have ho : OwnF w M gs w' e size f v l := OwnF.ret hA hq rfl rfl
    obtain ⟨a, c, rfl, hs⟩ := ho.slice hf
    exact hK a c w' hA' hk hb ho hs
theorem leafl {α : Type} {w W : World} {gs : List Nat} {e : TypeId} {size : Nat} {f : α → List Value} {l l' : List α} {v : Value} {R : Ending → World → Prop} (h : ∀ v w', Bel w w' → w'.ownsRow w.heap.size e size v l.length (l.flatMap f) → R (.returned v) w') (hA : At w gs W) (ho : OwnL w gs W e size f v l') (hl : l' = l) : R (.returned v) W :=
  h v W hA.below (hl ▸ ho.row)
end Go.Vc

/- Strings: bytes to a string, a sum, a byte, a part, a range over the runes. -/
namespace Go.Vc
open Go Go.RowKit

abbrev u8e (x : Int) : List Value := [.int .u8 x]

section
variable {P : Program} {M : Nat → Prop} {w W : World} {gs : List Nat}

theorem one_cells {l : List Int} {k : IntKind} {a : Addr} {n c : Nat} (hs : SlE W 1 (fun x => [Value.int k x]) l (some a) n c) : (loadCells a n).run P W = .ok (l.map (Value.int k)).toArray W := by
  have hl : n = (l.map (Value.int k)).length := by rw [List.length_map]; exact hs.1
  rw [hl]
  refine run_loadCells_list (P := P) W a _ fun j v hv => ?_
  rw [List.getElem?_map] at hv
  cases hx : l[j]? with
  | none => rw [hx] at hv; cases hv
  | some x =>
    rw [hx] at hv
    simp only [Option.map_some, Option.some.injEq] at hv
    subst hv
    obtain ⟨ad, cs, ha, _, hcs, rfl⟩ := hs.at_ hx
    cases ha
    have := hcs 0 _ rfl
    have e : (a.add (j * 1)).add 0 = a.add j := by
      rw [Nat.mul_one]
      generalize a.add j = q
      unfold Addr.add
      simp
    rwa [e] at this

theorem strOfNums_eq (l : List Int) : l.foldl (fun r n => r.push (UInt8.ofNat n.toNat)) ByteArray.empty = strOfNums l := by
  rw [foldl_push_bytes]
  show (⟨#[] ++ _⟩ : ByteArray) = _
  simp [strOfNums]

theorem opw_b2s {src dst e : TypeId} {l : List Int} {a : Option Addr} {n c : Nat} {K : Value → World → Prop} (hs : P.underlying src = some (.slice e)) (he : P.underlying e = some (.int .u8)) (hd : P.underlying dst = some .string) (hl : SlE W 1 u8e l a n c)
    (h : K (.string (strOfNums l)) W) : OpW P (valueS (convert src dst (.slice a n c))) W K := by
  have hr : (convert src dst (.slice a n c)).run P W = .ok (.string (strOfNums l)) W := by
    rw [run_convert_bytes_string W src dst e a n c hs he hd]
    cases a with
    | none =>
      have hc := hl.2.2.2.1 rfl
      have h0 : l = [] := List.eq_nil_of_length_eq_zero (by have := hl.1; have := hl.2.1; omega)
      subst h0
      unfold Conv.bytesToString
      simp [Sem.run_pure]
      rfl
    | some ad =>
      rw [run_bytesToString W ad n c l (one_cells hl), strOfNums_eq]
  unfold OpW
  rw [run_valueS hr]
  exact h

theorem gives_sadd {t : TypeId} {x y : Operand} {a b : ByteArray} (h : a.size + b.size ≤ 9223372036854775807) : Gives P (binOpS .add t x y (.string a) (.string b)) (.string (a ++ b)) := by
  intro W
  unfold binOpS
  rw [run_bind_ok (show (eqGuard .add t x y (.string a) (.string b)).run P W = .ok () W from rfl), binOp_string_add]
  exact run_string_add_sum W a b h

theorem gives_index_str {t : TypeId} {s : ByteArray} {k : IntKind} {i : Nat} (ht : P.underlying t = some .string) (hi : i < s.size) : Gives P (Instr.index t (.string s) (.int k (i : Int))) (.int .u8 ((s[i]'hi).toNat : Int)) := by
  intro W
  have h := run_index_string W t s k i ht
  rw [h]
  simp [hi]

theorem opw_range_str {t : TypeId} {s : ByteArray} {K : Value → World → Prop} (ht : P.underlying t = some .string) (h : K (.pointer (some ⟨W.heap.size, 0, none⟩)) (W.alloc (.stringIter s 0))) : OpW P (valueS (Instr.range t (.string s))) W K := by
  have hr : (Instr.range t (.string s)).run P W = .ok (.pointer (some ⟨W.heap.size, 0, none⟩)) (W.alloc (.stringIter s 0)) := by
    unfold Instr.range
    rw [run_bind_ok (run_underlying ht W)]
    rfl
  unfold OpW
  rw [run_valueS hr]
  exact h

theorem opw_next_str {s : ByteArray} {pos r : Nat} {ty : TypeId} {K : Value → World → Prop} (hr : W.heap[r]? = some (.stringIter s pos))
    (hend : ¬ pos < s.size → K (.tuple #[.bool false]) W)
    (hgo : pos < s.size → K (.tuple #[.bool true, .int .i64 (pos : Int), .int .i32 ((Utf8.decode s pos).1 : Int)]) { W with heap := W.heap.setIfInBounds r (.stringIter s (pos + (Utf8.decode s pos).2)) }) :
    OpW P (valueS (Instr.next (.pointer (some ⟨r, 0, none⟩)) true ty)) W K := by
  have hget : (getObj r).run P W = .ok (.stringIter s pos) W := by
    simp [getObj, Sem.run, hr]
  by_cases hp : pos < s.size
  · have hrun : (Instr.next (.pointer (some ⟨r, 0, none⟩)) true ty).run P W = .ok (.tuple #[.bool true, .int .i64 (pos : Int), .int .i32 ((Utf8.decode s pos).1 : Int)]) { W with heap := W.heap.setIfInBounds r (.stringIter s (pos + (Utf8.decode s pos).2)) } := by
      unfold Instr.next
      simp only
      rw [run_bind_ok hget]
      simp only [hp, if_true]
      have hset : (setObj r (.stringIter s (pos + (Utf8.decode s pos).2))).run P W = .ok () { W with heap := W.heap.setIfInBounds r (.stringIter s (pos + (Utf8.decode s pos).2)) } := by
        simp [setObj, Sem.run, hr]
      rw [run_bind_ok hset]
      rfl
    unfold OpW
    rw [run_valueS hrun]
    exact hgo hp
  · have hrun : (Instr.next (.pointer (some ⟨r, 0, none⟩)) true ty).run P W = .ok (.tuple #[.bool false]) W := by
      unfold Instr.next
      simp only
      rw [run_bind_ok hget]
      simp only [hp, if_false]
      rfl
    unfold OpW
    rw [run_valueS hrun]
    exact hend hp

theorem chg_setObj {r : Nat} {o : Obj} : Chg (fun b => b = r) W { W with heap := W.heap.setIfInBounds r o } :=
  ⟨rfl, rfl, rfl, by simp, fun k _ hk => by
    show (W.heap.setIfInBounds r o)[k]? = _
    rw [Array.getElem?_setIfInBounds_ne (fun e => hk e.symm)], Nat.le_refl _⟩
theorem AtF.setObjF {r : Nat} {o : Obj} (hA : AtF w M gs W) (hr : w.heap.size ≤ r ∨ M r) : AtF w M gs { W with heap := W.heap.setIfInBounds r o } :=
  hA.step chg_setObj fun b _ hb => by subst hb; exact hr
theorem AtF.setObj {r : Nat} {o : Obj} (hA : AtF w M gs W) (hr : w.heap.size ≤ r) : AtF w M gs { W with heap := W.heap.setIfInBounds r o } := hA.setObjF (.inl hr)
theorem keeps_setObj {r : Nat} {o : Obj} (hr : r ∉ gs) : Keeps gs W { W with heap := W.heap.setIfInBounds r o } := fun g hg => by
  show (W.heap.setIfInBounds r o)[g]? = _
  rw [Array.getElem?_setIfInBounds_ne (fun e => hr (by rw [e]; exact hg))]

/-- The front of an own slice. -/
theorem gives_front {t e : TypeId} {size : Nat} {a : Option Addr} {n c m : Nat} {k : IntKind} (ht : P.underlying t = some (.slice e)) (hz : pureRun P (sizeOf e) = some size) (hm : m ≤ c) :
    Gives P (Instr.sliceAt t (.slice a n c) none (some (.int k (m : Int))) none) (.slice a m c) := by
  intro W
  have h1 : (Instr.sliceAt t (.slice a n c) none (some (.int k (m : Int))) none).run P W = (Instr.slice t (.slice a n c) none (some (.int k (m : Int))) none).run P W := run_sliceAt_slice W t _ _ _ _ (by simp [Program.elem, ht])
  rw [h1]
  unfold Instr.slice
  rw [run_bind_ok (run_underlying ht W)]
  simp only
  have hb : (Instr.sliceBounds true n c none (some (.int k (m : Int))) none).run P W = .ok (0, m, c) W := by
    unfold Instr.sliceBounds
    simp only [pure_bind]
    have := run_sliceBound (P := P) W k (m : Int) c .sliceAcap (by omega) (by omega)
    simp only [if_true]
    rw [run_bind_ok this]
    rfl
  rw [run_bind_ok hb]
  simp only
  rw [run_bind_ok (pureRun_run hz W)]
  simp only [Nat.zero_mul, Nat.sub_zero]
  have ha : (if c = 0 then a else Option.map (fun x => x.add 0) a) = a := by
    split
    · rfl
    · cases a with
      | none => rfl
      | some ad => simp [Addr.add]
  rw [ha]
  rfl

theorem ownsRow_front {base e size n m c : Nat} {a : Option Addr} {xs : List Value} (h : W.ownsRow base e size (.slice a n c) n xs) (hm : m ≤ n) : W.ownsRow base e size (.slice a m c) m (xs.take (m * size)) := by
  have hle : m * size ≤ n * size := Nat.mul_le_mul_right _ hm
  refine ⟨by rw [List.length_take, h.1, Nat.min_eq_left hle], ?_⟩
  rcases h.2 with ⟨hv, hn⟩ | ⟨g, cap, cur, hv, hge, hgg, hnc, hcm, hcs, htk⟩
  · subst hn
    have hm0 : m = 0 := by omega
    subst hm0
    exact .inl ⟨hv, rfl⟩
  · obtain ⟨rfl, _, rfl⟩ := Value.slice.inj hv
    exact .inr ⟨g, c, cur, rfl, hge, hgg, by omega, hcm, hcs, by rw [← htk, List.take_take, Nat.min_eq_left hle]⟩

theorem OwnF.front {α : Type} {e : TypeId} {size : Nat} {f : α → List Value} {a : Option Addr} {n c m : Nat} {l : List α} (h : OwnF w M gs W e size f (.slice a n c) l) (hf : ∀ x ∈ l, (f x).length = size) (hm : m ≤ l.length) : OwnF w M gs W e size f (.slice a m c) (l.take m) := by
  have hn := h.len
  subst hn
  have hr := ownsRow_front h.row0 hm
  have e1 : (l.flatMap f).take (m * size) = (l.take m).flatMap f := by
    have h2 : (l.take m).flatMap f ++ (l.drop m).flatMap f = l.flatMap f := by rw [← List.flatMap_append, List.take_append_drop]
    have hl : ((l.take m).flatMap f).length = m * size := by
      rw [flatMap_len (size := size) (fun x hx => hf x (List.mem_of_mem_take hx)), List.length_take, Nat.min_eq_left hm]
    rw [← h2, ← hl, List.take_left]
  refine ⟨?_, fun k hk => h.mine k (by cases a with
    | none => cases hk
    | some ad => exact hk), fun g hg => by have := h.apart g hg; cases a with
    | none => simp [Value.ownBlock]
    | some ad => simpa [Value.ownBlock] using this⟩
  rw [List.length_take, Nat.min_eq_left hm, ← e1]
  exact hr
end
end Go.Vc

/- An element of a slice, and its parts: the places, and what is read there. -/
namespace Go.Vc
open Go Go.RowKit

/-- The cells that lie at a place. -/
def Elt (W : World) (ad : Addr) (cs : List Value) : Prop := ∀ (j : Nat) (v : Value), cs[j]? = some v → W.cell? (ad.add j) = some v

section
variable {P : Program} {W W' : World} {ad : Addr} {cs : List Value} {ds : List Nat}

theorem Elt.below (h : Elt W ad cs) (hb : Bel W W') : Elt W' ad cs := fun j v hv => cell_below hb.below _ _ (h j v hv)
theorem Elt.evo (h : Elt W ad cs) (hb : evoP ds W W') (hd : ∀ d ∈ ds, d ≠ ad.block) : Elt W' ad cs := fun j v hv => evo_cell hb (by
    intro d hdm
    have hbk : (ad.add j).block = ad.block := by unfold Addr.add; split <;> rfl
    rw [hbk]; exact hd d hdm) (h j v hv)

theorem add_block (ad : Addr) (j : Nat) : (ad.add j).block = ad.block := by unfold Addr.add; split <;> rfl
theorem add_pos (ad : Addr) {o : Nat} (h : 0 < o) : ad.add o = ⟨ad.block, ad.off + o, none⟩ := by
  unfold Addr.add
  rw [if_neg (by omega)]

theorem Elt.sub (h : Elt W ad cs) {o : Nat} (ho : 0 < o) : Elt W ⟨ad.block, ad.off + o, none⟩ (cs.drop o) := by
  intro j v hv
  rw [List.getElem?_drop] at hv
  have := h (o + j) v hv
  rw [add_pos ad (by omega)] at this
  rw [addr_add]
  rw [show ad.off + o + j = ad.off + (o + j) by omega]
  exact this

theorem Elt.one {te : TypeId} {v : Value} {r : List Value} (h : Elt W ad (v :: r)) (hagg : pureRun P (isAgg te) = some false) (hd : ∀ d ∈ ds, d ≠ ad.block) : Reads P ds (Instr.loadAt te (.pointer (some ad))) W v :=
  reads_one hagg hd (by have := h 0 v rfl; unfold Addr.add at this; simpa using this)

theorem Elt.agg {te : TypeId} (m : Nat) (h : Elt W ad cs) (hagg : pureRun P (isAgg te) = some true) (hsz : pureRun P (sizeOf te) = some m) (hm : m ≤ cs.length) (hd : ∀ d ∈ ds, d ≠ ad.block) :
    Reads P ds (Instr.loadAt te (.pointer (some ad))) W (.agg (cs.take m).toArray) :=
  reads_agg hagg (by rw [hsz, List.length_take, Nat.min_eq_left hm]) hd (fun j v hv => h j v (by
    rw [List.getElem?_take] at hv
    split at hv
    · exact hv
    · cases hv))

theorem elt_at {α : Type} {t e : TypeId} {size : Nat} {f : α → List Value} {l : List α} {a : Option Addr} {n c : Nat} {x : α} {i : Nat} {k : IntKind} (hs : SlE W size f l a n c) (hx : l[i]? = some x) (ht : P.underlying t = some (.slice e)) (hz : pureRun P (sizeOf e) = some size) :
    ∃ ad, Gives P (Instr.indexAt t (.slice a n c) (.int k (i : Int))) (.pointer (some ad)) ∧ Elt W ad (f x) ∧ ∀ b, a = some b → ad.block = b.block := by
  obtain ⟨b, cs, rfl, hl, hcs, rfl⟩ := hs.at_ hx
  have hi := (List.getElem?_eq_some_iff.1 hx).1
  have hn := hs.1
  exact ⟨b.add (i * size), gives_index ht hz (by omega), hcs, fun b' hb' => by cases hb'; exact add_block _ _⟩

/-- A call by its contract, with the world's growth told besides. -/
theorem at_callb {M : Nat → Prop} {w W : World} {gs : List Nat} {f : FuncId} {args : Array Value} {v : Value} {K : Ending → World → Prop} (hA : AtF w M gs W) (hc : Ret P f args W v) (hK : ∀ w', AtF w M gs w' → Keeps gs W w' → Bel W w' → K (.returned v) w') : Calls P f args W K :=
  hc K fun w' hb => hK w' (hA.call hb) (hA.keeps hb) hb
/-- The own boxes out of sight. -/
theorem AtF.off {M : Nat → Prop} {w W : World} {gs : List Nat} (h : AtF w M gs W) : AtF w M [] W := ⟨h.chg, fun _ h => by cases h⟩

theorem brNB {b : Bool} {A B : Prop} (h : b = false → A) (k : b = true → B) : ((!b) = true → A) ∧ ((!b) = false → B) := ⟨fun e => h (by simpa using e), fun e => k (by simpa using e)⟩

theorem addr_add0 (ad : Addr) : ad.add 0 = ad := by unfold Addr.add; simp
/-- Adding to an address, twice. -/
theorem add_add (a : Addr) (l j : Nat) : (a.add l).add j = a.add (l + j) := by
  by_cases hl : l = 0
  · subst hl
    rw [addr_add0, Nat.zero_add]
  · rw [add_pos a (Nat.pos_of_ne_zero hl), addr_add, add_pos a (by omega)]
    rw [Nat.add_assoc]

/-- The rest of a slice, from a place on. -/
theorem gives_fromX {α : Type} {t e : TypeId} {size : Nat} {Rl : α → List Value → Prop} {l : List α} {a : Option Addr} {n c i : Nat} {k : IntKind} (hs : SlR W size Rl l a n c) (hi : i ≤ n) (ht : P.underlying t = some (.slice e)) (hz : pureRun P (sizeOf e) = some size) :
    Gives P (Instr.sliceAt t (.slice a n c) (some (.int k (i : Int))) none none) (.slice (if c = i then a else a.map (·.add (i * size))) (n - i) (c - i)) ∧ ∀ W' : World, SlR W' size Rl l a n c → SlR W' size Rl (l.drop i) (if c = i then a else a.map (·.add (i * size))) (n - i) (c - i) := by
  have hnc := hs.2.1
  refine ⟨?_, ?_⟩
  · intro W
    have h1 : (Instr.sliceAt t (.slice a n c) (some (.int k (i : Int))) none none).run P W = (Instr.slice t (.slice a n c) (some (.int k (i : Int))) none none).run P W := run_sliceAt_slice W t _ _ _ _ (by simp [Program.elem, ht])
    rw [h1]
    unfold Instr.slice
    rw [run_bind_ok (run_underlying ht W)]
    simp only
    have hb : (Instr.sliceBounds true n c (some (.int k (i : Int))) none none).run P W = .ok (i, n, c) W := by
      unfold Instr.sliceBounds
      simp only [pure_bind]
      have := run_sliceBound (P := P) W k (i : Int) n .sliceB (by omega) (by omega)
      simp only [Option.isSome_none, Bool.false_eq_true, if_false]
      rw [run_bind_ok this]
      rfl
    rw [run_bind_ok hb]
    simp only
    rw [run_bind_ok (pureRun_run hz W)]
    rfl
  · intro W' hs
    obtain ⟨h1, h2, h3, h4, h5⟩ := hs
    refine ⟨by rw [List.length_drop, h1], by omega, by omega, fun h => ?_, fun j x hx => ?_⟩
    · split at h
      · omega
      · cases a with
        | none => have := h4 rfl; omega
        | some ad => cases h
    · rw [List.getElem?_drop] at hx
      obtain ⟨ad', cs, ha, hl, hcs, hr⟩ := h5 _ x hx
      have hlt := (List.getElem?_eq_some_iff.1 hx).1
      subst ha
      refine ⟨ad'.add (i * size), cs, by rw [if_neg (by omega)]; rfl, hl, fun q v hv => ?_, hr⟩
      have := hcs q v hv
      rw [add_add] at this ⊢
      rw [add_add, ← Nat.add_assoc, ← Nat.add_mul]
      exact this
theorem gives_from {α : Type} {t e : TypeId} {size : Nat} {Rl : α → List Value → Prop} {l : List α} {a : Option Addr} {n c i : Nat} {k : IntKind} (hs : SlR W size Rl l a n c) (hi : i ≤ n) (ht : P.underlying t = some (.slice e)) (hz : pureRun P (sizeOf e) = some size) :
    ∃ a', Gives P (Instr.sliceAt t (.slice a n c) (some (.int k (i : Int))) none none) (.slice a' (n - i) (c - i)) ∧ ∀ W' : World, SlR W' size Rl l a n c → SlR W' size Rl (l.drop i) a' (n - i) (c - i) := ⟨_, gives_fromX hs hi ht hz⟩

theorem go_below0_too {M : Nat → Prop} {w W : World} {gs : List Nat} {F : World → Prop} (hA : AtF w M gs W) (h : ∀ W', AtF w M gs W' → Bel W W' → F W') : ∀ W', Bel W W' → F W' := fun W' hb => h W' (hA.call hb) hb

theorem Elt.lt {v : Value} {r : List Value} (h : Elt W ad (v :: r)) : ad.block < W.heap.size := by
  have := World.block_lt_of_cell? W _ (h 0 v rfl)
  rwa [add_block] at this
theorem Elt.far {v : Value} {r : List Value} (h : Elt W ad (v :: r)) (hd : ∀ d ∈ ds, W.heap.size ≤ d) : ∀ d ∈ ds, d ≠ ad.block := fun d hdm he => by
  have := h.lt
  have := hd d hdm
  omega

theorem AtF.sub {M : Nat → Prop} {w W : World} {gs gs' : List Nat} (h : AtF w M gs W) (hs : ∀ g ∈ gs', g ∈ gs) : AtF w M gs' W := ⟨h.chg, fun g hg => h.under g (hs g hg)⟩

theorem SlR.chg {α : Type} {n : Nat} {Rl : α → List Value → Prop} {l : List α} {a : Option Addr} {len cap : Nat} {N : Nat → Prop} (h : SlR W n Rl l a len cap) (hc : Chg N W W') (hn : ∀ b, a = some b → ¬ N b.block) : SlR W' n Rl l a len cap := by
  obtain ⟨h1, h2, h3, h4, h5⟩ := h
  refine ⟨h1, h2, h3, h4, fun i x hx => ?_⟩
  obtain ⟨ad, cs, ha, hl, hcs, hr⟩ := h5 i x hx
  refine ⟨ad, cs, ha, hl, fun j v hv => ?_, hr⟩
  have hc0 := hcs j v hv
  have hlt := World.block_lt_of_cell? W _ hc0
  have hbk : ((ad.add (i * n)).add j).block = ad.block := by rw [add_block, add_block]
  rw [World.cell?_of_block (hc.block _ hlt (by rw [hbk]; exact hn ad ha)), hc0]

theorem no_ds {ad : Addr} : ∀ d ∈ ([] : List Nat), d ≠ ad.block := fun _ h => by cases h
end
end Go.Vc

/- Plain arithmetic: wrapping, masks, the product by quarters. -/
namespace Go.Vc
open Go

theorem wrap_i64 {x : Int} (h1 : -9223372036854775808 ≤ x) (h2 : x ≤ 9223372036854775807) : IntKind.i64.wrap x = x := by
  have e : IntKind.i64.wrap x = if x % 18446744073709551616 ≥ 9223372036854775808 then x % 18446744073709551616 - 18446744073709551616 else x % 18446744073709551616 := by
    simp [IntKind.wrap, IntKind.bits, IntKind.signed]
  rw [e]
  split <;> omega
theorem wrap_u64 (x : Int) : IntKind.u64.wrap x = x % 18446744073709551616 := by
  simp [IntKind.wrap, IntKind.bits, IntKind.signed]
theorem wrap_u64_id {x : Int} (h1 : 0 ≤ x) (h2 : x < 18446744073709551616) : IntKind.u64.wrap x = x := by
  rw [wrap_u64]; omega
theorem wrap_u8 (x : Int) : IntKind.u8.wrap x = x % 256 := by
  simp [IntKind.wrap, IntKind.bits, IntKind.signed]
theorem wrap_u16 (x : Int) : IntKind.u16.wrap x = x % 65536 := by
  simp [IntKind.wrap, IntKind.bits, IntKind.signed]
theorem wrap_u32 (x : Int) : IntKind.u32.wrap x = x % 4294967296 := by
  simp [IntKind.wrap, IntKind.bits, IntKind.signed]
theorem wrap_i32 {x : Int} (h1 : -2147483648 ≤ x) (h2 : x ≤ 2147483647) : IntKind.i32.wrap x = x := by
  have e : IntKind.i32.wrap x = if x % 4294967296 ≥ 2147483648 then x % 4294967296 - 4294967296 else x % 4294967296 := by
    simp [IntKind.wrap, IntKind.bits, IntKind.signed]
  rw [e]
  split <;> omega

theorem and_low32 {x : Int} (h1 : 0 ≤ x) (h2 : x < 18446744073709551616) : ((BitVec.ofInt 64 x &&& BitVec.ofInt 64 4294967295).toNat : Int) = x % 4294967296 := by
  obtain ⟨n, rfl⟩ := Int.eq_ofNat_of_zero_le h1
  have hn : n < 18446744073709551616 := by omega
  have e1 : (BitVec.ofInt 64 (n : Int)).toNat = n := by
    simp
    omega
  have e2 : (BitVec.ofInt 64 4294967295).toNat = 2 ^ 32 - 1 := by decide
  rw [BitVec.toNat_and, e1, e2, Nat.and_two_pow_sub_one_eq_mod]
  omega

theorem mul_lt32 {a b : Int} (ha : 0 ≤ a) (ha' : a < 4294967296) (hb : 0 ≤ b) (hb' : b < 4294967296) : 0 ≤ a * b ∧ a * b ≤ 18446744065119617025 := by
  refine ⟨Int.mul_nonneg ha hb, ?_⟩
  have h1 : a * b ≤ 4294967295 * b := Int.mul_le_mul_of_nonneg_right (by omega) hb
  have h2 : (4294967295 : Int) * b ≤ 4294967295 * 4294967295 := Int.mul_le_mul_of_nonneg_left (by omega) (by omega)
  omega

/-- A product by quarters: with high and low halves. -/
theorem quarters {a b : Int} (ha : 0 ≤ a) (ha' : a < 18446744073709551616) (hb : 0 ≤ b) (hb' : b < 18446744073709551616) :
    ∃ ah al bh bl p q r t : Int, a / 4294967296 = ah ∧ a % 4294967296 = al ∧ b / 4294967296 = bh ∧ b % 4294967296 = bl ∧ ah * bh = p ∧ ah * bl = q ∧ al * bh = r ∧ al * bl = t ∧
      (0 ≤ p ∧ p ≤ 18446744065119617025) ∧ (0 ≤ q ∧ q ≤ 18446744065119617025) ∧ (0 ≤ r ∧ r ≤ 18446744065119617025) ∧ (0 ≤ t ∧ t ≤ 18446744065119617025) ∧ a * b = p * 18446744073709551616 + (q + r) * 4294967296 + t := by
  refine ⟨_, _, _, _, _, _, _, _, rfl, rfl, rfl, rfl, rfl, rfl, rfl, rfl, mul_lt32 ?_ ?_ ?_ ?_, mul_lt32 ?_ ?_ ?_ ?_, mul_lt32 ?_ ?_ ?_ ?_, mul_lt32 ?_ ?_ ?_ ?_, ?_⟩
  all_goals first | omega | skip
  have e1 : a = a / 4294967296 * 4294967296 + a % 4294967296 := by omega
  have e2 : b = b / 4294967296 * 4294967296 + b % 4294967296 := by omega
  generalize a / 4294967296 = x at *
  generalize a % 4294967296 = y at *
  generalize b / 4294967296 = u at *
  generalize b % 4294967296 = v at *
  subst e1
  subst e2
  simp only [Int.add_mul, Int.mul_add]
  have h1 : x * 4294967296 * (u * 4294967296) = x * u * 18446744073709551616 := by
    rw [Int.mul_assoc, Int.mul_left_comm 4294967296 u, ← Int.mul_assoc, show (4294967296 : Int) * 4294967296 = 18446744073709551616 from rfl]
  have h2 : x * 4294967296 * v = x * v * 4294967296 := by rw [Int.mul_right_comm]
  have h3 : y * (u * 4294967296) = y * u * 4294967296 := by rw [Int.mul_assoc]
  rw [h1, h2, h3]
  omega

theorem fdiv_pos (x : Int) {m : Int} (h : 0 ≤ m) : x.fdiv m = x / m := Int.fdiv_eq_ediv_of_nonneg x h

theorem drop_cons {α : Type} {l : List α} {k : Nat} {x : α} (h : l[k]? = some x) : l.drop k = x :: l.drop (k + 1) := by
  obtain ⟨hk, rfl⟩ := List.getElem?_eq_some_iff.1 h
  exact List.drop_eq_getElem_cons hk
end Go.Vc

/- Own text of this claim: Al1. -/
set_option maxRecDepth 20000
namespace Go.Vc.A
open Go Go.Vc Go.RowKit Go.Proofs Vcc

def sg (a b : Int) : Int := if a < b then -1 else if a > b then 1 else 0
theorem c60 (x : Int) (w : World) : Ret Try.prog 60 #[.int .i64 x] w (.bool false) := by
  intro R h
  refine f60_calls _ w R ?_
  unfold f60_vc
  first
    | exact leaf h (At.refl w) (by simp)
    | simpa using leaf h (At.refl w) rfl
theorem c61 (x : Int) (w : World) : Ret Try.prog 61 #[.int .i64 x] w (.bool false) := by
  intro R h
  refine f61_calls _ w R ?_
  unfold f61_vc
  first
    | exact leaf h (At.refl w) (by simp)
    | simpa using leaf h (At.refl w) rfl
theorem c54 (a b : Int) (w : World) : Ret Try.prog 54 #[.int .i64 a, .int .i64 b] w (.int .i64 (sg a b)) := by
  intro R h
  refine f54_calls _ _ w R ?_
  unfold f54_vc
  unfold sg at h
  refine at_callb (At.refl w) (c60 a w) fun w2 hA _ _ => ⟨_, rfl, at_callb hA (c60 b w2) fun w5 hA _ _ => ⟨_, rfl, brB (fun e => by cases e) (fun _ => brB (fun e => by cases e) (fun _ => ?_))⟩⟩
  refine brD (fun h1 => ?_) (fun h1 => brD (fun h2 => ?_) (fun h2 => ?_))
  · rw [if_pos h1] at h; exact leaf h hA rfl
  · rw [if_neg h1, if_pos h2] at h; exact leaf h hA rfl
  · rw [if_neg h1, if_neg h2] at h; exact leaf h hA rfl
theorem c55 (a b : Int) (w : World) : Ret Try.prog 55 #[.int .i64 a, .int .i64 b] w (.int .i64 (sg a b)) := by
  intro R h
  refine f55_calls _ _ w R ?_
  unfold f55_vc
  unfold sg at h
  refine at_callb (At.refl w) (c61 a w) fun w2 hA _ _ => ⟨_, rfl, at_callb hA (c61 b w2) fun w5 hA _ _ => ⟨_, rfl, brB (fun e => by cases e) (fun _ => brB (fun e => by cases e) (fun _ => ?_))⟩⟩
  refine brD (fun h1 => ?_) (fun h1 => brD (fun h2 => ?_) (fun h2 => ?_))
  · rw [if_pos h1] at h; exact leaf h hA rfl
  · rw [if_neg h1, if_pos h2] at h; exact leaf h hA rfl
  · rw [if_neg h1, if_neg h2] at h; exact leaf h hA rfl
/-- The first one that is not 0. -/
def orL : List Int → Int
  | [] => 0
  | x :: t => if x ≠ 0 then x else orL t
theorem orL_drop : ∀ (l : List Int) (k : Nat), (∀ q, q < k → ∀ y, l[q]? = some y → y = 0) → orL l = orL (l.drop k)
  | l, 0, _ => by simp
  | [], k + 1, _ => by simp
  | x :: t, k + 1, h => by
    have hx : x = 0 := h 0 (by omega) x rfl
    rw [List.drop_succ_cons, ← orL_drop t k fun q hq y hy => h (q + 1) (by omega) y (by simpa using hy), orL, if_neg (by simp [hx])]
theorem c53 {l : List Int} {a : Option Addr} {n c : Nat} (w : World) (hs : SlE w 1 (fun x => [Value.int .i64 x]) l a n c) (hl : l.length < 1099511627776) : Ret Try.prog 53 #[.slice a n c] w (.int .i64 (orL l)) := by
  intro R h
  refine f53_calls _ _ _ w R ?_
  unfold f53_vc
  have hA := At.refl w
  have hn := hs.len_le.1
  refine ⟨fun v w4 => ∃ k : Nat, v.1 = k ∧ At w [] w4 ∧ (∀ q, q < k → ∀ y, l[q]? = some y → y = 0), fun v _ => (n - v.1).toNat, ⟨0, rfl, hA, fun q hq => by omega⟩, ?_⟩
  rintro x3 w4 ⟨k, hk, hA, hmin⟩
  simp only at hk
  subst hk
  have hd := orL_drop l k hmin
  refine brD (fun hlt => ?_) (fun hge => leaf h hA ?_)
  · obtain ⟨x, hx⟩ : ∃ x, l[k]? = some x := ⟨_, List.getElem?_eq_getElem (by omega)⟩
    obtain ⟨hkl, hxe⟩ := List.getElem?_eq_some_iff.1 hx
    have hdr : l.drop k = x :: l.drop (k + 1) := by rw [← hxe]; exact List.drop_eq_getElem_cons hkl
    obtain ⟨ad, g1, el, _⟩ := elt_at (P := Try.prog) (k := .i64) (t := 95) (hs.call hA.below) hx (e := 3) (by kernel_rfl) (by kernel_rfl)
    refine ⟨ad, g1, _, el.one (by kernel_rfl) (by simp), brN (fun hne => leaf h hA ?_) (fun he => ?_)⟩
    · rw [hd, hdr, orL, if_pos hne]
    · have e1 : IntKind.i64.wrap ((k : Int) + 1) = ((k + 1 : Nat) : Int) := by rw [wrap_i64 (by omega) (by omega)]; rfl
      rw [e1]
      refine ⟨⟨k + 1, rfl, hA, fun q hq y hy => ?_⟩, by simp only; omega⟩
      by_cases hqk : q = k
      · subst hqk
        rw [hx] at hy
        cases hy
        exact he
      · exact hmin q (by omega) y hy
  · rw [hd, List.drop_eq_nil_of_le (by omega)]; rfl
end Go.Vc.A

/- Arrays of the function's own, behind a pointer; a string's bytes; copying. -/
namespace Go.Vc
open Go Go.RowKit

def bytesOf (s : ByteArray) : List Int := s.data.toList.map fun b => (b.toNat : Int)
theorem bytesOf_len (s : ByteArray) : (bytesOf s).length = s.size := by
  rw [bytesOf, List.length_map, Array.length_toList]
  rfl
theorem bytesOf_range {s : ByteArray} {x : Int} (h : x ∈ bytesOf s) : 0 ≤ x ∧ x < 256 := by
  obtain ⟨b, _, rfl⟩ := List.mem_map.1 h
  have := b.toBitVec.isLt
  have e : b.toNat = b.toBitVec.toNat := rfl
  omega
theorem strOfNums_bytesOf (s : ByteArray) : strOfNums (bytesOf s) = s := by
  obtain ⟨d⟩ := s
  show (⟨_⟩ : ByteArray) = ⟨_⟩
  congr 1
  have : ((fun n : Int => UInt8.ofNat n.toNat) ∘ fun b : UInt8 => (b.toNat : Int)) = id := by
    funext b
    simp
  rw [bytesOf, List.map_map, this, List.map_id]

section
variable {P : Program} {M : Nat → Prop} {w W : World} {gs : List Nat}

theorem opw_s2b {src dst e : TypeId} {s : ByteArray} {K : Value → World → Prop} (hA : AtF w M gs W) (hs : P.underlying src = some .string) (hd : P.underlying dst = some (.slice e)) (he : P.underlying e = some (.int .u8)) (hm : s.size ≤ maxLen)
    (h : ∀ a c w', AtF w M gs w' → Keeps gs W w' → Bel W w' → SlE w' 1 u8e (bytesOf s) a s.size c → K (.slice a s.size c) w') : OpW P (valueS (convert src dst (.string s))) W K := by
  have hr := run_bytes_of_string (P := P) W src dst e s hs hd he
  have hb : ∀ (C : Array Value) (fr : Nat × Nat), Bel W (W.drew.alloc (.cells C e fr)) := fun C fr => ⟨((Below.refl _ W).drew).alloc (Nat.le_refl _) _, Nat.le_succ _⟩
  unfold OpW
  rw [run_valueS hr]
  refine h _ _ _ (hA.call (hb _ _)) (hA.keeps (hb _ _)) (hb _ _) ⟨(bytesOf_len s).symm, grownCap_ge _ _ _ _, grownCap_le_maxLen _ _ _ _ hm, fun h => (by cases h), fun i x hx => ⟨_, _, rfl, rfl, fun j v hv => ?_, rfl⟩⟩
  have hi := (List.getElem?_eq_some_iff.1 hx).1
  rw [bytesOf_len] at hi
  have hj : j = 0 := by
    have := (List.getElem?_eq_some_iff.1 hv).1
    simp at this
    omega
  subst hj
  simp at hv
  subst hv
  rw [addr_add_add _ _ _ rfl, addr_add]
  have hcell := heap_alloc_new W.drew (Obj.cells (bytesRow s (grownCap W s.size 0 e)) e ((bytesRow s (grownCap W s.size 0 e)).size, (bytesRow s (grownCap W s.size 0 e)).size + 1))
  have hc := cell_at (W := W.drew.alloc (.cells (bytesRow s (grownCap W s.size 0 e)) e ((bytesRow s (grownCap W s.size 0 e)).size, (bytesRow s (grownCap W s.size 0 e)).size + 1))) (g := W.heap.size) (cells := (bytesRow s (grownCap W s.size 0 e)).toList) (by simpa using hcell) (0 + (i * 1 + 0))
  rw [hc]
  simp only [Nat.zero_add, Nat.mul_one, Nat.add_zero]
  simp only [bytesRow, Array.toList_append, Array.toList_map]
  rw [List.getElem?_append_left (by rw [List.length_map, Array.length_toList]; exact hi)]
  simp only [bytesOf, List.getElem?_map] at hx ⊢
  cases hb : s.data.toList[i]? with
  | none => rw [hb] at hx; cases hx
  | some b =>
    rw [hb] at hx
    simp only [Option.map_some, Option.some.injEq] at hx ⊢
    rw [hx]

/-- The same, with the place told. -/
theorem opw_s2bB {src dst e : TypeId} {s : ByteArray} {K : Value → World → Prop} (hA : AtF w M gs W) (hs : P.underlying src = some .string) (hd : P.underlying dst = some (.slice e)) (he : P.underlying e = some (.int .u8)) (hm : s.size ≤ maxLen)
    (h : ∀ a c w', AtF w M gs w' → Keeps gs W w' → Bel W w' → SlE w' 1 u8e (bytesOf s) a s.size c → (∀ b, a = some b → b.block = W.heap.size) → K (.slice a s.size c) w') : OpW P (valueS (convert src dst (.string s))) W K := by
  have hr := run_bytes_of_string (P := P) W src dst e s hs hd he
  have hb : ∀ (C : Array Value) (fr : Nat × Nat), Bel W (W.drew.alloc (.cells C e fr)) := fun C fr => ⟨((Below.refl _ W).drew).alloc (Nat.le_refl _) _, Nat.le_succ _⟩
  unfold OpW
  rw [run_valueS hr]
  refine h _ _ _ (hA.call (hb _ _)) (hA.keeps (hb _ _)) (hb _ _) ⟨(bytesOf_len s).symm, grownCap_ge _ _ _ _, grownCap_le_maxLen _ _ _ _ hm, fun h => (by cases h), fun i x hx => ⟨_, _, rfl, rfl, fun j v hv => ?_, rfl⟩⟩ (fun b hb => by cases hb; rfl)
  have hi := (List.getElem?_eq_some_iff.1 hx).1
  rw [bytesOf_len] at hi
  have hj : j = 0 := by
    have := (List.getElem?_eq_some_iff.1 hv).1
    simp at this
    omega
  subst hj
  simp at hv
  subst hv
  rw [addr_add_add _ _ _ rfl, addr_add]
  have hcell := heap_alloc_new W.drew (Obj.cells (bytesRow s (grownCap W s.size 0 e)) e ((bytesRow s (grownCap W s.size 0 e)).size, (bytesRow s (grownCap W s.size 0 e)).size + 1))
  have hc := cell_at (W := W.drew.alloc (.cells (bytesRow s (grownCap W s.size 0 e)) e ((bytesRow s (grownCap W s.size 0 e)).size, (bytesRow s (grownCap W s.size 0 e)).size + 1))) (g := W.heap.size) (cells := (bytesRow s (grownCap W s.size 0 e)).toList) (by simpa using hcell) (0 + (i * 1 + 0))
  rw [hc]
  simp only [Nat.zero_add, Nat.mul_one, Nat.add_zero]
  simp only [bytesRow, Array.toList_append, Array.toList_map]
  rw [List.getElem?_append_left (by rw [List.length_map, Array.length_toList]; exact hi)]
  simp only [bytesOf, List.getElem?_map] at hx ⊢
  cases hb : s.data.toList[i]? with
  | none => rw [hb] at hx; cases hx
  | some b =>
    rw [hb] at hx
    simp only [Option.map_some, Option.some.injEq] at hx ⊢
    rw [hx]

/-- An array made, all zero: told as an own slice over it. -/
theorem opw_allocArr {α : Type} {t : TypeId} {f : α → List Value} {n size : Nat} {zv : Value} {z : α} {K : Value → World → Prop} (hA : AtF w M gs W) (hz : pureRun P (zeroValue t) = some zv) (hf : zv.cells.toList = (List.replicate n z).flatMap f) (hfz : (f z).length = size) (hn : n ≤ maxLen)
    (h : ∀ w', AtF w M gs w' → Keeps gs W w' → OwnF w M gs w' t size f (.slice (some ⟨W.heap.size, 0, none⟩) n n) (List.replicate n z) → K (.pointer (some ⟨W.heap.size, 0, none⟩)) w') : OpW P (valueS (Instr.alloc t true (.tuple #[]))) W K := by
  unfold OpW
  rw [run_valueS (run_alloc hz)]
  have hl : zv.cells.size = n * size := by
    rw [← Array.length_toList, hf, flatMap_len (size := size) (fun x hx => by rw [(List.mem_replicate.1 hx).2]; exact hfz), List.length_replicate]
  refine h _ (hA.call (below_alloc _)) (hA.keeps (below_alloc _)) (OwnF.ret hA (n := n) (xs := zv.cells.toList) ⟨by rw [Array.length_toList, hl], .inr ⟨W.heap.size, n, zv.cells, rfl, Nat.le_refl _, heap_alloc_new W _, Nat.le_refl _, hn, hl, ?_⟩⟩ (by rw [List.length_replicate]) hf)
  rw [List.take_of_length_le (by rw [Array.length_toList, hl]; exact Nat.le_refl _)]

theorem gives_index_arr {t e : TypeId} {n m : Nat} {ad : Addr} {i : Nat} {k : IntKind} (ht : P.underlying t = some (.array m e)) (hs : pureRun P (sizeOf e) = some n) (hi : i < m) :
    Gives P (Instr.indexAt t (.pointer (some ad)) (.int k (i : Int))) (.pointer (some (ad.add (i * n)))) := by
  intro W
  have he : P.elem t = e := by simp [Program.elem, ht]
  have hl : P.arrayLen t = m := by simp [Program.arrayLen, ht]
  have hh := run_indexAt_array (P := P) W t ad k i (by rw [he, hl]; exact ht)
  rw [hh, if_pos (by rw [hl]; omega), he]
  have hsz := pureRun_run hs W
  simp only [Int.toNat_natCast]
  rw [hsz]
  rfl

theorem gives_slice_arr {t e : TypeId} {n m : Nat} {ad : Addr} {i : Nat} {k : IntKind} (ht : P.underlying t = some (.array m e)) (hs : pureRun P (sizeOf e) = some n) (hi : i < m) :
    Gives P (Instr.sliceAt t (.pointer (some ad)) (some (.int k (i : Int))) none none) (.slice (some (ad.add (i * n))) (m - i) (m - i)) := by
  intro W
  have he : P.elem t = e := by simp [Program.elem, ht]
  have hl : P.arrayLen t = m := by simp [Program.arrayLen, ht]
  have hh := run_sliceAt_array_l (P := P) W t ad (by rw [he, hl]; exact ht) k (i : Int) (by omega) (by rw [hl]; omega)
  rw [hh, he, pureRun_run hs W, hl]
  simp only [Result.andThen, slicedAt, Int.toNat_natCast]
  rw [if_neg (by omega)]

/-- A part of a slice's data, from a place on. -/
theorem SlR.from_ {α : Type} {n : Nat} {R : α → List Value → Prop} {l : List α} {ad : Addr} {len cap i : Nat} (h : SlR W n R l (some ad) len cap) (hsp : ad.spot = none) (hi : i ≤ len) : SlR W n R (l.drop i) (some (ad.add (i * n))) (len - i) (cap - i) := by
  refine ⟨by rw [List.length_drop, h.1], by have := h.2.1; omega, by have := h.2.2.1; omega, fun h => (by cases h), fun j x hx => ?_⟩
  rw [List.getElem?_drop] at hx
  obtain ⟨ad', cs, ha, hl, hcs, hr⟩ := h.at_ hx
  cases ha
  refine ⟨_, cs, rfl, hl, fun q v hv => ?_, hr⟩
  have := hcs q v hv
  rw [addr_add_add _ _ _ hsp, ← Nat.add_mul]
  exact this

/-- Copying as many elements as there is room for. -/
theorem opw_copy {dT sT ty e : TypeId} {fl : Array Bool} {k : IntKind} {l l2 : List Int} {a a2 : Option Addr} {n c n2 c2 : Nat} {er : TypeId} {K : Value → World → Prop} (hA : AtF w M gs W) (hu : P.underlying dT = some (.slice e)) (hsz : (P.info? e).map (·.size) = some 1)
    (ho : OwnF w M gs W er 1 (fun x => [Value.int k x]) (.slice a n c) l) (hs : SlE W 1 (fun x => [Value.int k x]) l2 a2 n2 c2) (hl : l2.length = l.length)
    (h : ∀ w', AtF w M gs w' → Keeps gs W w' → W.grownBy w' (Value.slice a n c).ownBlock → OwnF w M gs w' er 1 (fun x => [Value.int k x]) (.slice a n c) l2 → K (goInt l.length) w') : OpW P (builtin .copy #[dT, sT] ty fl #[.slice a n c, .slice a2 n2 c2]) W K := by
  have hn := ho.len
  have hn2 := hs.1
  subst hn
  subst hn2
  have hrun : ∃ w', (Builtin.copy_ #[dT, sT] ty #[.slice a l.length c, .slice a2 l2.length c2]).run P W = .ok (goInt l.length) w' ∧ AtF w M gs w' ∧ Keeps gs W w' ∧ W.grownBy w' (Value.slice a l.length c).ownBlock ∧ OwnF w M gs w' er 1 (fun x => [Value.int k x]) (.slice a l.length c) l2 := by
    rcases Nat.eq_zero_or_pos l.length with h0 | hpos
    · have e1 : l = [] := List.eq_nil_of_length_eq_zero h0
      have e2 : l2 = [] := List.eq_nil_of_length_eq_zero (by omega)
      subst e1
      subst e2
      refine ⟨W, ?_, hA, fun _ _ => rfl, ⟨rfl, rfl, rfl, Nat.le_refl _, fun _ _ _ => rfl⟩, ho⟩
      cases hq : P.info? e with
      | none => simp [hq] at hsz
      | some i =>
        cases a <;> cases a2 <;> simp [Builtin.copy_, run_underlying hu, Builtin.lenOf, Builtin.firstCells, sizeOf, typeInfo, hq, storeCells, loadCells, loadCellsFrom]
    · obtain ⟨g, cur, rfl, hge, hg, hlc, hcm, hcs, htk⟩ := ho.ptr hpos
      obtain ⟨ad2, rfl⟩ : ∃ ad2, a2 = some ad2 := by
        cases a2 with
        | some ad2 => exact ⟨ad2, rfl⟩
        | none => have := hs.2.2.2.1 rfl; have := hs.2.1; omega
      have hcells : ∀ j v, (l2.map (Value.int k))[j]? = some v → W.cell? (ad2.add j) = some v := by
        intro j v hv
        rw [List.getElem?_map] at hv
        cases hx : l2[j]? with
        | none => rw [hx] at hv; cases hv
        | some x =>
          rw [hx] at hv
          simp only [Option.map_some, Option.some.injEq] at hv
          subst hv
          obtain ⟨ad, cs, ha, _, hcs, rfl⟩ := hs.at_ hx
          cases ha
          have := hcs 0 _ rfl
          have e : (ad2.add (j * 1)).add 0 = ad2.add j := by
            rw [Nat.mul_one]
            generalize ad2.add j = q
            unfold Addr.add
            simp
          rwa [e] at this
      have hr := run_copy_row (P := P) W dT sT ty e g 0 l.length c ad2 l2.length c2 cur er (l2.map (Value.int k)) hu hsz hg (by rw [List.length_map, hl]; simp) hcells (by rw [List.length_map, hl, hcs]; omega) (by intro v hv; obtain ⟨x, _, rfl⟩ := List.mem_map.1 hv; rfl)
      rw [List.length_map, hl] at hr
      have hgr : W.grownBy (W.setRow g (cur.toList.take 0 ++ l2.map (Value.int k) ++ cur.toList.drop (0 + l.length)).toArray) (some g) := ⟨rfl, rfl, rfl, by simp, fun k _ hk => setRow_other W g k _ (fun e => hk (by rw [e]))⟩
      refine ⟨_, by rw [hl]; exact hr, (hA.step (Chg.of_grown hgr (run_drawn hr)) fun k _ hk => ho.mine k hk), fun g' hm => hgr.block g' (hA.under g' hm) fun e => ho.apart g' hm e.symm, hgr, ⟨⟨?_, .inr ⟨g, c, _, ?_, hge, setRow_heap W g cur _ er _ hg, ?_, hcm, ?_, ?_⟩⟩, ho.mine, ho.apart⟩⟩
      · rw [flatMap_len (size := 1) (fun _ _ => rfl)]
      · rw [hl]
      · rw [hl]; exact hlc
      · simp only [List.size_toArray, List.length_append, List.length_take, List.length_drop, List.length_map, Array.length_toList, hl]
        omega
      · have e1 : l2.flatMap (fun x => [Value.int k x]) = l2.map (Value.int k) := by
          clear hs hl ho hcells hr hgr h
          induction l2 with
          | nil => rfl
          | cons x l ih => rw [List.flatMap_cons, ih]; rfl
        rw [e1]
        simp only [List.take_zero, List.nil_append]
        rw [Nat.mul_one]
        have := List.take_left (l₁ := l2.map (Value.int k)) (l₂ := cur.toList.drop (0 + l.length))
        rwa [List.length_map] at this
  obtain ⟨w', hr, h1, h2, h3, h4⟩ := hrun
  have hb : (builtin .copy #[dT, sT] ty fl #[.slice a l.length c, .slice a2 l2.length c2]).run P W = .ok (.value (goInt l.length)) w' := by
    show (do pure (Next.value (← Builtin.copy_ #[dT, sT] ty #[.slice a l.length c, .slice a2 l2.length c2])) : Sem Next).run P W = _
    rw [run_bind_ok hr]
    rfl
  unfold OpW
  rw [hb]
  exact h w' h1 h2 h3 h4
end
end Go.Vc

/- 'append(l, x)': a row of one element made, and added to an own slice. -/
namespace Go.Vc
open Go Go.RowKit

theorem grown_trans_below {W W' W'' : World} {row : Option Nat} (h : Bel W W') (k : W'.grownBy W'' row) : W.grownBy W'' row :=
  ⟨k.os.trans h.below.os, k.tape.trans h.below.tape, k.output.trans h.below.output, Nat.le_trans h.size k.size, fun b hb hne => (k.block b (Nat.lt_of_lt_of_le hb h.size) hne).trans (h.block hb)⟩

section
variable {α : Type} {P : Program} {M : Nat → Prop} {w W : World} {gs : List Nat} {e e' : TypeId} {size : Nat} {f : α → List Value} {a : Option Addr} {n c : Nat} {l : List α} {t ty : TypeId} {fl : Array Bool} {bytes : Nat} {parts : Array (Nat × Value)} {x : α}

theorem opw_push (hA : AtF w M gs W) (ho : OwnF w M gs W e size f (.slice a n c) l) (x : α) (he : elemB P t e size bytes = true) (hc : sliceCells P t 1 parts = some (e', f x)) (hl : (f x).length = size) (hf : ∀ y ∈ l ++ [x], (f y).length = size)
    (h1 : ∀ u ∈ f x, u.oneCell' = true) (h63 : l.length + 1 ≤ 1099511627776) (hby : bytes ≤ 128) {K : Option Addr → Nat → Nat → World → Prop}
    (h : ∀ a' c' w2, AtF w M gs w2 → OwnF w M gs w2 e size f (.slice a' (l ++ [x]).length c') (l ++ [x]) → W.grownBy w2 (Value.slice a n c).ownBlock → ((Value.slice a' (l ++ [x]).length c').ownBlock = (Value.slice a n c).ownBlock ∨ ∀ k, (Value.slice a' (l ++ [x]).length c').ownBlock = some k → W.heap.size ≤ k) → K a' (l ++ [x]).length c' w2) :
    OpW P (valueS (Instr.buildSlice t 1 parts)) W fun v w1 => ∃ a1 n1 c1, v = .slice a1 n1 c1 ∧ Keeps gs W w1 ∧ OpW P (builtin .append #[t, t] ty fl #[.slice a n c, .slice a1 n1 c1]) w1 fun v w2 => ∃ a2 n2 c2, v = .slice a2 n2 c2 ∧ Keeps gs w1 w2 ∧ K a2 n2 c2 w2 := by
  refine opw_lit hA hc fun w' hA hk hb hcell _ => ⟨_, _, _, rfl, hk, ?_⟩
  refine opw_append1 (bytes := bytes) he hA (ho.call hb) (x := x) hl hcell h1 (by omega) (.inr (by
    have := Nat.mul_le_mul (show l.length + 1 ≤ 1099511627776 by omega) hby
    omega)) fun v' w2 hA hk2 hg ho' hnew => ?_
  obtain ⟨a2, c2, rfl, _⟩ := ho'.slice hf
  refine ⟨_, _, _, rfl, hk2, h _ _ _ hA ho' (grown_trans_below hb hg) (hnew.imp id fun hh k hk => Nat.le_trans hb.size (hh k hk))⟩

theorem opw_push0 (hA : AtF w M gs W) (ho : OwnF w M gs W e size f (.slice a n c) l) (x : α) (he : elemB P t e size bytes = true) (hc : sliceCells P t 1 parts = some (e', f x)) (hl : (f x).length = size) (hf : ∀ y ∈ l ++ [x], (f y).length = size)
    (h1 : ∀ u ∈ f x, u.oneCell' = true) (h63 : l.length + 1 ≤ 1099511627776) (hby : bytes ≤ 128) {K : Option Addr → Nat → Nat → World → Prop}
    (h : ∀ a' c' w2, AtF w M gs w2 → OwnF w M gs w2 e size f (.slice a' (l ++ [x]).length c') (l ++ [x]) → W.grownBy w2 (Value.slice a n c).ownBlock → ((Value.slice a' (l ++ [x]).length c').ownBlock = (Value.slice a n c).ownBlock ∨ ∀ k, (Value.slice a' (l ++ [x]).length c').ownBlock = some k → W.heap.size ≤ k) → K a' (l ++ [x]).length c' w2) :
    OpW P (valueS (Instr.buildSlice t 1 parts)) W fun v w1 => ∃ a1 n1 c1, v = .slice a1 n1 c1 ∧ OpW P (builtin .append #[t, t] ty fl #[.slice a n c, .slice a1 n1 c1]) w1 fun v w2 => ∃ a2 n2 c2, v = .slice a2 n2 c2 ∧ K a2 n2 c2 w2 := by
  refine opw_lit hA hc fun w' hA hk hb hcell _ => ⟨_, _, _, rfl, ?_⟩
  refine opw_append1 (bytes := bytes) he hA (ho.call hb) (x := x) hl hcell h1 (by omega) (.inr (by
    have := Nat.mul_le_mul (show l.length + 1 ≤ 1099511627776 by omega) hby
    omega)) fun v' w2 hA hk2 hg ho' hnew => ?_
  obtain ⟨a2, c2, rfl, _⟩ := ho'.slice hf
  exact ⟨_, _, _, rfl, h _ _ _ hA ho' (grown_trans_below hb hg) (hnew.imp id fun hh k hk => Nat.le_trans hb.size (hh k hk))⟩
end

/-- A contract that returns a new slice and a bool. -/
def RetLB {α : Type} (P : Program) (fn : FuncId) (args : Array Value) (W : World) (e : TypeId) (size : Nat) (f : α → List Value) (l : List α) (ok : Bool) : Prop :=
  RetQ P fn args W fun v w' => ∃ s, v = .tuple #[s, .bool ok] ∧ w'.ownsRow W.heap.size e size s l.length (l.flatMap f)
theorem at_calllb {α : Type} {P : Program} {M : Nat → Prop} {w W : World} {gs : List Nat} {fn : FuncId} {args : Array Value} {e : TypeId} {size : Nat} {f : α → List Value} {l : List α} {ok : Bool} {K : Ending → World → Prop} (hA : AtF w M gs W) (hc : RetLB P fn args W e size f l ok) (hf : ∀ x ∈ l, (f x).length = size)
    (hK : ∀ a c w', AtF w M gs w' → Keeps gs W w' → Bel W w' → OwnF w M gs w' e size f (.slice a l.length c) l → SlE w' size f l a l.length c → K (.returned (.tuple #[.slice a l.length c, .bool ok])) w') : Calls P fn args W K :=
  at_callq hA hc fun v w' hA' hk hb ⟨s, hv, hq⟩ => by
    have ho : OwnF w M gs w' e size f s l := OwnF.ret hA hq rfl rfl
    obtain ⟨a, c, rfl, hs⟩ := ho.slice hf
    subst hv
    exact hK a c w' hA' hk hb ho hs
theorem leaflb {α : Type} {w W : World} {gs : List Nat} {e : TypeId} {size : Nat} {f : α → List Value} {l l' : List α} {v : Value} {ok ok' : Bool} {R : Ending → World → Prop} (h : ∀ v w', Bel w w' → (∃ s, v = .tuple #[s, .bool ok] ∧ w'.ownsRow w.heap.size e size s l.length (l.flatMap f)) → R (.returned v) w') (hA : At w gs W) (ho : OwnL w gs W e size f v l') (hl : l' = l) (hk : ok' = ok) : R (.returned (.tuple #[v, .bool ok'])) W :=
  h _ _ hA.below ⟨v, by rw [hk], hl ▸ ho.row⟩

/-- What is made leaves every old block as it was. -/
theorem opw_alloc_below {P : Program} {t : TypeId} {zv : Value} {W : World} {K : Value → World → Prop} (hz : pureRun P (zeroValue t) = some zv) (h : OpW P (valueS (Instr.alloc t true (.tuple #[]))) W fun v w' => Bel W w' → K v w') :
    OpW P (valueS (Instr.alloc t true (.tuple #[]))) W K := by
  unfold OpW at h ⊢
  rw [run_valueS (run_alloc hz)] at h ⊢
  exact h (below_alloc _)

/-- A slice written out, as an own slice. -/
theorem opw_litL {α : Type} {P : Program} {M : Nat → Prop} {w W : World} {gs : List Nat} {t e' : TypeId} {len size : Nat} {parts : Array (Nat × Value)} {f : α → List Value} {l : List α} {K : Value → World → Prop} (hA : AtF w M gs W) (hl : len = l.length) (hsz : ∀ x ∈ l, (f x).length = size) (hm : len ≤ maxLen) (hc : sliceCells P t len parts = some (e', l.flatMap f))
    (h : ∀ g w', W.heap.size ≤ g → AtF w M gs w' → Keeps gs W w' → Bel W w' → OwnF w M gs w' e' size f (.slice (some ⟨g, 0, none⟩) len len) l → K (.slice (some ⟨g, 0, none⟩) len len) w') : OpW P (valueS (Instr.buildSlice t len parts)) W K := by
  refine opw_lit hA hc fun w' hA' hk hb _ hh => h _ w' (Nat.le_refl _) hA' hk hb (OwnF.ret (n := len) (xs := l.flatMap f) hA ?_ hl rfl)
  have hlf := flatMap_len hsz
  exact ⟨by rw [hlf, hl], .inr ⟨W.heap.size, len, _, rfl, Nat.le_refl _, hh, Nat.le_refl _, hm, by simp [hl, hlf], by rw [List.toList_toArray]; exact List.take_of_length_le (by rw [hlf, hl]; exact Nat.le_refl _)⟩⟩
end Go.Vc

/- Maps of the function's own: entries in the order in which they came; looking up, putting in, taking out. -/
namespace Go.Vc
open Go Go.RowKit

section
variable {κ α : Type} [DecidableEq κ]

def mget (k : κ) : List (κ × α) → Option α
  | [] => none
  | x :: r => if k = x.1 then some x.2 else mget k r
def mset (k : κ) (v : α) : List (κ × α) → List (κ × α)
  | [] => [(k, v)]
  | x :: r => if k = x.1 then (k, v) :: r else x :: mset k v r
def mdel (k : κ) : List (κ × α) → List (κ × α)
  | [] => []
  | x :: r => if k = x.1 then r else x :: mdel k r
/-- The first place of a key. -/
def midx (k : κ) : List (κ × α) → Option Nat
  | [] => none
  | x :: r => if k = x.1 then some 0 else (midx k r).map (· + 1)

theorem midx_lt {k : κ} : ∀ {m : List (κ × α)} {i : Nat}, midx k m = some i → i < m.length
  | [], i, h => by cases h
  | x :: r, i, h => by
    unfold midx at h
    split at h
    · cases h; simp
    · cases hr : midx k r with
      | none => rw [hr] at h; cases h
      | some j =>
        rw [hr] at h
        cases h
        have := midx_lt hr
        simp; omega
theorem mget_idx {k : κ} : ∀ {m : List (κ × α)}, mget k m = (midx k m).bind fun i => (m[i]?).map (·.2)
  | [] => rfl
  | x :: r => by
    unfold mget midx
    split
    · simp
    · rw [mget_idx (m := r)]
      cases midx k r <;> simp

/-! ### The plain laws -/
theorem mget_mset_self (k : κ) (v : α) : ∀ m : List (κ × α), mget k (mset k v m) = some v
  | [] => by simp [mset, mget]
  | x :: r => by
    unfold mset
    split
    · simp [mget]
    · rename_i h
      simp only [mget, if_neg h]
      exact mget_mset_self k v r
theorem mget_mset_ne {k j : κ} (v : α) (h : j ≠ k) : ∀ m : List (κ × α), mget j (mset k v m) = mget j m
  | [] => by simp [mset, mget, h]
  | x :: r => by
    unfold mset
    split
    · rename_i he
      have : ¬ j = x.1 := fun e => h (e.trans he.symm)
      simp [mget, h, this]
    · simp only [mget]
      rw [mget_mset_ne v h r]
theorem mget_mdel_ne {k j : κ} (h : j ≠ k) : ∀ m : List (κ × α), mget j (mdel k m) = mget j m
  | [] => rfl
  | x :: r => by
    unfold mdel
    split
    · rename_i he
      have : ¬ j = x.1 := fun e => h (e.trans he.symm)
      simp [mget, this]
    · simp only [mget]
      rw [mget_mdel_ne h r]
theorem mem_of_mget {k : κ} {v : α} : ∀ {m : List (κ × α)}, mget k m = some v → (k, v) ∈ m
  | [], h => by cases h
  | x :: r, h => by
    unfold mget at h
    split at h
    · rename_i he
      cases h
      rw [he]
      exact List.mem_cons_self ..
    · exact List.mem_cons_of_mem _ (mem_of_mget h)
theorem mget_none {k : κ} : ∀ {m : List (κ × α)}, mget k m = none ↔ k ∉ m.map (·.1)
  | [] => by simp [mget]
  | x :: r => by
    unfold mget
    split
    · rename_i he; simp [he]
    · rename_i he
      rw [mget_none (m := r)]
      simp [he]
theorem mget_of_mem {k : κ} {v : α} : ∀ {m : List (κ × α)}, (m.map (·.1)).Nodup → (k, v) ∈ m → mget k m = some v
  | [], _, h => by cases h
  | x :: r, hn, h => by
    rw [List.map_cons, List.nodup_cons] at hn
    unfold mget
    rcases List.mem_cons.1 h with rfl | h
    · simp
    · rw [if_neg (fun he => hn.1 (by rw [← he]; exact List.mem_map.2 ⟨_, h, rfl⟩))]
      exact mget_of_mem hn.2 h
theorem mset_keys {k : κ} {v : α} : ∀ {m : List (κ × α)}, (mset k v m).map (·.1) = if k ∈ m.map (·.1) then m.map (·.1) else m.map (·.1) ++ [k]
  | [] => by simp [mset]
  | x :: r => by
    unfold mset
    split
    · rename_i he; simp [he]
    · rename_i he
      rw [List.map_cons, mset_keys (m := r)]
      by_cases h : k ∈ r.map (·.1)
      · simp only [h, if_true]
        rw [if_pos (by simp only [List.map_cons, List.mem_cons]; exact .inr h)]
        rfl
      · simp only [h, if_false]
        rw [if_neg (by simp only [List.map_cons, List.mem_cons]; exact fun hh => hh.elim he h)]
        rfl
theorem mdel_keys {k : κ} : ∀ {m : List (κ × α)}, (mdel k m).map (·.1) = (m.map (·.1)).erase k
  | [] => rfl
  | x :: r => by
    unfold mdel
    split
    · rename_i he; simp [he]
    · rename_i he
      rw [List.map_cons, mdel_keys (m := r), List.map_cons, List.erase_cons_tail (by simpa using fun e => he e.symm)]
theorem mset_nodup {k : κ} {v : α} {m : List (κ × α)} (h : (m.map (·.1)).Nodup) : ((mset k v m).map (·.1)).Nodup := by
  rw [mset_keys]
  split
  · exact h
  · rename_i hk
    exact List.nodup_append.2 ⟨h, by simp, fun a ha b hb => by simp at hb; rintro rfl; exact hk (hb ▸ ha)⟩
theorem mdel_nodup {k : κ} {m : List (κ × α)} (h : (m.map (·.1)).Nodup) : ((mdel k m).map (·.1)).Nodup := by
  rw [mdel_keys]
  exact h.erase k
theorem mget_mdel_self {k : κ} {m : List (κ × α)} (h : (m.map (·.1)).Nodup) : mget k (mdel k m) = none := by
  rw [mget_none, mdel_keys]
  exact h.not_mem_erase
theorem mset_length {k : κ} {v : α} : ∀ {m : List (κ × α)}, (mset k v m).length = if (mget k m).isSome then m.length else m.length + 1
  | [] => rfl
  | x :: r => by
    unfold mset mget
    split
    · simp
    · simp only [List.length_cons]
      rw [mset_length (m := r)]
      split <;> rfl
theorem mdel_length {k : κ} : ∀ {m : List (κ × α)}, (mdel k m).length = if (mget k m).isSome then m.length - 1 else m.length
  | [] => rfl
  | x :: r => by
    unfold mdel mget
    split
    · simp
    · simp only [List.length_cons]
      rw [mdel_length (m := r)]
      split
      · rename_i h
        obtain ⟨v, hv⟩ := Option.isSome_iff_exists.1 h
        have := List.length_pos_of_mem (mem_of_mget hv)
        omega
      · rfl
end

/-- What a look-up leaves. -/
def lookV2 {α : Type} (vf : α → Value) (z : Value) : Option α → Value
  | some v => .tuple #[vf v, .bool true]
  | none => .tuple #[z, .bool false]
def lookV1 {α : Type} (vf : α → Value) (z : Value) : Option α → Value
  | some v => vf v
  | none => z
/-! ### Keys -/
structure KeyOk {κ : Type} [DecidableEq κ] (P : Program) (kt : TypeId) (kf : κ → Value) : Prop where
  eq : ∀ k k', eqB P 30 kt (kf k) (kf k') = some (decide (k = k'))
  now : ∀ d, P.underlying kt = some d → ∀ k k' b, Instr.sameNow d (kf k) (kf k') = some b → b = decide (k = k')
  chk : ∀ e k W, (Instr.checkKey e 10000 kt (kf k)).run P W = .ok () W
  bits : ∀ k, Instr.sameBits 10000 (kf k) (kf k) = true
  und : ∃ d, P.underlying kt = some d

section
variable {κ α : Type} {P : Program} {kt : TypeId} {kf : κ → Value} {vf : α → Value}

/-- Entries stand for a list. -/
def EntR (kf : κ → Value) (vf : α → Value) (es : List MapEntry) (m : List (κ × α)) : Prop := es.map (fun e => (e.key, e.val)) = m.map fun x => (kf x.1, vf x.2)

theorem EntR.cons {e : MapEntry} {es : List MapEntry} {x : κ × α} {m : List (κ × α)} (h : EntR kf vf (e :: es) (x :: m)) : e.key = kf x.1 ∧ e.val = vf x.2 ∧ EntR kf vf es m := by
  unfold EntR at h
  simp only [List.map_cons, List.cons.injEq, Prod.mk.injEq] at h
  exact ⟨h.1.1, h.1.2, h.2⟩

theorem findNow_spec [DecidableEq κ] (K : KeyOk P kt kf) {d : TypeDesc} (hd : P.underlying kt = some d) (k : κ) : ∀ (es : List MapEntry) (m : List (κ × α)) (i : Nat) (r : Option (Nat × Value)), EntR kf vf es m → Instr.findNow d (kf k) es i = some r →
    r = (midx k m).bind fun j => (m[j]?).map fun x => (i + j, vf x.2)
  | [], m, i, r, h, hf => by
    have : m = [] := by cases m with
      | nil => rfl
      | cons x m => simp [EntR] at h
    subst this
    simp only [Instr.findNow, Option.some.injEq] at hf
    subst hf
    rfl
  | e :: es, [], i, r, h, hf => by simp [EntR] at h
  | e :: es, x :: m, i, r, h, hf => by
    obtain ⟨h1, h2, h3⟩ := h.cons
    unfold Instr.findNow at hf
    rw [h1] at hf
    cases hs : Instr.sameNow d (kf k) (kf x.1) with
    | none => rw [hs] at hf; cases hf
    | some b =>
      have hb := K.now d hd _ _ _ hs
      rw [hs] at hf
      cases b with
      | true =>
        simp only [Option.some.injEq] at hf
        have he : k = x.1 := by simpa using hb.symm
        subst hf
        simp [midx, he, h2]
      | false =>
        have he : ¬ k = x.1 := by simpa using hb.symm
        have := findNow_spec K hd k es m (i + 1) r h3 hf
        rw [this]
        simp only [midx, if_neg he]
        cases midx k m with
        | none => rfl
        | some j => simp; congr 1; funext y; congr 1; omega

theorem findAsking_run [DecidableEq κ] (K : KeyOk P kt kf) (k : κ) (W : World) : ∀ (es : List MapEntry) (m : List (κ × α)) (i : Nat), EntR kf vf es m →
    (Instr.findAsking kt (kf k) es i).run P W = .ok ((midx k m).bind fun j => (m[j]?).map fun x => (i + j, vf x.2)) W
  | [], m, i, h => by
    have : m = [] := by cases m with
      | nil => rfl
      | cons x m => simp [EntR] at h
    subst this
    rfl
  | e :: es, [], i, h => by simp [EntR] at h
  | e :: es, x :: m, i, h => by
    obtain ⟨h1, h2, h3⟩ := h.cons
    unfold Instr.findAsking
    rw [h1]
    have he : (Op.equal kt (kf k) (kf x.1)).run P W = .ok (decide (k = x.1)) W := eqB_run W 30 10000 kt _ _ _ (K.eq k x.1) (by omega)
    rw [run_bind_ok he]
    by_cases hk : k = x.1
    · simp [hk, midx, h2]
    · simp only [decide_eq_false hk, Bool.false_eq_true, if_false]
      rw [findAsking_run K k W es m (i + 1) h3]
      simp only [midx, if_neg hk]
      cases midx k m with
      | none => rfl
      | some j => simp; congr 1; funext y; congr 1; omega

theorem findKey_run [DecidableEq κ] (K : KeyOk P kt kf) (k : κ) (W : World) {es : List MapEntry} {m : List (κ × α)} (h : EntR kf vf es m) :
    (Instr.findKey kt (kf k) es).run P W = .ok ((midx k m).bind fun j => (m[j]?).map fun x => (j, vf x.2)) W := by
  obtain ⟨d, hd⟩ := K.und
  unfold Instr.findKey
  rw [run_bind_ok (run_underlying hd W)]
  cases hf : Instr.findNow d (kf k) es 0 with
  | some r =>
    have := findNow_spec K hd k es m 0 r h hf
    simp only [Nat.zero_add] at this
    rw [this]
    rfl
  | none =>
    have := findAsking_run K k W es m 0 h
    simp only [Nat.zero_add] at this
    exact this

/-- An own map. -/
structure OwnM (w : World) (M : Nat → Prop) (gs : List Nat) (W : World) (r : Nat) (kf : κ → Value) (vf : α → Value) (m : List (κ × α)) : Prop where
  mine : w.heap.size ≤ r ∨ M r
  apart : r ∉ gs
  obj : ∃ es clock, W.heap[r]? = some (.map es clock) ∧ EntR kf vf es.toList m ∧ (es.toList.map (·.born)).Nodup ∧ ∀ e ∈ es.toList, e.born < clock

variable {w W W' : World} {M N : Nat → Prop} {gs gs' : List Nat} {r : Nat} {m : List (κ × α)}

theorem OwnM.lt (h : OwnM w M gs W r kf vf m) : r < W.heap.size := by
  obtain ⟨es, clock, hr, _⟩ := h.obj
  exact (Array.getElem?_eq_some_iff.1 hr).1
theorem OwnM.chg (h : OwnM w M gs W r kf vf m) (hc : Chg N W W') (hn : ¬ N r) : OwnM w M gs W' r kf vf m := by
  have hl := h.lt
  obtain ⟨es, clock, hr, rest⟩ := h.obj
  exact ⟨h.mine, h.apart, es, clock, by rw [hc.block r hl hn, hr], rest⟩
theorem OwnM.base1 {w' : World} {M' : Nat → Prop} (h : OwnM w M gs W r kf vf m) (hm : w'.heap.size ≤ r ∨ M' r) (ha : r ∉ gs') : OwnM w' M' gs' W r kf vf m := ⟨hm, ha, h.obj⟩
theorem OwnM.base0 {w' : World} (h : OwnM w M gs W r kf vf m) (hm : w'.heap.size ≤ r) : OwnM w' noB [] W r kf vf m := ⟨.inl hm, by simp, h.obj⟩
theorem OwnM.call (h : OwnM w M gs W r kf vf m) (hb : Bel W W') : OwnM w M gs W' r kf vf m := h.chg (N := noB) (Chg.of_below hb) id
theorem OwnM.more (h : OwnM w M gs W r kf vf m) (hg : ∀ g ∈ gs', g ∉ gs → W.heap.size ≤ g) : OwnM w M gs' W r kf vf m :=
  ⟨h.mine, fun hr => by
    by_cases hk : r ∈ gs
    · exact h.apart hk
    · have := hg r hr hk
      have := h.lt
      omega, h.obj⟩
theorem OwnM.evo {ds : List Nat} (h : OwnM w M gs W r kf vf m) (hd : ∀ d ∈ ds, d ∉ gs → W.heap.size ≤ d) (hb : Evo ds W W') : OwnM w M gs W' r kf vf m :=
  h.chg (Chg.of_evo hb) fun hm => by
    by_cases hk : r ∈ gs
    · exact h.apart hk
    · have := hd r hm hk
      have := h.lt
      omega

theorem opw_makeMap {t : TypeId} {K : Value → World → Prop} (hA : AtF w M gs W) (h : ∀ g w', W.heap.size = g → AtF w M gs w' → Keeps gs W w' → Bel W w' → OwnM w M gs w' g kf vf ([] : List (κ × α)) → K (.map (some g)) w') : OpW P (valueS (Instr.makeMap t none)) W K := by
  unfold OpW
  rw [run_valueS (run_makeMap t W)]
  refine h _ _ rfl (hA.call (below_alloc _)) (hA.keeps (below_alloc _)) (below_alloc _) ⟨.inl hA.size, fun hm => ?_, #[], 0, heap_alloc_new W _, rfl, by simp, fun e he => by simp at he⟩
  have := hA.under _ hm
  omega

theorem run_getObj_m {es : Array MapEntry} {clock : Nat} (h : W.heap[r]? = some (.map es clock)) : (getObj r).run P W = .ok (.map es clock) W := by
  simp [getObj, Sem.run, h]
theorem run_setObj_m {es : Array MapEntry} {clock : Nat} (h : W.heap[r]? = some (.map es clock)) (o : Obj) : (setObj r o).run P W = .ok () { W with heap := W.heap.setIfInBounds r o } := by
  simp [setObj, Sem.run, h]

theorem run_lookup_m [DecidableEq κ] {t et : TypeId} {z : Value} (K : KeyOk P kt kf) (ht : P.underlying t = some (.map kt et)) (hz : pureRun P (zeroValue et) = some z) (h : OwnM w M gs W r kf vf m) (k : κ) (ok : Bool) :
    (Instr.lookup t (.map (some r)) (kf k) ok).run P W = .ok (match mget k m with
      | some v => cond ok (.tuple #[vf v, .bool true]) (vf v)
      | none => cond ok (.tuple #[z, .bool false]) z) W := by
  obtain ⟨es, clock, hr, he, _⟩ := h.obj
  unfold Instr.lookup
  rw [run_bind_ok (run_underlying ht W)]
  simp only
  rw [run_bind_ok (run_getObj_m hr)]
  simp only [pure_bind]
  rw [run_bind_ok (K.chk es.isEmpty k W), run_bind_ok (findKey_run K k W he), mget_idx]
  cases hm : midx k m with
  | none =>
    simp only [Option.bind_none]
    rw [run_bind_ok (pureRun_run hz W)]
    cases ok <;> rfl
  | some j =>
    have hj := midx_lt hm
    have hjj : m[j]? = some m[j] := List.getElem?_eq_getElem hj
    simp only [Option.bind_some, hjj, Option.map_some]
    cases ok <;> rfl

/-- Looking up, with a flag. -/
theorem reads_lookup2 [DecidableEq κ] {t et : TypeId} {z : Value} (K : KeyOk P kt kf) (ht : P.underlying t = some (.map kt et)) (hz : pureRun P (zeroValue et) = some z) (h : OwnM w M gs W r kf vf m) (k : κ) {ds : List Nat} (hd : ∀ d ∈ ds, d ≠ r) :
    Reads P ds (Instr.lookup t (.map (some r)) (kf k) true) W (lookV2 vf z (mget k m)) := by
  intro W' hW'
  have h' : OwnM w M gs W' r kf vf m := by
    have hb : W'.heap[r]? = W.heap[r]? := by
      cases ds with
      | nil => exact Bel.block hW' h.lt
      | cons d s => exact Evo.block hW' _ h.lt (fun hm => hd _ hm rfl)
    obtain ⟨es, clock, hr, rest⟩ := h.obj
    exact ⟨h.mine, h.apart, es, clock, by rw [hb, hr], rest⟩
  rw [run_lookup_m K ht hz h' k true]
  cases mget k m <;> rfl
theorem reads_lookup1 [DecidableEq κ] {t et : TypeId} {z : Value} (K : KeyOk P kt kf) (ht : P.underlying t = some (.map kt et)) (hz : pureRun P (zeroValue et) = some z) (h : OwnM w M gs W r kf vf m) (k : κ) {ds : List Nat} (hd : ∀ d ∈ ds, d ≠ r) :
    Reads P ds (Instr.lookup t (.map (some r)) (kf k) false) W (lookV1 vf z (mget k m)) := by
  intro W' hW'
  have h' : OwnM w M gs W' r kf vf m := by
    have hb : W'.heap[r]? = W.heap[r]? := by
      cases ds with
      | nil => exact Bel.block hW' h.lt
      | cons d s => exact Evo.block hW' _ h.lt (fun hm => hd _ hm rfl)
    obtain ⟨es, clock, hr, rest⟩ := h.obj
    exact ⟨h.mine, h.apart, es, clock, by rw [hb, hr], rest⟩
  rw [run_lookup_m K ht hz h' k false]
  cases mget k m <;> rfl

theorem EntR.len {es : List MapEntry} (h : EntR kf vf es m) : es.length = m.length := by
  have := congrArg List.length h
  simpa using this
theorem EntR.at_ : ∀ {es : List MapEntry} {m : List (κ × α)} {i : Nat} {x : κ × α}, EntR kf vf es m → m[i]? = some x → ∃ e, es[i]? = some e ∧ e.key = kf x.1 ∧ e.val = vf x.2
  | es, m, i, x, h, hx => by
    have := congrArg (·[i]?) h
    simp only [List.getElem?_map, hx, Option.map_some] at this
    cases he : es[i]? with
    | none => rw [he] at this; cases this
    | some e =>
      rw [he] at this
      simp at this
      exact ⟨e, rfl, this.1, this.2⟩

theorem mset_at [DecidableEq κ] {k : κ} {v : α} : ∀ {m : List (κ × α)} {j : Nat}, midx k m = some j → mset k v m = m.set j (k, v)
  | [], j, h => by cases h
  | x :: r, j, h => by
    unfold midx at h
    unfold mset
    split at h
    · rename_i he
      cases h
      rw [if_pos he]
      rfl
    · rename_i he
      rw [if_neg he]
      cases hr : midx k r with
      | none => rw [hr] at h; cases h
      | some i =>
        rw [hr] at h
        cases h
        rw [mset_at hr]
        rfl
theorem mset_new [DecidableEq κ] {k : κ} {v : α} : ∀ {m : List (κ × α)}, midx k m = none → mset k v m = m ++ [(k, v)]
  | [], _ => rfl
  | x :: r, h => by
    unfold midx at h
    unfold mset
    split at h
    · cases h
    · rename_i he
      rw [if_neg he]
      cases hr : midx k r with
      | none => rw [mset_new hr]; rfl
      | some i => rw [hr] at h; cases h
theorem mdel_at [DecidableEq κ] {k : κ} : ∀ {m : List (κ × α)} {j : Nat}, midx k m = some j → mdel k m = m.eraseIdx j
  | [], j, h => by cases h
  | x :: r, j, h => by
    unfold midx at h
    unfold mdel
    split at h
    · rename_i he
      cases h
      rw [if_pos he]
      rfl
    · rename_i he
      rw [if_neg he]
      cases hr : midx k r with
      | none => rw [hr] at h; cases h
      | some i =>
        rw [hr] at h
        cases h
        rw [mdel_at hr]
        rfl
theorem mdel_none [DecidableEq κ] {k : κ} : ∀ {m : List (κ × α)}, midx k m = none → mdel k m = m
  | [], _ => rfl
  | x :: r, h => by
    unfold midx at h
    unfold mdel
    split at h
    · cases h
    · rename_i he
      rw [if_neg he]
      cases hr : midx k r with
      | none => rw [mdel_none hr]
      | some i => rw [hr] at h; cases h
theorem midx_key [DecidableEq κ] {k : κ} : ∀ {m : List (κ × α)} {j : Nat}, midx k m = some j → ∃ v, m[j]? = some (k, v)
  | [], j, h => by cases h
  | x :: r, j, h => by
    unfold midx at h
    split at h
    · rename_i he
      cases h
      exact ⟨x.2, by rw [he]; rfl⟩
    · cases hr : midx k r with
      | none => rw [hr] at h; cases h
      | some i =>
        rw [hr] at h
        cases h
        obtain ⟨v, hv⟩ := midx_key hr
        exact ⟨v, by simpa using hv⟩

theorem setObj_heap (h : r < W.heap.size) (o : Obj) : (W.heap.setIfInBounds r o)[r]? = some o := by simp [h]

/-- Putting in. -/
theorem opw_mapUpdate [DecidableEq κ] {t et : TypeId} {k : κ} {v : α} {K : Value → World → Prop} (Ko : KeyOk P kt kf) (ht : P.underlying t = some (.map kt et)) (hA : AtF w M gs W) (ho : OwnM w M gs W r kf vf m)
    (h : ∀ w', AtF w M gs w' → Keeps gs W w' → Chg (fun b => b = r) W w' → OwnM w M gs w' r kf vf (mset k v m) → K undef w') : OpW P (skipS (Instr.mapUpdate t (.map (some r)) (kf k) (vf v))) W K := by
  have hl := ho.lt
  obtain ⟨es, clock, hr, he, hn, hb⟩ := ho.obj
  have fin : ∀ (es' : Array MapEntry) (clock' : Nat), EntR kf vf es'.toList (mset k v m) → (es'.toList.map (·.born)).Nodup → (∀ e ∈ es'.toList, e.born < clock') →
      K undef { W with heap := W.heap.setIfInBounds r (.map es' clock') } := fun es' clock' h1 h2 h3 =>
    h _ (hA.setObjF ho.mine) (keeps_setObj ho.apart) chg_setObj ⟨ho.mine, ho.apart, es', clock', setObj_heap hl _, h1, h2, h3⟩
  have hrun : ∃ es' clock', (Instr.mapUpdate t (.map (some r)) (kf k) (vf v)).run P W = .ok () { W with heap := W.heap.setIfInBounds r (.map es' clock') } ∧ EntR kf vf es'.toList (mset k v m) ∧ (es'.toList.map (·.born)).Nodup ∧ (∀ e ∈ es'.toList, e.born < clock') := by
    unfold Instr.mapUpdate
    rw [run_bind_ok (run_underlying ht W)]
    simp only
    rw [run_bind_ok (run_getObj_m hr)]
    simp only
    rw [run_bind_ok (Ko.chk false k W), run_bind_ok (findKey_run Ko k W he)]
    cases hm : midx k m with
    | none =>
      refine ⟨es.push { key := kf k, val := vf v, born := clock }, clock + 1, run_setObj_m hr _, ?_, ?_, ?_⟩
      · rw [mset_new hm, Array.toList_push]
        unfold EntR at he ⊢
        rw [List.map_append, List.map_append, he]
        rfl
      · rw [Array.toList_push, List.map_append]
        refine List.nodup_append.2 ⟨hn, by simp, fun a ha b hb' => ?_⟩
        simp at hb'
        obtain ⟨e, hem, rfl⟩ := List.mem_map.1 ha
        have := hb e hem
        omega
      · intro e hem
        rw [Array.toList_push] at hem
        rcases List.mem_append.1 hem with h1 | h1
        · have := hb e h1; omega
        · simp at h1; subst h1; simp
    | some j =>
      obtain ⟨v0, hv0⟩ := midx_key hm
      obtain ⟨e0, he0, hk0, _⟩ := EntR.at_ he hv0
      have he0' : es[j]? = some e0 := by simpa using he0
      simp only [Option.bind_some, hv0, Option.map_some, he0', Option.getD_some, hk0]
      have hks : (Instr.keyThatStays (kf k) (kf k)).run P W = .ok (kf k) W := by
        unfold Instr.keyThatStays
        rw [if_pos (Ko.bits k)]
        rfl
      rw [run_bind_ok hks]
      refine ⟨es.modify j fun e => { e with key := kf k, val := vf v }, clock, run_setObj_m hr _, ?_, ?_, ?_⟩
      · rw [mset_at hm]
        unfold EntR at he ⊢
        rw [List.map_set, ← he]
        apply List.ext_getElem?
        intro i
        simp only [List.getElem?_map, Array.getElem?_toList, Array.getElem?_modify, List.getElem?_set, List.length_map, Array.length_toList]
        by_cases hij : j = i
        · subst hij
          have := (Array.getElem?_eq_some_iff.1 he0').1
          simp [this]
        · simp [hij]
      · have : (es.modify j fun e => { e with key := kf k, val := vf v }).toList.map (·.born) = es.toList.map (·.born) := by
          apply List.ext_getElem?
          intro i
          simp only [List.getElem?_map, Array.getElem?_toList, Array.getElem?_modify]
          by_cases hij : j = i
          · subst hij; simp [he0']
          · simp [hij]
        rw [this]
        exact hn
      · intro e hem
        obtain ⟨i, hi⟩ := List.mem_iff_getElem?.1 hem
        simp only [Array.getElem?_toList, Array.getElem?_modify] at hi
        by_cases hij : j = i
        · subst hij
          simp [he0'] at hi
          subst hi
          exact hb e0 (List.mem_of_getElem? he0)
        · simp [hij] at hi
          exact hb e (List.mem_of_getElem? (i := i) (by simpa using hi))
  obtain ⟨es', clock', hr', h1, h2, h3⟩ := hrun
  unfold OpW skipS
  rw [run_bind_ok hr']
  exact fin es' clock' h1 h2 h3

theorem map_eraseIdx' {α β : Type} (f : α → β) : ∀ (l : List α) (i : Nat), (l.eraseIdx i).map f = (l.map f).eraseIdx i
  | [], _ => rfl
  | _ :: _, 0 => rfl
  | x :: l, i + 1 => by simp [map_eraseIdx' f l i]
/-- Taking out. -/
theorem opw_delete [DecidableEq κ] {t et ty : TypeId} {fl : Array Bool} {k : κ} {K : Value → World → Prop} (Ko : KeyOk P kt kf) (ht : P.underlying t = some (.map kt et)) (hA : AtF w M gs W) (ho : OwnM w M gs W r kf vf m) {t2 : TypeId}
    (h : ∀ w', AtF w M gs w' → Keeps gs W w' → Chg (fun b => b = r) W w' → OwnM w M gs w' r kf vf (mdel k m) → K (.tuple #[]) w') : OpW P (builtin .delete #[t, t2] ty fl #[.map (some r), kf k]) W K := by
  have hl := ho.lt
  obtain ⟨es, clock, hr, he, hn, hb⟩ := ho.obj
  have hrun : ∃ es', (Builtin.delete_ #[t, t2] ty #[.map (some r), kf k]).run P W = .ok (.tuple #[]) { W with heap := W.heap.setIfInBounds r (.map es' clock) } ∧ EntR kf vf es'.toList (mdel k m) ∧ (es'.toList.map (·.born)).Nodup ∧ (∀ e ∈ es'.toList, e.born < clock) := by
    unfold Builtin.delete_
    simp only [List.getElem?_toArray, List.getElem?_cons_zero, List.getElem?_cons_succ]
    rw [run_bind_ok (run_underlying ht W)]
    simp only
    rw [run_bind_ok (run_getObj_m hr)]
    simp only
    rw [run_bind_ok (Ko.chk es.isEmpty k W), run_bind_ok (findKey_run Ko k W he)]
    cases hm : midx k m with
    | none =>
      refine ⟨es, ?_, by rw [mdel_none hm]; exact he, hn, hb⟩
      simp only [Option.bind_none]
      rw [run_bind_ok (run_setObj_m hr _)]
      rfl
    | some j =>
      obtain ⟨v0, hv0⟩ := midx_key hm
      simp only [Option.bind_some, hv0, Option.map_some]
      refine ⟨es.eraseIdxIfInBounds j, by rw [run_bind_ok (run_setObj_m hr _)]; rfl, ?_, ?_, ?_⟩
      all_goals
        have hjl : j < es.size := by
          have := midx_lt hm
          have := EntR.len he
          simp at this
          omega
        have hel : (es.eraseIdxIfInBounds j).toList = es.toList.eraseIdx j := by
          simp [Array.eraseIdxIfInBounds, hjl]
      · rw [hel, mdel_at hm]
        unfold EntR at he ⊢
        rw [map_eraseIdx', he, map_eraseIdx']
      · rw [hel, map_eraseIdx']
        exact hn.sublist (List.eraseIdx_sublist ..)
      · intro e hem
        rw [hel] at hem
        exact hb e (List.mem_of_mem_eraseIdx hem)
  obtain ⟨es', hr', h1, h2, h3⟩ := hrun
  have hrun2 : (builtin .delete #[t, t2] ty fl #[.map (some r), kf k]).run P W = .ok (.value (.tuple #[])) { W with heap := W.heap.setIfInBounds r (.map es' clock) } := by
    show (do pure (Next.value (← Builtin.delete_ #[t, t2] ty #[.map (some r), kf k])) : Sem Next).run P W = _
    rw [run_bind_ok hr']
    rfl
  unfold OpW
  rw [hrun2]
  exact h _ (hA.setObjF ho.mine) (keeps_setObj ho.apart) chg_setObj ⟨ho.mine, ho.apart, es', clock, setObj_heap hl _, h1, h2, h3⟩
end
end Go.Vc

/- Heaps as lists: order, a hole that moves up and down, where each key stands. No program in sight. -/
namespace Go.Vc.H
open Go.Vc

abbrev It := Int × Int
/-- Ahead, in time, then by key. -/
def ahead (a b : It) : Prop := a.2 < b.2 ∨ (a.2 = b.2 ∧ a.1 < b.1)
instance (a b : It) : Decidable (ahead a b) := by unfold ahead; infer_instance
def le (x y : It) : Prop := ¬ ahead y x
theorem le_trans {x y z : It} (h : le x y) (k : le y z) : le x z := by unfold le ahead at *; omega
theorem le_of_ahead {x y : It} (h : ahead x y) : le x y := by unfold le ahead at *; omega
theorem le_refl (x : It) : le x x := by unfold le ahead; omega
theorem ahead_of_le {x y : It} (h : le x y) (hk : x.1 ≠ y.1) : ahead x y := by unfold le ahead at *; omega
theorem ahead_irrefl (x : It) : ¬ ahead x x := by unfold ahead; omega
theorem ahead_trans {x y z : It} (h : ahead x y) (k : ahead y z) : ahead x z := by unfold ahead at *; omega

def OkP (l : List It) (c : Nat) : Prop := ∀ x y, l[(c - 1) / 2]? = some x → l[c]? = some y → le x y
def Heap (l : List It) : Prop := ∀ c, 0 < c → OkP l c
def C2 (l : List It) (j : Nat) : Prop := ∀ c, 0 < c → (c - 1) / 2 = j → 0 < j → ∀ x y, l[(j - 1) / 2]? = some x → l[c]? = some y → le x y
def Up (l : List It) (j : Nat) : Prop := (∀ c, 0 < c → c ≠ j → (c - 1) / 2 ≠ j → OkP l c) ∧ C2 l j
def Dn (l : List It) (j : Nat) : Prop := (∀ c, 0 < c → (c - 1) / 2 ≠ j → OkP l c) ∧ C2 l j

def swapL (l : List It) (i k : Nat) (x y : It) : List It := (l.set i y).set k x
theorem swapL_len (l : List It) (i k : Nat) (x y : It) : (swapL l i k x y).length = l.length := by simp [swapL]
theorem swapL_at {l : List It} {i k : Nat} {x y : It} (hi : l[i]? = some x) (hk : l[k]? = some y) (q : Nat) : (swapL l i k x y)[q]? = if q = k then some x else if q = i then some y else l[q]? := by
  have h1 := (List.getElem?_eq_some_iff.1 hi).1
  have h2 := (List.getElem?_eq_some_iff.1 hk).1
  unfold swapL
  rw [List.getElem?_set]
  by_cases hq : q = k
  · subst hq
    simp [h2]
  · rw [if_neg (Ne.symm hq), if_neg hq, List.getElem?_set]
    by_cases hqi : q = i
    · subst hqi
      simp [h1]
    · rw [if_neg (Ne.symm hqi), if_neg hqi]

theorem up_step {l : List It} {j : Nat} {x y : It} (hj : 0 < j) (hx : l[j]? = some x) (hy : l[(j - 1) / 2]? = some y) (h : Up l j) : Up (swapL l j ((j - 1) / 2) x y) ((j - 1) / 2) := by
  obtain ⟨h1, h2⟩ := h
  have sw := swapL_at hx hy
  have hp : (j - 1) / 2 < j := by omega
  refine ⟨fun c hc hne hpar u v hu hv => ?_, fun c hc hpar hpos u v hu hv => ?_⟩
  · rw [sw] at hu hv
    have hcj : c ≠ j := fun e => hpar (by rw [e])
    rw [if_neg hne, if_neg hcj] at hv
    rw [if_neg hpar] at hu
    by_cases hcc : (c - 1) / 2 = j
    · rw [if_pos hcc] at hu
      cases hu
      exact h2 c hc hcc hj y v hy hv
    · rw [if_neg hcc] at hu
      exact h1 c hc hcj hcc u v hu hv
  · rw [sw] at hu hv
    have e1 : ¬ ((j - 1) / 2 - 1) / 2 = (j - 1) / 2 := by omega
    have e2 : ¬ ((j - 1) / 2 - 1) / 2 = j := by omega
    rw [if_neg e1, if_neg e2] at hu
    have hpp : le u y := h1 ((j - 1) / 2) hpos (by omega) (by omega) u y hu hy
    have hcp : ¬ c = (j - 1) / 2 := by omega
    rw [if_neg hcp] at hv
    by_cases hcj : c = j
    · rw [if_pos hcj] at hv
      cases hv
      exact hpp
    · rw [if_neg hcj] at hv
      exact le_trans hpp (h1 c hc hcj (by omega) y v (by rw [hpar]; exact hy) hv)

/-- The hole comes to rest on its way up. -/
theorem up_stop {l : List It} {j : Nat} (h : Up l j) (hs : 0 < j → OkP l j) : Dn l j :=
  ⟨fun c hc hp => by
    by_cases e : c = j
    · subst e; exact hs hc
    · exact h.1 c hc e hp, h.2⟩

theorem dn_step {l : List It} {j k : Nat} {x z : It} (hk : 0 < k) (hpk : (k - 1) / 2 = j) (hx : l[j]? = some x) (hz : l[k]? = some z) (ha : ahead z x) (hmin : ∀ c, 0 < c → (c - 1) / 2 = j → ∀ y, l[c]? = some y → le z y) (h : Dn l j) : Dn (swapL l j k x z) k := by
  obtain ⟨h1, h2⟩ := h
  have sw := swapL_at hx hz
  have hjk : j < k := by omega
  refine ⟨fun c hc hpar u v hu hv => ?_, fun c hc hpar hpos u v hu hv => ?_⟩
  · rw [sw] at hu hv
    rw [if_neg hpar] at hu
    by_cases hck : c = k
    · subst hck
      rw [if_pos rfl] at hv
      rw [if_pos hpk] at hu
      cases hu; cases hv
      exact le_of_ahead ha
    · rw [if_neg hck] at hv
      by_cases hcj : c = j
      · subst hcj
        rw [if_pos rfl] at hv
        cases hv
        have e1 : ¬ (c - 1) / 2 = c := by omega
        rw [if_neg e1] at hu
        exact h2 k hk hpk hc u z hu hz
      · rw [if_neg hcj] at hv
        by_cases hcc : (c - 1) / 2 = j
        · rw [if_pos hcc] at hu
          cases hu
          exact hmin c hc hcc v hv
        · rw [if_neg hcc] at hu
          exact h1 c hc hcc u v hu hv
  · rw [sw] at hu hv
    rw [hpk] at hu
    rw [if_neg (by omega), if_pos rfl] at hu
    cases hu
    rw [if_neg (by omega), if_neg (by omega)] at hv
    exact h1 c hc (by omega) z v (by rw [hpar]; exact hz) hv
theorem dn_stop {l : List It} {j : Nat} (h : Dn l j) (hs : ∀ c, 0 < c → (c - 1) / 2 = j → OkP l c) : Heap l := fun c hc => by
  by_cases e : (c - 1) / 2 = j
  · exact hs c hc e
  · exact h.1 c hc e

theorem heap_top {l : List It} (h : Heap l) {x : It} (hx : l[0]? = some x) : ∀ (j : Nat) (y : It), l[j]? = some y → le x y := by
  intro j
  induction j using Nat.strongRecOn with
  | _ j ih =>
    intro y hy
    rcases Nat.eq_zero_or_pos j with h0 | hpos
    · subst h0
      rw [hx] at hy
      cases hy
      exact le_refl x
    · have hl := (List.getElem?_eq_some_iff.1 hy).1
      obtain ⟨p, hp⟩ : ∃ p, l[(j - 1) / 2]? = some p := ⟨_, List.getElem?_eq_getElem (by omega)⟩
      exact le_trans (ih _ (by omega) p hp) (h j hpos p y hp hy)

/-- The item at a place replaced: a hole there. -/
theorem up_set {l : List It} {i : Nat} (x : It) (h : Heap l) : Up (l.set i x) i := by
  refine ⟨fun c hc hne hpar u v hu hv => ?_, fun c hc hpar hpos u v hu hv => ?_⟩
  · rw [List.getElem?_set_ne (Ne.symm hpar)] at hu
    rw [List.getElem?_set_ne (Ne.symm hne)] at hv
    exact h c hc u v hu hv
  · rw [List.getElem?_set_ne (by omega)] at hu
    rw [List.getElem?_set_ne (by omega)] at hv
    have hvl := (List.getElem?_eq_some_iff.1 hv).1
    obtain ⟨m, hm⟩ : ∃ m, l[i]? = some m := ⟨_, List.getElem?_eq_getElem (by omega)⟩
    exact le_trans (h i hpos u m hu hm) (h c hc m v (by rw [hpar]; exact hm) hv)
theorem heap_take {l : List It} (n : Nat) (h : Heap l) : Heap (l.take n) := fun c hc u v hu hv => by
  rw [List.getElem?_take] at hu hv
  split at hu
  · split at hv
    · exact h c hc u v hu hv
    · cases hv
  · cases hu
/-- An item added at the end: a hole there. -/
theorem up_push {l : List It} (x y : It) (h : Heap l) : Up ((l ++ [y]).set l.length x) l.length := by
  have e : (l ++ [y]).set l.length x = l ++ [x] := by simp
  rw [e]
  refine ⟨fun c hc hne hpar u v hu hv => ?_, fun c hc hpar hpos u v hu hv => ?_⟩
  · have hvl := (List.getElem?_eq_some_iff.1 hv).1
    simp at hvl
    rw [List.getElem?_append_left (by omega)] at hu hv
    exact h c hc u v hu hv
  · have hvl := (List.getElem?_eq_some_iff.1 hv).1
    simp at hvl
    omega

/-! ### Where each key stands -/
structure PlOk (l pl : List It) : Prop where
  fwd : ∀ (i : Nat) (x : It), l[i]? = some x → mget x.1 pl = some (i : Int)
  bwd : ∀ (k v : Int), mget k pl = some v → ∃ (i : Nat) (x : It), v = i ∧ l[i]? = some x ∧ x.1 = k
  nd : (pl.map (·.1)).Nodup
theorem PlOk.inj {l pl : List It} (h : PlOk l pl) {i j : Nat} {x y : It} (hx : l[i]? = some x) (hy : l[j]? = some y) (he : x.1 = y.1) : i = j := by
  have h1 := h.fwd i x hx
  have h2 := h.fwd j y hy
  rw [he, h2] at h1
  cases h1
  omega
theorem mget_mset {k j v : Int} (m : List It) : mget j (mset k v m) = if j = k then some v else mget j m := by
  by_cases h : j = k
  · subst h; rw [if_pos rfl]; exact mget_mset_self ..
  · rw [if_neg h]; exact mget_mset_ne v h m
theorem plok_swap {l pl : List It} {i k : Nat} {x y : It} (hi : l[i]? = some x) (hk : l[k]? = some y) (hne : i ≠ k) (h : PlOk l pl) : PlOk (swapL l i k x y) (mset x.1 (k : Int) (mset y.1 (i : Int) pl)) := by
  have sw := swapL_at hi hk
  have hxy : x.1 ≠ y.1 := fun e => hne (h.inj hi hk e)
  refine ⟨fun q z hz => ?_, fun q v hv => ?_, mset_nodup (mset_nodup h.nd)⟩
  · rw [sw] at hz
    rw [mget_mset, mget_mset]
    by_cases hqk : q = k
    · rw [if_pos hqk] at hz
      cases hz
      rw [if_pos rfl, hqk]
    · rw [if_neg hqk] at hz
      by_cases hqi : q = i
      · rw [if_pos hqi] at hz
        cases hz
        rw [if_neg hxy.symm, if_pos rfl, hqi]
      · rw [if_neg hqi] at hz
        rw [if_neg (fun e => hqi (h.inj hz hi e)), if_neg (fun e => hqk (h.inj hz hk e))]
        exact h.fwd q z hz
  · rw [mget_mset, mget_mset] at hv
    by_cases hq1 : q = x.1
    · rw [if_pos hq1] at hv
      cases hv
      exact ⟨k, x, rfl, by rw [sw, if_pos rfl], hq1.symm⟩
    · rw [if_neg hq1] at hv
      by_cases hq2 : q = y.1
      · rw [if_pos hq2] at hv
        cases hv
        exact ⟨i, y, rfl, by rw [sw, if_neg hne, if_pos rfl], hq2.symm⟩
      · rw [if_neg hq2] at hv
        obtain ⟨p, z, hpv, hz, hzk⟩ := h.bwd q v hv
        refine ⟨p, z, hpv, ?_, hzk⟩
        rw [sw, if_neg (fun e => ?_), if_neg (fun e => ?_)]
        · exact hz
        · subst e; rw [hi] at hz; cases hz; exact hq1 hzk.symm
        · subst e; rw [hk] at hz; cases hz; exact hq2 hzk.symm

/-- The same items. -/
def Same (l l' : List It) : Prop := l'.length = l.length ∧ ∀ x, x ∈ l' ↔ x ∈ l
theorem Same.refl (l : List It) : Same l l := ⟨rfl, fun _ => Iff.rfl⟩
theorem Same.trans {a b c : List It} (h : Same a b) (k : Same b c) : Same a c := ⟨k.1.trans h.1, fun x => (k.2 x).trans (h.2 x)⟩
theorem same_swap {l : List It} {i k : Nat} {x y : It} (hi : l[i]? = some x) (hk : l[k]? = some y) : Same l (swapL l i k x y) := by
  have sw := swapL_at hi hk
  refine ⟨swapL_len .., fun z => ⟨fun hz => ?_, fun hz => ?_⟩⟩
  · obtain ⟨q, hq⟩ := List.mem_iff_getElem?.1 hz
    rw [sw] at hq
    split at hq
    · cases hq; exact List.mem_of_getElem? hi
    · split at hq
      · cases hq; exact List.mem_of_getElem? hk
      · exact List.mem_of_getElem? hq
  · obtain ⟨q, hq⟩ := List.mem_iff_getElem?.1 hz
    by_cases hqi : q = i
    · subst hqi
      rw [hi] at hq
      cases hq
      exact List.mem_of_getElem? (i := k) (by rw [sw, if_pos rfl])
    · by_cases hqk : q = k
      · subst hqk
        rw [hk] at hq
        cases hq
        exact List.mem_of_getElem? (i := i) (by rw [sw, if_neg (Ne.symm hqi), if_pos rfl])
      · exact List.mem_of_getElem? (i := q) (by rw [sw, if_neg hqk, if_neg hqi]; exact hq)

/-! ### Levels -/
def lev (n : Nat) : Nat := if n = 0 then 0 else lev ((n - 1) / 2) + 1
termination_by n
theorem lev_zero : lev 0 = 0 := by unfold lev; rfl
theorem lev_pos {n : Nat} (h : 0 < n) : lev n = lev ((n - 1) / 2) + 1 := by rw [lev, if_neg (by omega)]
theorem lev_mono : ∀ (b a : Nat), a ≤ b → lev a ≤ lev b := by
  intro b
  induction b using Nat.strongRecOn with
  | _ b ih =>
    intro a h
    rcases Nat.eq_zero_or_pos a with h0 | hp
    · subst h0; rw [lev_zero]; exact Nat.zero_le _
    · rw [lev_pos hp, lev_pos (by omega : 0 < b)]
      exact Nat.succ_le_succ (ih _ (by omega) _ (by omega))
theorem lev_le (n : Nat) : lev n ≤ n := by
  induction n using Nat.strongRecOn with
  | _ n ih =>
    rcases Nat.eq_zero_or_pos n with h0 | hp
    · subst h0; rw [lev_zero]; exact Nat.le_refl _
    · rw [lev_pos hp]
      have := ih ((n - 1) / 2) (by omega)
      omega
end Go.Vc.H

/- Heaps as lists: what putting and dropping leave. No program in sight. -/
namespace Go.Vc.H
open Go.Vc

theorem mget_mdel {k j : Int} {m : List It} (hn : (m.map (·.1)).Nodup) : mget j (mdel k m) = if j = k then none else mget j m := by
  by_cases h : j = k
  · subst h; rw [if_pos rfl]; exact mget_mdel_self hn
  · rw [if_neg h]; exact mget_mdel_ne h m

theorem PlOk.none_of {l pl : List It} (h : PlOk l pl) {k : Int} (hk : mget k pl = none) : ∀ x ∈ l, x.1 ≠ k := fun x hx e => by
  obtain ⟨i, hi⟩ := List.mem_iff_getElem?.1 hx
  have := h.fwd i x hi
  rw [e, hk] at this
  cases this
theorem PlOk.some_of {l pl : List It} (h : PlOk l pl) {k v : Int} (hk : mget k pl = some v) : ∃ (i : Nat) (t : Int), v = i ∧ l[i]? = some (k, t) := by
  obtain ⟨i, x, hv, hx, rfl⟩ := h.bwd k v hk
  exact ⟨i, x.2, hv, hx⟩
theorem PlOk.uniq {l pl : List It} (h : PlOk l pl) {x y : It} (hx : x ∈ l) (hy : y ∈ l) (he : x.1 = y.1) : x = y := by
  obtain ⟨i, hi⟩ := List.mem_iff_getElem?.1 hx
  obtain ⟨j, hj⟩ := List.mem_iff_getElem?.1 hy
  have := h.inj hi hj he
  subst this
  rw [hi] at hj
  cases hj
  rfl
theorem PlOk.nil : PlOk [] [] := ⟨fun i x h => by simp at h, fun k v h => by simp [mget] at h, by simp⟩

/-- One placed anew: the list has it at a place, all other places are as they were, and no other key is there. -/
theorem plok_at {l l' pl : List It} {i : Nat} {x : It} (hx : l'[i]? = some x) (hs : ∀ q, q ≠ i → l'[q]? = l[q]?) (hi : ∀ y, l[i]? = some y → y.1 = x.1 ) (hb : mget x.1 pl = some (i : Int) ∨ mget x.1 pl = none) (h : PlOk l pl) : PlOk l' (mset x.1 (i : Int) pl) := by
  refine ⟨fun q z hz => ?_, fun k v hv => ?_, mset_nodup h.nd⟩
  · by_cases hq : q = i
    · subst hq
      rw [hx] at hz
      cases hz
      exact mget_mset_self ..
    · rw [hs q hq] at hz
      have := h.fwd q z hz
      rw [mget_mset, if_neg]
      · exact this
      · intro e
        rw [e] at this
        rcases hb with hb | hb <;> rw [hb] at this
        · cases this; omega
        · cases this
  · rw [mget_mset] at hv
    by_cases hk : k = x.1
    · rw [if_pos hk] at hv
      cases hv
      exact ⟨i, x, rfl, hx, hk.symm⟩
    · rw [if_neg hk] at hv
      obtain ⟨q, z, hqv, hz, hzk⟩ := h.bwd k v hv
      refine ⟨q, z, hqv, ?_, hzk⟩
      have : q ≠ i := fun e => by
        subst e
        exact hk (by rw [← hzk, hi z hz])
      rw [hs q this]
      exact hz

theorem plok_new {l pl : List It} {x z : It} (h : PlOk l pl) (hk : mget x.1 pl = none) : PlOk ((l ++ [z]).set l.length x) (mset x.1 (l.length : Int) pl) := by
  refine plok_at (l := l) (by simp) (fun q hq => ?_) (fun y hy => by simp at hy) (.inr hk) h
  have e : (l ++ [z]).set l.length x = l ++ [x] := by simp
  rw [e, List.getElem?_append]
  split
  · rfl
  · rw [List.getElem?_eq_none (l := [x]) (by simp; omega), List.getElem?_eq_none (by omega)]
theorem mem_new {l pl : List It} {x z : It} (h : PlOk l pl) (hk : mget x.1 pl = none) : ∀ y, y ∈ (l ++ [z]).set l.length x ↔ y = x ∨ (y ∈ l ∧ y.1 ≠ x.1) := fun y => by
  have e : (l ++ [z]).set l.length x = l ++ [x] := by simp
  rw [e]
  simp only [List.mem_append, List.mem_singleton]
  constructor
  · rintro (hy | hy)
    · exact .inr ⟨hy, h.none_of hk y hy⟩
    · exact .inl hy
  · rintro (hy | hy)
    · exact .inr hy
    · exact .inl hy.1
theorem plok_old {l pl : List It} {i : Nat} {x : It} {t : Int} (h : PlOk l pl) (hi : l[i]? = some (x.1, t)) (hk : mget x.1 pl = some (i : Int)) : PlOk (l.set i x) (mset x.1 (i : Int) pl) := by
  have hil := (List.getElem?_eq_some_iff.1 hi).1
  exact plok_at (l := l) (by simp [hil]) (fun q hq => by rw [List.getElem?_set_ne (Ne.symm hq)]) (fun y hy => by rw [hi] at hy; cases hy; rfl) (.inl hk) h
theorem mem_old {l pl : List It} {i : Nat} {x : It} {t : Int} (h : PlOk l pl) (hi : l[i]? = some (x.1, t)) : ∀ y, y ∈ l.set i x ↔ y = x ∨ (y ∈ l ∧ y.1 ≠ x.1) := fun y => by
  have hil := (List.getElem?_eq_some_iff.1 hi).1
  constructor
  · intro hy
    obtain ⟨q, hq⟩ := List.mem_iff_getElem?.1 hy
    by_cases hqi : q = i
    · subst hqi
      simp [hil] at hq
      exact .inl hq.symm
    · rw [List.getElem?_set_ne (Ne.symm hqi)] at hq
      exact .inr ⟨List.mem_of_getElem? hq, fun e => hqi (h.inj hq hi e)⟩
  · rintro (rfl | ⟨hy, hne⟩)
    · exact List.mem_iff_getElem?.2 ⟨i, by simp [hil]⟩
    · obtain ⟨q, hq⟩ := List.mem_iff_getElem?.1 hy
      refine List.mem_iff_getElem?.2 ⟨q, ?_⟩
      rw [List.getElem?_set_ne]
      · exact hq
      · intro e
        subst e
        rw [hi] at hq
        cases hq
        exact hne rfl

/-- The last one away. -/
theorem plok_last {l pl : List It} {y : It} (h : PlOk l pl) (hy : l[l.length - 1]? = some y) : PlOk (l.take (l.length - 1)) (mdel y.1 pl) := by
  refine ⟨fun q z hz => ?_, fun k v hv => ?_, mdel_nodup h.nd⟩
  · rw [List.getElem?_take] at hz
    split at hz
    · rename_i hq
      rw [mget_mdel h.nd, if_neg (fun e => ?_)]
      · exact h.fwd q z hz
      · have := h.inj hz hy e
        omega
    · cases hz
  · rw [mget_mdel h.nd] at hv
    split at hv
    · cases hv
    · rename_i hk
      obtain ⟨q, z, hqv, hz, hzk⟩ := h.bwd k v hv
      refine ⟨q, z, hqv, ?_, hzk⟩
      have := (List.getElem?_eq_some_iff.1 hz).1
      rw [List.getElem?_take, if_pos]
      · exact hz
      · have : q ≠ l.length - 1 := fun e => by
          subst e
          rw [hy] at hz
          cases hz
          exact hk hzk.symm
        omega
theorem mem_last {l pl : List It} {y : It} (h : PlOk l pl) (hy : l[l.length - 1]? = some y) : ∀ z, z ∈ l.take (l.length - 1) ↔ z ∈ l ∧ z.1 ≠ y.1 := fun z => by
  constructor
  · intro hz
    obtain ⟨q, hq⟩ := List.mem_iff_getElem?.1 hz
    rw [List.getElem?_take] at hq
    split at hq
    · exact ⟨List.mem_of_getElem? hq, fun e => by have := h.inj hq hy e; omega⟩
    · cases hq
  · rintro ⟨hz, hne⟩
    obtain ⟨q, hq⟩ := List.mem_iff_getElem?.1 hz
    have hql := (List.getElem?_eq_some_iff.1 hq).1
    refine List.mem_iff_getElem?.2 ⟨q, ?_⟩
    rw [List.getElem?_take, if_pos]
    · exact hq
    · have : q ≠ l.length - 1 := fun e => by
        subst e
        rw [hy] at hq
        cases hq
        exact hne rfl
      omega
/-- The last one into the place of another one. -/
theorem plok_mid {l pl : List It} {i : Nat} {x y : It} (h : PlOk l pl) (hx : l[i]? = some x) (hy : l[l.length - 1]? = some y) (hi : i < l.length - 1) : PlOk ((l.take (l.length - 1)).set i y) (mset y.1 (i : Int) (mdel x.1 pl)) := by
  have hxy : x.1 ≠ y.1 := fun e => by have := h.inj hx hy e; omega
  have at_ : ∀ q, ((l.take (l.length - 1)).set i y)[q]? = if q = i then some y else if q < l.length - 1 then l[q]? else none := fun q => by
    rw [List.getElem?_set]
    by_cases hq : q = i
    · subst hq
      simp
      omega
    · rw [if_neg (Ne.symm hq), if_neg hq, List.getElem?_take]
  refine ⟨fun q z hz => ?_, fun k v hv => ?_, mset_nodup (mdel_nodup h.nd)⟩
  · rw [at_] at hz
    rw [mget_mset, mget_mdel h.nd]
    by_cases hq : q = i
    · rw [if_pos hq] at hz
      cases hz
      rw [if_pos rfl, hq]
    · rw [if_neg hq] at hz
      split at hz
      · rw [if_neg (fun e => by have := h.inj hz hy e; omega), if_neg (fun e => hq (h.inj hz hx e))]
        exact h.fwd q z hz
      · cases hz
  · rw [mget_mset, mget_mdel h.nd] at hv
    by_cases hk : k = y.1
    · rw [if_pos hk] at hv
      cases hv
      exact ⟨i, y, rfl, by rw [at_, if_pos rfl], hk.symm⟩
    · rw [if_neg hk] at hv
      split at hv
      · cases hv
      · rename_i hkx
        obtain ⟨q, z, hqv, hz, hzk⟩ := h.bwd k v hv
        refine ⟨q, z, hqv, ?_, hzk⟩
        have hql := (List.getElem?_eq_some_iff.1 hz).1
        have h1 : q ≠ i := fun e => by subst e; rw [hx] at hz; cases hz; exact hkx hzk.symm
        have h2 : q ≠ l.length - 1 := fun e => by subst e; rw [hy] at hz; cases hz; exact hk hzk.symm
        rw [at_, if_neg h1, if_pos (by omega)]
        exact hz
theorem mem_mid {l pl : List It} {i : Nat} {x y : It} (h : PlOk l pl) (hx : l[i]? = some x) (hy : l[l.length - 1]? = some y) (hi : i < l.length - 1) : ∀ z, z ∈ (l.take (l.length - 1)).set i y ↔ z ∈ l ∧ z.1 ≠ x.1 := fun z => by
  have hxy : x.1 ≠ y.1 := fun e => by have := h.inj hx hy e; omega
  have at_ : ∀ q, ((l.take (l.length - 1)).set i y)[q]? = if q = i then some y else if q < l.length - 1 then l[q]? else none := fun q => by
    rw [List.getElem?_set]
    by_cases hq : q = i
    · subst hq
      simp
      omega
    · rw [if_neg (Ne.symm hq), if_neg hq, List.getElem?_take]
  constructor
  · intro hz
    obtain ⟨q, hq⟩ := List.mem_iff_getElem?.1 hz
    rw [at_] at hq
    split at hq
    · cases hq
      exact ⟨List.mem_of_getElem? hy, hxy.symm⟩
    · rename_i hqi
      split at hq
      · exact ⟨List.mem_of_getElem? hq, fun e => hqi (h.inj hq hx e)⟩
      · cases hq
  · rintro ⟨hz, hne⟩
    obtain ⟨q, hq⟩ := List.mem_iff_getElem?.1 hz
    have hql := (List.getElem?_eq_some_iff.1 hq).1
    have h1 : q ≠ i := fun e => by subst e; rw [hx] at hq; cases hq; exact hne rfl
    by_cases h2 : q = l.length - 1
    · subst h2
      rw [hy] at hq
      cases hq
      exact List.mem_iff_getElem?.2 ⟨i, by rw [at_, if_pos rfl]⟩
    · exact List.mem_iff_getElem?.2 ⟨q, by rw [at_, if_neg h1, if_pos (by omega)]; exact hq⟩

/-- What a heap is. -/
structure Inv (l pl : List It) (st : Int) : Prop where
  heap : Heap l
  pl : PlOk l pl
  len : l.length < 549755813888
  st0 : 0 ≤ st
  st1 : st < 2305843009213693952
end Go.Vc.H

