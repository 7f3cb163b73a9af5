/- Own texts of this claim, laid together: VcOwn, VcArg, FK1, VcOwn2, VcStr, VcArr, VcMath, VcElt, VcPush, VcMap, VcKeys, VcDec, VcStore, VcAlloc, VcCopy, VcPart, K1, KShelf, K2, VcInv. -/
import Derived.Test.YthpmgbgnlnebbaaDoorMgbebf3539
import Derived.Laws.OwnMore
import Derived.Test.YthpmgbgnlnebbaaDoorProg
import Derived.Laws.BytesArg
import Derived.Laws.BytesString
import Derived.Laws.Concat
import Derived.Laws.Strings3
import Derived.Laws.Slices
import Derived.Laws.RangeString
import Derived.Laws.IdiomStrings
import GoSem.Core.View
import Derived.Carry
import Derived.MapKept
import Derived.Laws.CopyRow
import Derived.Shelf.Strings.OnBuilder
import Derived.Shelf.Strings.Cut
import Derived.Shelf.Strings.Split

/- Slices of the function's own: rows made since the first world, apart from the own boxes; making, adding, storing, reading. -/
namespace Go.Vc
open Go Go.RowKit

/-- A slice whose elements lie in memory as 'f' writes them. -/
abbrev SlE {α : Type} (w : World) (n : Nat) (f : α → List Value) (l : List α) (a : Option Addr) (len cap : Nat) : Prop := SlR w n (fun x cs => cs = f x) l a len cap

theorem SlR.imp {α : Type} {w : World} {n : Nat} {R R' : α → List Value → Prop} {l : List α} {a : Option Addr} {len cap : Nat} (h : SlR w n R l a len cap) (hR : ∀ x cs, R x cs → R' x cs) : SlR w n R' l a len cap :=
  h.mono (fun _ _ h => h) hR
theorem SlR.call {α : Type} {w w' : World} {n : Nat} {R : α → List Value → Prop} {l : List α} {a : Option Addr} {len cap : Nat} (h : SlR w n R l a len cap) (hb : Bel w w') : SlR w' n R l a len cap :=
  h.mono (cell_below hb.below) fun _ _ h => h
theorem SlR.each {α : Type} {w : World} {n : Nat} {R : α → List Value → Prop} {l : List α} {a : Option Addr} {len cap : Nat} (h : SlR w n R l a len cap) {x : α} (hx : x ∈ l) : ∃ cs, R x cs := by
  obtain ⟨i, hi, rfl⟩ := List.mem_iff_getElem.1 hx
  obtain ⟨_, cs, _, _, _, hr⟩ := h.at_ (List.getElem?_eq_getElem hi)
  exact ⟨cs, hr⟩
theorem SlR.len_le {α : Type} {w : World} {n : Nat} {R : α → List Value → Prop} {l : List α} {a : Option Addr} {len cap : Nat} (h : SlR w n R l a len cap) : len = l.length ∧ l.length ≤ 9223372036854775807 := ⟨h.1, h.1 ▸ Nat.le_trans h.2.1 h.2.2.1⟩

/-- An own slice: its row lies in a block that is new since the first world, or that may be written (M), apart from the own boxes. -/
structure OwnF {α : Type} (w : World) (M : Nat → Prop) (gs : List Nat) (W : World) (e : TypeId) (size : Nat) (f : α → List Value) (v : Value) (l : List α) : Prop where
  row0 : W.ownsRow 0 e size v l.length (l.flatMap f)
  mine : ∀ k, v.ownBlock = some k → w.heap.size ≤ k ∨ M k
  apart : ∀ g ∈ gs, v.ownBlock ≠ some g
abbrev OwnL {α : Type} (w : World) (gs : List Nat) (W : World) (e : TypeId) (size : Nat) (f : α → List Value) (v : Value) (l : List α) : Prop := OwnF w noB gs W e size f v l

theorem ownsRow_raise {W : World} {base b : Nat} {e : TypeId} {size n : Nat} {v : Value} {xs : List Value} (h : W.ownsRow b e size v n xs) (hm : ∀ k, v.ownBlock = some k → base ≤ k) : W.ownsRow base e size v n xs := by
  refine ⟨h.1, ?_⟩
  rcases h.2 with hn | ⟨g, cap, cur, hv, _, rest⟩
  · exact .inl hn
  · exact .inr ⟨g, cap, cur, hv, hm g (by rw [hv]; rfl), rest⟩

section
variable {α : Type} {w W W' : World} {M N : Nat → Prop} {gs gs' ds : List Nat} {e : TypeId} {size : Nat} {f : α → List Value} {v : Value} {l : List α}

theorem OwnF.lt (h : OwnF w M gs W e size f v l) : ∀ k, v.ownBlock = some k → k < W.heap.size := fun k hk => (h.row0.lt k hk).2
/-- Out of a row above a base. -/
theorem OwnF.mk_ {base : Nat} (h : W.ownsRow base e size v l.length (l.flatMap f)) (hm : ∀ k, base ≤ k → k < W.heap.size → w.heap.size ≤ k ∨ M k) (hap : ∀ g ∈ gs, v.ownBlock ≠ some g) : OwnF w M gs W e size f v l :=
  ⟨ownsRow_raise h fun _ _ => Nat.zero_le _, fun k hk => hm k (h.lt k hk).1 (h.lt k hk).2, hap⟩
theorem OwnL.of (h : W.ownsRow w.heap.size e size v l.length (l.flatMap f)) (hap : ∀ g ∈ gs, v.ownBlock ≠ some g) : OwnL w gs W e size f v l := OwnF.mk_ h (fun _ h _ => .inl h) hap
theorem OwnF.row (h : OwnF w noB gs W e size f v l) : W.ownsRow w.heap.size e size v l.length (l.flatMap f) := ownsRow_raise h.row0 fun k hk => (h.mine k hk).resolve_right id

theorem OwnF.nil : OwnF w M gs W e size f (.slice none 0 0) [] := ⟨World.ownsRow_nil .., fun _ h => (by cases h), fun _ _ h => by cases h⟩
theorem OwnL.nil : OwnL w gs W e size f (.slice none 0 0) [] := OwnF.nil

theorem OwnF.keep (h : OwnF w M gs W e size f v l) (hc : ∀ k, v.ownBlock = some k → W'.heap[k]? = W.heap[k]?) : OwnF w M gs W' e size f v l := by
  refine ⟨⟨h.row0.1, ?_⟩, h.mine, h.apart⟩
  rcases h.row0.2 with hn | ⟨g, cap, cur, hv, hge, hgg, rest⟩
  · exact .inl hn
  · exact .inr ⟨g, cap, cur, hv, hge, by rw [hc g (by rw [hv]; rfl), hgg], rest⟩
theorem OwnF.chg (h : OwnF w M gs W e size f v l) (hc : Chg N W W') (hne : ∀ k, v.ownBlock = some k → ¬ N k) : OwnF w M gs W' e size f v l :=
  h.keep fun k hk => hc.block k (h.lt k hk) (hne k hk)
theorem OwnF.grown {row : Option Nat} (h : OwnF w M gs W e size f v l) (hg : W.grownBy W' row) (hne : v.ownBlock = none ∨ v.ownBlock ≠ row) : OwnF w M gs W' e size f v l :=
  h.keep fun k hk => hg.block k (h.lt k hk) fun e => by
    rcases hne with h0 | h0
    · rw [h0] at hk; cases hk
    · exact h0 (hk.trans e)
theorem grown_below (h : Bel W W') (row : Option Nat) : W.grownBy W' row := ⟨h.below.os, h.below.tape, h.below.output, h.size, fun _ hk _ => h.block hk⟩
theorem OwnF.call (h : OwnF w M gs W e size f v l) (hb : Bel W W') : OwnF w M gs W' e size f v l := h.keep fun k hk => hb.block (h.lt k hk)
theorem OwnF.more (h : OwnF w M gs W e size f v l) (hg : ∀ g ∈ gs', g ∉ gs → W.heap.size ≤ g) : OwnF w M gs' W e size f v l :=
  ⟨h.row0, h.mine, fun g hm hv => by
    by_cases hk : g ∈ gs
    · exact h.apart g hk hv
    · have := h.lt g hv
      have := hg g hm hk
      omega⟩
theorem OwnF.evo (h : OwnF w M gs W e size f v l) (hd : ∀ d ∈ ds, d ∉ gs → W.heap.size ≤ d) (hb : Evo ds W W') : OwnF w M gs W' e size f v l :=
  h.chg (Chg.of_evo hb) fun k hk hm => by
    by_cases hg : k ∈ gs
    · exact h.apart k hg hk
    · have := hd k hm hg
      have := h.lt k hk
      omega
/-- A row that a call has made. -/
theorem OwnF.ret {n : Nat} {xs : List Value} (hA : AtF w M gs W) (h : W'.ownsRow W.heap.size e size v n xs) (hn : n = l.length) (hx : xs = l.flatMap f) : OwnF w M gs W' e size f v l := by
  subst hn
  subst hx
  refine OwnF.mk_ h (fun k hk _ => .inl (Nat.le_trans hA.size hk)) fun g hg hv => ?_
  have := (h.lt g hv).1
  have := hA.under g hg
  omega
theorem OwnL.ret {n : Nat} {xs : List Value} (hA : At w gs W) (h : W'.ownsRow W.heap.size e size v n xs) (hn : n = l.length) (hx : xs = l.flatMap f) : OwnL w gs W' e size f v l := OwnF.ret hA h hn hx
/-- Seen from another first world. -/
theorem OwnF.base {w' : World} {M' : Nat → Prop} {gs' : List Nat} (h : OwnF w M gs W e size f v l) (hm : ∀ k, v.ownBlock = some k → w'.heap.size ≤ k ∨ M' k) (hap : ∀ g ∈ gs', v.ownBlock ≠ some g) : OwnF w' M' gs' W e size f v l := ⟨h.row0, hm, hap⟩

theorem flatMap_part {l : List α} (hf : ∀ x ∈ l, (f x).length = size) {i : Nat} {x : α} (hx : l[i]? = some x) : ((l.flatMap f).drop (i * size)).take size = f x := by
  induction l generalizing i with
  | nil => simp at hx
  | cons y l ih =>
    cases i with
    | zero =>
      simp at hx
      subst hx
      have := hf y (List.mem_cons_self ..)
      simp only [Nat.zero_mul, List.drop_zero, List.flatMap_cons]
      rw [← this, List.take_left]
    | succ i =>
      have hy := hf y (List.mem_cons_self ..)
      have hx' : l[i]? = some x := by simpa using hx
      rw [← ih (fun x hx => hf x (List.mem_cons_of_mem _ hx)) hx']
      simp only [List.flatMap_cons]
      rw [Nat.add_mul, Nat.one_mul, Nat.add_comm, ← List.drop_drop]
      congr 2
      rw [← hy, List.drop_left]

/-- An own slice reads as its list. -/
theorem OwnF.slice (h : OwnF w M gs W e size f v l) (hf : ∀ x ∈ l, (f x).length = size) : ∃ a cap, v = .slice a l.length cap ∧ SlE W size f l a l.length cap := by
  rcases h.row0.2 with ⟨hv, hn⟩ | ⟨g, cap, cur, hv, hge, hgg, hnc, hcm, hcs, htk⟩
  · have hl : l = [] := List.eq_nil_of_length_eq_zero hn
    subst hl
    exact ⟨none, 0, hv, rfl, Nat.le_refl _, Nat.zero_le _, fun _ => rfl, fun i x hx => by simp at hx⟩
  · refine ⟨_, cap, hv, rfl, hnc, hcm, fun h => (by cases h), fun i x hx => ⟨_, f x, rfl, hf x (List.mem_of_getElem? hx), fun j u hu => ?_, rfl⟩⟩
    have hlen := hf x (List.mem_of_getElem? hx)
    rw [addr_add_add _ _ _ rfl, addr_add]
    have hj : j < size := by
      have := (List.getElem?_eq_some_iff.1 hu).1
      omega
    rw [← flatMap_part hf hx, List.getElem?_take, if_pos hj, List.getElem?_drop, ← htk, List.getElem?_take] at hu
    split at hu
    · rw [← Array.getElem?_toList]  at *
      have := cell_at (W := W) (g := g) (cells := cur.toList) (ty := e) (fr := (0, 0)) (by simpa using hgg) (0 + i * size + j)
      rw [show (0 : Nat) + (i * size + j) = 0 + i * size + j by omega, this]
      simpa using hu
    · cases hu
end

/-! ### Adding -/
def elemB (P : Program) (t e : TypeId) (size bytes : Nat) : Bool :=
  match P.underlying t with
  | some (.slice e') => Nat.beq e' e && (match P.info? e with
    | some i => Nat.beq i.size size && Nat.beq i.bytes bytes && (match i.zero with
      | some z => Nat.beq z.cells.size size && Nat.blt 0 size
      | none => false)
    | none => false)
  | _ => false

structure ElemOk (P : Program) (t e : TypeId) (size bytes : Nat) (i : TypeInfo) (z : Value) : Prop where
  ht : P.underlying t = some (.slice e)
  hi : P.info? e = some i
  hz : i.zero = some z
  hsize : i.size = size
  hby : i.bytes = bytes
  hzs : z.cells.size = size
  hsz : 0 < size

theorem elemB_ok {P : Program} {t e : TypeId} {size bytes : Nat} (h : elemB P t e size bytes = true) : ∃ i z, ElemOk P t e size bytes i z := by
  unfold elemB at h
  split at h
  · rename_i e' hu
    simp only [Bool.and_eq_true] at h
    obtain ⟨he, h⟩ := h
    have he := Nat.eq_of_beq_eq_true he
    subst he
    split at h
    · rename_i i hi
      simp only [Bool.and_eq_true] at h
      obtain ⟨⟨h1, h2⟩, h3⟩ := h
      split at h3
      · rename_i z hz
        simp only [Bool.and_eq_true] at h3
        refine ⟨i, z, hu, hi, hz, Nat.eq_of_beq_eq_true h1, Nat.eq_of_beq_eq_true h2, Nat.eq_of_beq_eq_true h3.1, ?_⟩
        have := h3.2
        unfold Nat.blt at this
        exact Nat.le_of_ble_eq_true this
      · cases h3
    · cases h
  · cases h

section
variable {P : Program} {M : Nat → Prop} {w W : World} {gs : List Nat} {e : TypeId} {size : Nat} {v : Value} {n : Nat} {xs : List Value}

theorem run_append_at {t ty : TypeId} {bytes base : Nat} (he : elemB P t e size bytes = true) (hown : W.ownsRow base e size v n xs) (hbase : base ≤ W.heap.size) {a : Addr} {m c : Nat} {news : List Value} (hl : news.length = m * size)
    (hnews : ∀ j u, news[j]? = some u → W.cell? (a.add j) = some u) (h1 : ∀ u ∈ news, u.oneCell' = true) (h63 : n + m ≤ maxLen) (hbytes : (n + m) * bytes ≤ 140737488355328) :
    ∃ v' w', (Builtin.append_ #[t, t] ty #[v, .slice (some a) m c]).run P W = .ok v' w' ∧ w'.ownsRow base e size v' (n + m) (xs ++ news) ∧ W.grownBy w' v.ownBlock ∧ (v'.ownBlock = v.ownBlock ∨ ∀ k, v'.ownBlock = some k → W.heap.size ≤ k) := by
  obtain ⟨i, z, ok⟩ := elemB_ok he
  rcases hown.2 with ⟨rfl, rfl⟩ | ⟨g, cap, cur, rfl, hbg, hg, hnc, hcm, hcs, htake⟩
  · have hxs : xs = [] := List.eq_nil_of_length_eq_zero (by simpa using hown.1)
    subst hxs
    obtain ⟨v', w', hr, ho, hgr, _⟩ := run_append_own (P := P) W W.heap.size t ty e i z size bytes ok.ht ok.hi ok.hz ok.hsize ok.hby ok.hzs ok.hsz _ 0 [] (World.ownsRow_nil W W.heap.size e size) a m c news hl hnews h1 h63 hbytes (Nat.le_refl _)
    refine ⟨v', w', hr, ⟨ho.1, ?_⟩, hgr, .inr fun k hk => (ho.lt k hk).1⟩
    rcases ho.2 with h | ⟨g, cap, cur, hv, hge, rest⟩
    · exact .inl h
    · exact .inr ⟨g, cap, cur, hv, Nat.le_trans hbase hge, rest⟩
  · by_cases hroom : n + m ≤ cap
    · obtain ⟨w', hr, ho, hgr⟩ := run_append_fits (P := P) W base t ty e i size ok.ht ok.hi ok.hsize g n cap xs hown a m c news hl hnews h1 hroom
      exact ⟨_, w', hr, ho, hgr, .inl rfl⟩
    · obtain ⟨v', w', hr, ho, hgr, _⟩ := run_append_own (P := P) W base t ty e i z size bytes ok.ht ok.hi ok.hz ok.hsize ok.hby ok.hzs ok.hsz _ n xs hown a m c news hl hnews h1 h63 hbytes hbase
      have holds : ∀ j u, xs[j]? = some u → W.cell? ((⟨g, 0, none⟩ : Addr).add j) = some u := hown.cells (g := g) rfl
      have hsmall : n + m ≤ 9223372036854775807 := by simp only [maxLen] at h63; omega
      have hr2 := run_append_grow (P := P) W t ty e i z ok.ht ok.hi ok.hz ⟨g, 0, none⟩ n cap xs (by rw [ok.hsize]; exact hown.1) holds a m c news (by rw [ok.hsize]; exact hl) hnews (by omega) (by omega) (growslice_fits (by omega) (by rw [ok.hby]; exact hbytes))
      rw [hr] at hr2
      have hv' : v' = _ := (Result.ok.inj hr2).1
      refine ⟨v', w', hr, ho, hgr, .inr fun k hk => ?_⟩
      rw [hv'] at hk
      simp [Value.ownBlock] at hk
      omega

theorem opw_appendRaw {t ty : TypeId} {fl : Array Bool} {bytes : Nat} (he : elemB P t e size bytes = true) (hA : AtF w M gs W) (hown : W.ownsRow 0 e size v n xs) (hmine : ∀ k, v.ownBlock = some k → w.heap.size ≤ k ∨ M k) (hap : ∀ g ∈ gs, v.ownBlock ≠ some g) {a : Addr} {m c : Nat} {news : List Value} (hl : news.length = m * size)
    (hnews : ∀ j u, news[j]? = some u → W.cell? (a.add j) = some u) (h1 : ∀ u ∈ news, u.oneCell' = true) (h63 : n + m ≤ maxLen) (hbytes : (n + m) * bytes ≤ 140737488355328) {K : Value → World → Prop}
    (h : ∀ v' w', AtF w M gs w' → Keeps gs W w' → W.grownBy w' v.ownBlock → w'.ownsRow 0 e size v' (n + m) (xs ++ news) → (∀ k, v'.ownBlock = some k → w.heap.size ≤ k ∨ M k) → (∀ g ∈ gs, v'.ownBlock ≠ some g) → (v'.ownBlock = v.ownBlock ∨ ∀ k, v'.ownBlock = some k → W.heap.size ≤ k) → K v' w') :
    OpW P (builtin .append #[t, t] ty fl #[v, .slice (some a) m c]) W K := by
  obtain ⟨v', w', hr, ho, hgr, hb⟩ := run_append_at (ty := ty) he hown (Nat.zero_le _) hl hnews h1 h63 hbytes
  have hrun : (builtin .append #[t, t] ty fl #[v, .slice (some a) m c]).run P W = .ok (.value v') w' := by
    show (do pure (Next.value (← Builtin.append_ #[t, t] ty #[v, .slice (some a) m c])) : Sem Next).run P W = _
    rw [run_bind_ok hr]
    rfl
  unfold OpW
  rw [hrun]
  refine h v' w' (hA.step (Chg.of_grown hgr (run_drawn hr)) fun k _ hk => hmine k hk) (fun g hg => hgr.block g (hA.under g hg) fun e => hap g hg e.symm) hgr ho (fun k hk => ?_) (fun g hg hv => ?_) hb
  · rcases hb with hb | hb
    · exact hmine k (hb ▸ hk)
    · exact .inl (Nat.le_trans hA.size (hb k hk))
  rcases hb with hb | hb
  · exact hap g hg (hb ▸ hv)
  · have := hb g hv
    have := hA.under g hg
    omega
end

/-- One element more. -/
theorem opw_append1 {α : Type} {P : Program} {M : Nat → Prop} {w W : World} {gs : List Nat} {e : TypeId} {size : Nat} {f : α → List Value} {v : Value} {l : List α} {t ty : TypeId} {fl : Array Bool} {bytes : Nat} (he : elemB P t e size bytes = true) (hA : AtF w M gs W) (ho : OwnF w M gs W e size f v l) {a : Addr} {c : Nat} {x : α} (hl : (f x).length = size)
    (hnews : ∀ j u, (f x)[j]? = some u → W.cell? (a.add j) = some u) (h1 : ∀ u ∈ f x, u.oneCell' = true) (h63 : l.length + 1 ≤ 70368744177664) (hby : bytes = 1 ∨ (l.length + 1) * bytes ≤ 140737488355328) {K : Value → World → Prop}
    (h : ∀ v' w', AtF w M gs w' → Keeps gs W w' → W.grownBy w' v.ownBlock → OwnF w M gs w' e size f v' (l ++ [x]) → (v'.ownBlock = v.ownBlock ∨ ∀ k, v'.ownBlock = some k → W.heap.size ≤ k) → K v' w') :
    OpW P (builtin .append #[t, t] ty fl #[v, .slice (some a) 1 c]) W K := by
  refine opw_appendRaw he hA ho.row0 ho.mine ho.apart (m := 1) (by simpa using hl) hnews h1 (by simp only [maxLen]; omega) ?_ fun v' w' hA' hk hg hr hmi hap hb => h v' w' hA' hk hg ⟨?_, hmi, hap⟩ hb
  · rcases hby with rfl | h
    · omega
    · exact h
  · simpa using hr

/-- All elements of a slice more. -/
theorem opw_appendS {α : Type} {P : Program} {M : Nat → Prop} {w W : World} {gs : List Nat} {e : TypeId} {size : Nat} {f : α → List Value} {v : Value} {l l2 : List α} {t ty : TypeId} {fl : Array Bool} {bytes : Nat} (he : elemB P t e size bytes = true) (hA : AtF w M gs W) (ho : OwnF w M gs W e size f v l) {a : Option Addr} {len c : Nat} (hs : SlE W size f l2 a len c)
    (hf : ∀ x ∈ l2, (f x).length = size) (h1 : ∀ x ∈ l2, ∀ u ∈ f x, u.oneCell' = true) (h63 : l.length + l2.length ≤ maxLen) (hby : (l.length + l2.length) * bytes ≤ 140737488355328) {K : Value → World → Prop}
    (h : ∀ v' w', AtF w M gs w' → Keeps gs W w' → W.grownBy w' v.ownBlock → OwnF w M gs w' e size f v' (l ++ l2) → K v' w') :
    OpW P (builtin .append #[t, t] ty fl #[v, .slice a len c]) W K := by
  obtain ⟨hlen, hlc, hcm, hnone, hat⟩ := hs
  subst hlen
  cases a with
  | none =>
    have hc : c = 0 := hnone rfl
    subst hc
    have h0 : l2 = [] := List.eq_nil_of_length_eq_zero (by omega)
    subst h0
    obtain ⟨i, z, ok⟩ := elemB_ok he
    have hr := run_append_owned_none (P := P) W 0 t ty e i size ok.ht ok.hi v l.length _ ho.row0
    have hrun : (builtin .append #[t, t] ty fl #[v, .slice none 0 0]).run P W = .ok (.value v) W := by
      show (do pure (Next.value (← Builtin.append_ #[t, t] ty #[v, .slice none 0 0])) : Sem Next).run P W = _
      rw [run_bind_ok hr]
      rfl
    unfold OpW
    rw [show ([] : List α).length = 0 from rfl, hrun]
    exact h v W hA (fun _ _ => rfl) ⟨rfl, rfl, rfl, Nat.le_refl _, fun _ _ _ => rfl⟩ (by rw [List.append_nil]; exact ho)
  | some ad =>
    have hfl : (l2.flatMap f).length = l2.length * size := by
      clear hat h63 hby h hlc hnone h1
      induction l2 with
      | nil => simp
      | cons x l2 ih =>
        rw [List.flatMap_cons, List.length_append, List.length_cons, hf x (List.mem_cons_self ..), ih fun y hy => hf y (List.mem_cons_of_mem _ hy), Nat.add_mul]
        omega
    have hcells : ∀ j u, (l2.flatMap f)[j]? = some u → W.cell? (ad.add j) = some u := by
      intro j u hu
      have hj := (List.getElem?_eq_some_iff.1 hu).1
      rw [hfl] at hj
      have hsz : 0 < size := by
        rcases Nat.eq_zero_or_pos size with h | h
        · subst h; omega
        · exact h
      have hi : j / size < l2.length := Nat.div_lt_of_lt_mul (by rw [Nat.mul_comm]; exact hj)
      obtain ⟨ad', cs, hae, hcl, hcs, hcf⟩ := hat (j / size) _ (List.getElem?_eq_getElem hi)
      cases hae
      subst hcf
      have hp := flatMap_part hf (List.getElem?_eq_getElem hi)
      have hm : j % size < size := Nat.mod_lt _ hsz
      have hdm : j / size * size + j % size = j := by rw [Nat.mul_comm]; exact Nat.div_add_mod j size
      have hv : (f l2[j / size])[j % size]? = some u := by
        rw [← hp, List.getElem?_take, if_pos hm, List.getElem?_drop, hdm]
        exact hu
      have := hcs _ _ hv
      have hadd : (ad.add (j / size * size)).add (j % size) = ad.add j := by
        rcases Option.eq_none_or_eq_some ad.spot with hsp | ⟨s, hsp⟩
        · rw [addr_add_add _ _ _ hsp, hdm]
        · unfold Addr.add
          obtain ⟨b, o, sp⟩ := ad
          simp only at hsp
          subst hsp
          by_cases h1 : j / size * size = 0
          · rw [h1] at hdm
            rw [Nat.zero_add] at hdm
            simp [h1, hdm]
          · have h3 : j ≠ 0 := by omega
            by_cases h2 : j % size = 0
            · rw [h2] at hdm
              simp [h1, h2, h3]
              omega
            · simp [h1, h2, h3]
              omega
      rw [hadd] at this
      exact this
    refine opw_appendRaw he hA ho.row0 ho.mine ho.apart hfl hcells (fun u hu => ?_) h63 hby fun v' w' hA' hk hg hr hmi hap _ => h v' w' hA' hk hg ⟨?_, hmi, hap⟩
    · obtain ⟨x, hx, hxu⟩ := List.mem_flatMap.1 hu
      exact h1 x hx u hxu
    · rw [List.length_append, List.flatMap_append]
      exact hr
end Go.Vc

/- Arguments of the law, read. -/
namespace Go.Vc
open Go Go.RowKit
theorem i64_bounds' {x : Int} (h1 : IntKind.i64.min ≤ x) (h2 : x ≤ IntKind.i64.max) : -9223372036854775808 ≤ x ∧ x ≤ 9223372036854775807 := by
  have e1 : IntKind.i64.min = -9223372036854775808 := by decide
  have e2 : IntKind.i64.max = 9223372036854775807 := by decide
  omega
theorem int_V {w : World} {x : Int} {v : Value} (h : GT.V w (.int .i64) x v) : v = .int .i64 x ∧ (-9223372036854775808 ≤ x ∧ x ≤ 9223372036854775807) := by
  obtain ⟨h, h1, h2⟩ := h
  simp at h
  exact ⟨h, i64_bounds' h1 h2⟩
theorem str_V {w : World} {x : ByteArray} {v : Value} (h : GT.V w .str x v) : v = .string x ∧ x.size ≤ maxLen := by
  obtain ⟨h, h1⟩ := h
  simp at h
  exact ⟨h, h1⟩
theorem ints_V {w : World} {l : List Int} {v : Value} (h : GT.V w (.sl (.int .i64)) l v) : ∃ a n c, v = .slice a n c ∧ SlE w 1 (fun x => [Value.int .i64 x]) l a n c ∧ ∀ x ∈ l, -9223372036854775808 ≤ x ∧ x ≤ 9223372036854775807 := by
  obtain ⟨a, n, c, hv, hs⟩ := h
  simp at hv
  refine ⟨a, n, c, hv, hs.imp fun _ _ h => h.1, fun x hx => ?_⟩
  obtain ⟨cs, hr⟩ := hs.each hx
  exact i64_bounds' hr.2.1 hr.2.2
end Go.Vc

/- The formulas of functions, printed by a program (VcTool.lean): each is what the generator's formula comes to, by the kernel's reckoning; whoever proves one has the function's contract. -/
set_option maxRecDepth 100000
set_option maxHeartbeats 1000000
set_option linter.unusedVariables false
namespace Vck
open Go Go.Vc Go.RowKit
/-! manciple/conf.Start -/
def h6 : Hints := ⟨[1, 2], [], [8], [], [], [], [], [], []⟩
def f6_vc (c_0 : Int) (c_1 : Int) (c_2 : Int) (c_3 : Int) (c_4 : Int) (c_5 : Int) (c_6 : Int) (c_7 : Int) (c_8 : Int) (w : World) (R : Ending → World → Prop) : Prop :=
 ∀ (n1 : Nat),
 w.heap.size ≤ n1 →
 ∀ (n2 : Nat),
 w.heap.size ≤ n2 →
 ∀ (w3 : World),
 Bel w w3 →
 Under [n1, n2] w3 →
 Calls Proofs.Tryd.prog 8
 #[Value.agg
 #[Value.int IntKind.i64 c_0, Value.int IntKind.i64 c_1, Value.int IntKind.i64 c_2, Value.int IntKind.i64 c_3, Value.int IntKind.i64 c_4, Value.int IntKind.i64 c_5, Value.int IntKind.i64 c_6, Value.int IntKind.i64 c_7,
 Value.int IntKind.i64 c_8]]
 w3 fun (e4 : Ending) (w5 : World) =>
 ∃ (x6 : Int),
 e4 = Ending.returned (Value.int IntKind.i64 x6) ∧
 Keeps [n1, n2] w3 w5 ∧
 ((x6 != 0) = true →
 ∀ (w7 : World),
 Evo [n2] w5 w7 →
 Under [n1, n2] w7 →
 R
 (Ending.returned
 (Value.tuple
 #[Value.agg
 #[Value.int IntKind.i64 0, Value.int IntKind.i64 0, Value.int IntKind.i64 0, Value.int IntKind.i64 0, Value.int IntKind.i64 0, Value.int IntKind.i64 0, Value.int IntKind.i64 0,
 Value.int IntKind.i64 0, Value.int IntKind.i64 0, Value.int IntKind.i64 0, Value.int IntKind.i64 0, Value.slice none 0 0, Value.slice none 0 0, Value.slice none 0 0, Value.slice none 0 0,
 Value.slice none 0 0],
 Value.int IntKind.i64 x6]))
 w7) ∧
 ((x6 != 0) = false →
 ∀ (w8 : World),
 Evo [n2] w5 w8 →
 Under [n1, n2] w8 →
 R
 (Ending.returned
 (Value.tuple
 #[Value.agg
 #[Value.int IntKind.i64 c_0, Value.int IntKind.i64 c_1, Value.int IntKind.i64 c_2, Value.int IntKind.i64 c_3, Value.int IntKind.i64 c_4, Value.int IntKind.i64 c_5, Value.int IntKind.i64 c_6,
 Value.int IntKind.i64 c_7, Value.int IntKind.i64 c_8, Value.int IntKind.i64 0, Value.int IntKind.i64 0, Value.slice none 0 0, Value.slice none 0 0, Value.slice none 0 0, Value.slice none 0 0,
 Value.slice none 0 0],
 Value.int IntKind.i64 0]))
 w8)
theorem f6_eq (c_0 : Int) (c_1 : Int) (c_2 : Int) (c_3 : Int) (c_4 : Int) (c_5 : Int) (c_6 : Int) (c_7 : Int) (c_8 : Int) (w : World) (R : Ending → World → Prop) : (fnF Go.Proofs.Tryd.prog h6 Go.Proofs.Tryd.f6 [Value.agg
 #[Value.int IntKind.i64 c_0, Value.int IntKind.i64 c_1, Value.int IntKind.i64 c_2, Value.int IntKind.i64 c_3, Value.int IntKind.i64 c_4, Value.int IntKind.i64 c_5, Value.int IntKind.i64 c_6, Value.int IntKind.i64 c_7,
 Value.int IntKind.i64 c_8]] w R).den = f6_vc c_0 c_1 c_2 c_3 c_4 c_5 c_6 c_7 c_8 w R := by kernel_rfl
theorem f6_calls (c_0 : Int) (c_1 : Int) (c_2 : Int) (c_3 : Int) (c_4 : Int) (c_5 : Int) (c_6 : Int) (c_7 : Int) (c_8 : Int) (w : World) (R : Ending → World → Prop) (h : f6_vc c_0 c_1 c_2 c_3 c_4 c_5 c_6 c_7 c_8 w R) : Calls Go.Proofs.Tryd.prog 6 (List.toArray [Value.agg
 #[Value.int IntKind.i64 c_0, Value.int IntKind.i64 c_1, Value.int IntKind.i64 c_2, Value.int IntKind.i64 c_3, Value.int IntKind.i64 c_4, Value.int IntKind.i64 c_5, Value.int IntKind.i64 c_6, Value.int IntKind.i64 c_7,
 Value.int IntKind.i64 c_8]]) w R :=
 fn_sound (H := h6) (fn := Go.Proofs.Tryd.f6) (by kernel_rfl) (by kernel_rfl) (by kernel_rfl) ((f6_eq c_0 c_1 c_2 c_3 c_4 c_5 c_6 c_7 c_8 w R).mpr h)


/-! manciple/mancipleref13.Right -/
def h7 : Hints := ⟨[], [11], [6, 15, 20, 26, 32, 38, 43], [], [], [(3, ⟨[(4, .int .i64)], []⟩)], [], [], []⟩
def f7_vc (c_0 : Int) (c_1 : Int) (c_2 : Int) (c_3 : Int) (c_4 : Int) (c_5 : Int) (c_6 : Int) (c_7 : Int) (c_8 : Int) (w : World) (R : Ending → World → Prop) : Prop :=
 OpW Proofs.Tryd.prog
 (valueS
 (Instr.box 24
 (Value.agg
 #[Value.int IntKind.i64 c_0, Value.int IntKind.i64 c_1, Value.int IntKind.i64 c_2, Value.int IntKind.i64 c_3, Value.int IntKind.i64 c_4, Value.int IntKind.i64 c_5, Value.int IntKind.i64 c_6, Value.int IntKind.i64 c_7,
 Value.int IntKind.i64 c_8])))
 w fun (v1 : Value) (w2 : World) =>
 ∃ (ad3 : Addr),
 v1 = Value.pointer (some ad3) ∧
 ∃ (J4 : Int × Unit → World → Prop),
 ∃ (J5 : Int × Unit → World → Nat),
 J4 (0, ()) w2 ∧
 ∀ (x6 : Int) (w7 : World),
 J4 (x6, ()) w7 →
 (decide (x6 < 4) = true →
 ∃ (ad8 : Addr),
 Gives Proofs.Tryd.prog (Instr.indexAt 22 (Value.pointer (some (Addr.mk ad3.block (ad3.off + 5) none))) (Value.int IntKind.i64 x6)) (Value.pointer (some ad8)) ∧
 ∃ (x9 : Int),
 Reads Proofs.Tryd.prog [] (Instr.loadAt 2 (Value.pointer (some ad8))) w7 (Value.int IntKind.i64 x9) ∧
 Calls Proofs.Tryd.prog 13 #[Value.int IntKind.i64 x9, Value.int IntKind.i64 0, Value.int IntKind.i64 9007199254740992] w7 fun (e10 : Ending) (w11 : World) =>
 ∃ (b12 : Bool),
 e10 = Ending.returned (Value.bool b12) ∧
 ((!b12) = true → R (Ending.returned (Value.bool false)) w11) ∧ ((!b12) = false → J4 (IntKind.i64.wrap (x6 + 1), ()) w11 ∧ J5 (IntKind.i64.wrap (x6 + 1), ()) w11 < J5 (x6, ()) w7)) ∧
 (decide (x6 < 4) = false →
 ∃ (x13 : Int),
 Reads Proofs.Tryd.prog [] (Instr.loadAt 2 (Value.pointer (some ad3))) w7 (Value.int IntKind.i64 x13) ∧
 Calls Proofs.Tryd.prog 13 #[Value.int IntKind.i64 x13, Value.int IntKind.i64 0, Value.int IntKind.i64 9007199254740992] w7 fun (e14 : Ending) (w15 : World) =>
 ∃ (b16 : Bool),
 e14 = Ending.returned (Value.bool b16) ∧
 (b16 = true →
 ∃ (x17 : Int),
 Reads Proofs.Tryd.prog [] (Instr.loadAt 2 (Value.pointer (some (Addr.mk ad3.block (ad3.off + 1) none)))) w15 (Value.int IntKind.i64 x17) ∧
 Calls Proofs.Tryd.prog 13 #[Value.int IntKind.i64 x17, Value.int IntKind.i64 1, Value.int IntKind.i64 9007199254740992] w15 fun (e18 : Ending) (w19 : World) =>
 ∃ (b20 : Bool),
 e18 = Ending.returned (Value.bool b20) ∧
 (b20 = true →
 ∃ (x21 : Int),
 Reads Proofs.Tryd.prog [] (Instr.loadAt 2 (Value.pointer (some (Addr.mk ad3.block (ad3.off + 2) none)))) w19 (Value.int IntKind.i64 x21) ∧
 Calls Proofs.Tryd.prog 13 #[Value.int IntKind.i64 x21, Value.int IntKind.i64 0, Value.int IntKind.i64 9007199254740992] w19 fun (e22 : Ending) (w23 : World) =>
 ∃ (b24 : Bool),
 e22 = Ending.returned (Value.bool b24) ∧
 (b24 = true →
 ∃ (x25 : Int),
 Reads Proofs.Tryd.prog [] (Instr.loadAt 2 (Value.pointer (some (Addr.mk ad3.block (ad3.off + 3) none)))) w23 (Value.int IntKind.i64 x25) ∧
 Calls Proofs.Tryd.prog 13 #[Value.int IntKind.i64 x25, Value.int IntKind.i64 0, Value.int IntKind.i64 9007199254740992] w23 fun (e26 : Ending) (w27 : World) =>
 ∃ (b28 : Bool),
 e26 = Ending.returned (Value.bool b28) ∧
 (b28 = true →
 ∃ (x29 : Int),
 Reads Proofs.Tryd.prog [] (Instr.loadAt 3 (Value.pointer (some (Addr.mk ad3.block (ad3.off + 4) none)))) w27 (Value.int IntKind.i64 x29) ∧
 (decide (x29 ≥ 1) = true →
 ∃ (x30 : Int),
 Reads Proofs.Tryd.prog [] (Instr.loadAt 3 (Value.pointer (some (Addr.mk ad3.block (ad3.off + 4) none)))) w27 (Value.int IntKind.i64 x30) ∧
 R (Ending.returned (Value.bool (decide (x30 ≤ 4096)))) w27) ∧
 (decide (x29 ≥ 1) = false → R (Ending.returned (Value.bool false)) w27)) ∧
 (b28 = false → R (Ending.returned (Value.bool false)) w27)) ∧
 (b24 = false → R (Ending.returned (Value.bool false)) w23)) ∧
 (b20 = false → R (Ending.returned (Value.bool false)) w19)) ∧
 (b16 = false → R (Ending.returned (Value.bool false)) w15))
theorem f7_eq (c_0 : Int) (c_1 : Int) (c_2 : Int) (c_3 : Int) (c_4 : Int) (c_5 : Int) (c_6 : Int) (c_7 : Int) (c_8 : Int) (w : World) (R : Ending → World → Prop) : (fnF Go.Proofs.Tryd.prog h7 Go.Proofs.Tryd.f7 [Value.agg
 #[Value.int IntKind.i64 c_0, Value.int IntKind.i64 c_1, Value.int IntKind.i64 c_2, Value.int IntKind.i64 c_3, Value.int IntKind.i64 c_4, Value.int IntKind.i64 c_5, Value.int IntKind.i64 c_6, Value.int IntKind.i64 c_7,
 Value.int IntKind.i64 c_8]] w R).den = f7_vc c_0 c_1 c_2 c_3 c_4 c_5 c_6 c_7 c_8 w R := by kernel_rfl
theorem f7_calls (c_0 : Int) (c_1 : Int) (c_2 : Int) (c_3 : Int) (c_4 : Int) (c_5 : Int) (c_6 : Int) (c_7 : Int) (c_8 : Int) (w : World) (R : Ending → World → Prop) (h : f7_vc c_0 c_1 c_2 c_3 c_4 c_5 c_6 c_7 c_8 w R) : Calls Go.Proofs.Tryd.prog 7 (List.toArray [Value.agg
 #[Value.int IntKind.i64 c_0, Value.int IntKind.i64 c_1, Value.int IntKind.i64 c_2, Value.int IntKind.i64 c_3, Value.int IntKind.i64 c_4, Value.int IntKind.i64 c_5, Value.int IntKind.i64 c_6, Value.int IntKind.i64 c_7,
 Value.int IntKind.i64 c_8]]) w R :=
 fn_sound (H := h7) (fn := Go.Proofs.Tryd.f7) (by kernel_rfl) (by kernel_rfl) (by kernel_rfl) ((f7_eq c_0 c_1 c_2 c_3 c_4 c_5 c_6 c_7 c_8 w R).mpr h)


/-! manciple/conf.Check -/
def h8 : Hints := ⟨[1], [9], [8, 12, 41, 18, 24, 30, 36], [], [], [(2, ⟨[(7, .int .i64)], []⟩)], [], [], []⟩
def f8_vc (c_0 : Int) (c_1 : Int) (c_2 : Int) (c_3 : Int) (c_4 : Int) (c_5 : Int) (c_6 : Int) (c_7 : Int) (c_8 : Int) (w : World) (R : Ending → World → Prop) : Prop :=
 ∀ (n1 : Nat),
 w.heap.size ≤ n1 →
 ∃ (J2 : Int × Unit → World → Prop),
 ∃ (J3 : Int × Unit → World → Nat),
 (∀ (w4 : World), Bel w w4 → Under [n1] w4 → J2 (0, ()) w4) ∧
 ∀ (x5 : Int) (w6 : World),
 J2 (x5, ()) w6 →
 (decide (x5 < 4) = true →
 ∃ (x7 : Int),
 Gives Proofs.Tryd.prog (Instr.index 22 (Value.agg #[Value.int IntKind.i64 c_5, Value.int IntKind.i64 c_6, Value.int IntKind.i64 c_7, Value.int IntKind.i64 c_8]) (Value.int IntKind.i64 x5)) (Value.int IntKind.i64 x7) ∧
 Calls Proofs.Tryd.prog 14 #[Value.int IntKind.i64 x7, Value.int IntKind.i64 0, Value.int IntKind.i64 9007199254740992] w6 fun (e8 : Ending) (w9 : World) =>
 ∃ (b10 : Bool),
 e8 = Ending.returned (Value.bool b10) ∧
 Keeps [n1] w6 w9 ∧ ((!b10) = true → R (Ending.returned (Value.int IntKind.i64 41)) w9) ∧ ((!b10) = false → J2 (IntKind.i64.wrap (x5 + 1), ()) w9 ∧ J3 (IntKind.i64.wrap (x5 + 1), ()) w9 < J3 (x5, ()) w6)) ∧
 (decide (x5 < 4) = false →
 Calls Proofs.Tryd.prog 14 #[Value.int IntKind.i64 c_0, Value.int IntKind.i64 0, Value.int IntKind.i64 9007199254740992] w6 fun (e11 : Ending) (w12 : World) =>
 ∃ (b13 : Bool),
 e11 = Ending.returned (Value.bool b13) ∧
 Keeps [n1] w6 w12 ∧
 ((!b13) = true → R (Ending.returned (Value.int IntKind.i64 41)) w12) ∧
 ((!b13) = false →
 Calls Proofs.Tryd.prog 14 #[Value.int IntKind.i64 c_1, Value.int IntKind.i64 1, Value.int IntKind.i64 9007199254740992] w12 fun (e14 : Ending) (w15 : World) =>
 ∃ (b16 : Bool),
 e14 = Ending.returned (Value.bool b16) ∧
 Keeps [n1] w12 w15 ∧
 ((!b16) = true → R (Ending.returned (Value.int IntKind.i64 41)) w15) ∧
 ((!b16) = false →
 Calls Proofs.Tryd.prog 14 #[Value.int IntKind.i64 c_2, Value.int IntKind.i64 0, Value.int IntKind.i64 9007199254740992] w15 fun (e17 : Ending) (w18 : World) =>
 ∃ (b19 : Bool),
 e17 = Ending.returned (Value.bool b19) ∧
 Keeps [n1] w15 w18 ∧
 ((!b19) = true → R (Ending.returned (Value.int IntKind.i64 41)) w18) ∧
 ((!b19) = false →
 Calls Proofs.Tryd.prog 14 #[Value.int IntKind.i64 c_3, Value.int IntKind.i64 0, Value.int IntKind.i64 9007199254740992] w18 fun (e20 : Ending) (w21 : World) =>
 ∃ (b22 : Bool),
 e20 = Ending.returned (Value.bool b22) ∧
 Keeps [n1] w18 w21 ∧
 ((!b22) = true → R (Ending.returned (Value.int IntKind.i64 41)) w21) ∧
 ((!b22) = false →
 Calls Proofs.Tryd.prog 14 #[Value.int IntKind.i64 c_4, Value.int IntKind.i64 1, Value.int IntKind.i64 4096] w21 fun (e23 : Ending) (w24 : World) =>
 ∃ (b25 : Bool),
 e23 = Ending.returned (Value.bool b25) ∧
 Keeps [n1] w21 w24 ∧ ((!b25) = true → R (Ending.returned (Value.int IntKind.i64 41)) w24) ∧ ((!b25) = false → R (Ending.returned (Value.int IntKind.i64 0)) w24))))))
theorem f8_eq (c_0 : Int) (c_1 : Int) (c_2 : Int) (c_3 : Int) (c_4 : Int) (c_5 : Int) (c_6 : Int) (c_7 : Int) (c_8 : Int) (w : World) (R : Ending → World → Prop) : (fnF Go.Proofs.Tryd.prog h8 Go.Proofs.Tryd.f8 [Value.agg
 #[Value.int IntKind.i64 c_0, Value.int IntKind.i64 c_1, Value.int IntKind.i64 c_2, Value.int IntKind.i64 c_3, Value.int IntKind.i64 c_4, Value.int IntKind.i64 c_5, Value.int IntKind.i64 c_6, Value.int IntKind.i64 c_7,
 Value.int IntKind.i64 c_8]] w R).den = f8_vc c_0 c_1 c_2 c_3 c_4 c_5 c_6 c_7 c_8 w R := by kernel_rfl
theorem f8_calls (c_0 : Int) (c_1 : Int) (c_2 : Int) (c_3 : Int) (c_4 : Int) (c_5 : Int) (c_6 : Int) (c_7 : Int) (c_8 : Int) (w : World) (R : Ending → World → Prop) (h : f8_vc c_0 c_1 c_2 c_3 c_4 c_5 c_6 c_7 c_8 w R) : Calls Go.Proofs.Tryd.prog 8 (List.toArray [Value.agg
 #[Value.int IntKind.i64 c_0, Value.int IntKind.i64 c_1, Value.int IntKind.i64 c_2, Value.int IntKind.i64 c_3, Value.int IntKind.i64 c_4, Value.int IntKind.i64 c_5, Value.int IntKind.i64 c_6, Value.int IntKind.i64 c_7,
 Value.int IntKind.i64 c_8]]) w R :=
 fn_sound (H := h8) (fn := Go.Proofs.Tryd.f8) (by kernel_rfl) (by kernel_rfl) (by kernel_rfl) ((f8_eq c_0 c_1 c_2 c_3 c_4 c_5 c_6 c_7 c_8 w R).mpr h)


/-! manciple/manciplelaw13.works -/
def h9 : Hints := ⟨[1, 3], [], [15, 20, 24, 30], [(3, [0, 1, 2, 3, 4, 5, 6, 7, 8, 9, 10, 11, 12, 13, 14, 15, 16, 17, 18, 19, 20, 21])], [], [], [], [], []⟩
def f9_vc  (w : World) (R : Ending → World → Prop) : Prop :=
 Calls Proofs.Tryd.prog 10 #[Value.string (ByteArray.mk #[49, 48, 48, 48, 32, 49, 48, 48, 48, 48, 48, 48, 32, 49, 48, 48, 48, 32, 48, 32, 54, 52, 32, 48, 32, 48, 32, 48, 32, 48])] w fun (e1 : Ending) (w2 : World) =>
 ∃ (x3 : Int),
 ∃ (x4 : Int),
 ∃ (x5 : Int),
 ∃ (x6 : Int),
 ∃ (x7 : Int),
 ∃ (x8 : Int),
 ∃ (x9 : Int),
 ∃ (x10 : Int),
 ∃ (x11 : Int),
 ∃ (b12 : Bool),
 e1 =
 Ending.returned
 (Value.tuple
 #[Value.agg
 #[Value.int IntKind.i64 x3, Value.int IntKind.i64 x4, Value.int IntKind.i64 x5, Value.int IntKind.i64 x6, Value.int IntKind.i64 x7, Value.int IntKind.i64 x8, Value.int IntKind.i64 x9,
 Value.int IntKind.i64 x10, Value.int IntKind.i64 x11],
 Value.bool b12]) ∧
 ∀ (n13 : Nat),
 w2.heap.size ≤ n13 →
 ∀ (w14 : World),
 Evo [n13] w2 w14 →
 Under [n13] w14 →
 Calls Proofs.Tryd.prog 6
 #[Value.agg
 #[Value.int IntKind.i64 x3, Value.int IntKind.i64 x4, Value.int IntKind.i64 x5, Value.int IntKind.i64 x6, Value.int IntKind.i64 x7, Value.int IntKind.i64 x8, Value.int IntKind.i64 x9,
 Value.int IntKind.i64 x10, Value.int IntKind.i64 x11]]
 w14 fun (e15 : Ending) (w16 : World) =>
 ∃ (x17 : Int),
 ∃ (x18 : Int),
 ∃ (x19 : Int),
 ∃ (x20 : Int),
 ∃ (x21 : Int),
 ∃ (x22 : Int),
 ∃ (x23 : Int),
 ∃ (x24 : Int),
 ∃ (x25 : Int),
 ∃ (x26 : Int),
 ∃ (x27 : Int),
 ∃ (a28 : Option Addr),
 ∃ (n29 : Nat),
 ∃ (n30 : Nat),
 ∃ (a31 : Option Addr),
 ∃ (n32 : Nat),
 ∃ (n33 : Nat),
 ∃ (a34 : Option Addr),
 ∃ (n35 : Nat),
 ∃ (n36 : Nat),
 ∃ (a37 : Option Addr),
 ∃ (n38 : Nat),
 ∃ (n39 : Nat),
 ∃ (a40 : Option Addr),
 ∃ (n41 : Nat),
 ∃ (n42 : Nat),
 ∃ (x43 : Int),
 e15 =
 Ending.returned
 (Value.tuple
 #[Value.agg
 #[Value.int IntKind.i64 x17, Value.int IntKind.i64 x18, Value.int IntKind.i64 x19, Value.int IntKind.i64 x20, Value.int IntKind.i64 x21,
 Value.int IntKind.i64 x22, Value.int IntKind.i64 x23, Value.int IntKind.i64 x24, Value.int IntKind.i64 x25, Value.int IntKind.i64 x26,
 Value.int IntKind.i64 x27, Value.slice a28 n29 n30, Value.slice a31 n32 n33, Value.slice a34 n35 n36, Value.slice a37 n38 n39,
 Value.slice a40 n41 n42],
 Value.int IntKind.i64 x43]) ∧
 Keeps [n13] w14 w16 ∧
 ∀ (n44 : Nat),
 w16.heap.size ≤ n44 →
 (b12 = true →
 ∀ (w45 : World),
 Evo [n44] w16 w45 →
 Under [n13, n44] w45 →
 Calls Proofs.Tryd.prog 15 #[] w45 fun (e46 : Ending) (w47 : World) =>
 ∃ (x48 : Int),
 ∃ (x49 : Int),
 ∃ (x50 : Int),
 ∃ (x51 : Int),
 ∃ (x52 : Int),
 ∃ (x53 : Int),
 ∃ (x54 : Int),
 ∃ (x55 : Int),
 ∃ (x56 : Int),
 e46 =
 Ending.returned
 (Value.agg
 #[Value.int IntKind.i64 x48, Value.int IntKind.i64 x49, Value.int IntKind.i64 x50,
 Value.int IntKind.i64 x51, Value.int IntKind.i64 x52, Value.int IntKind.i64 x53,
 Value.int IntKind.i64 x54, Value.int IntKind.i64 x55, Value.int IntKind.i64 x56]) ∧
 Keeps [n13, n44] w45 w47 ∧
 ((x3 == x48 &&
 (x4 == x49 &&
 (x5 == x50 &&
 (x6 == x51 &&
 (x7 == x52 &&
 (x8 == x53 && (x9 == x54 && (x10 == x55 && (x11 == x56 && true))) && true)))))) =
 true →
 ((x43 == 0) = true →
 ((x17 == x3 &&
 (x18 == x4 &&
 (x19 == x5 &&
 (x20 == x6 &&
 (x21 == x7 &&
 (x22 == x8 && (x23 == x9 && (x24 == x10 && (x25 == x11 && true))) && true)))))) =
 true →
 Calls Proofs.Tryd.prog 8
 #[Value.agg
 #[Value.int IntKind.i64 0, Value.int IntKind.i64 0, Value.int IntKind.i64 0,
 Value.int IntKind.i64 0, Value.int IntKind.i64 0, Value.int IntKind.i64 0,
 Value.int IntKind.i64 0, Value.int IntKind.i64 0, Value.int IntKind.i64 0]]
 w47 fun (e57 : Ending) (w58 : World) =>
 ∃ (x59 : Int),
 e57 = Ending.returned (Value.int IntKind.i64 x59) ∧
 Keeps [n13, n44] w47 w58 ∧ R (Ending.returned (Value.bool (x59 == 41))) w58) ∧
 ((x17 == x3 &&
 (x18 == x4 &&
 (x19 == x5 &&
 (x20 == x6 &&
 (x21 == x7 &&
 (x22 == x8 && (x23 == x9 && (x24 == x10 && (x25 == x11 && true))) && true)))))) =
 false →
 R (Ending.returned (Value.bool false)) w47)) ∧
 ((x43 == 0) = false → R (Ending.returned (Value.bool false)) w47)) ∧
 ((x3 == x48 &&
 (x4 == x49 &&
 (x5 == x50 &&
 (x6 == x51 &&
 (x7 == x52 &&
 (x8 == x53 && (x9 == x54 && (x10 == x55 && (x11 == x56 && true))) && true)))))) =
 false →
 R (Ending.returned (Value.bool false)) w47)) ∧
 (b12 = false → ∀ (w60 : World), Evo [n44] w16 w60 → Under [n13, n44] w60 → R (Ending.returned (Value.bool false)) w60)
theorem f9_eq  (w : World) (R : Ending → World → Prop) : (fnF Go.Proofs.Tryd.prog h9 Go.Proofs.Tryd.f9 [] w R).den = f9_vc  w R := by kernel_rfl
theorem f9_calls  (w : World) (R : Ending → World → Prop) (h : f9_vc  w R) : Calls Go.Proofs.Tryd.prog 9 (List.toArray []) w R :=
 fn_sound (H := h9) (fn := Go.Proofs.Tryd.f9) (by kernel_rfl) (by kernel_rfl) (by kernel_rfl) ((f9_eq  w R).mpr h)


/-! manciple/conf.Parse -/
def h10 : Hints := ⟨[2, 8], [20, 25, 27, 29, 31, 33, 35, 37, 38], [13, 18, 54, 44, 49], [(10, [0, 1, 2, 3, 4, 5, 6, 7, 8, 9, 10, 11, 12, 13, 14, 15])], [], [(6, ⟨[(17, .int .i64)], []⟩)], [], [], []⟩
def f10_vc (s : ByteArray) (w : World) (R : Ending → World → Prop) : Prop :=
 ∀ (n1 : Nat),
 w.heap.size ≤ n1 →
 ∀ (w2 : World),
 Bel w w2 →
 Under [n1] w2 →
 OpW Proofs.Tryd.prog (valueS (Instr.alloc 45 true (Value.tuple #[]))) w2 fun (v3 : Value) (w4 : World) =>
 ∃ (ad5 : Addr),
 v3 = Value.pointer (some ad5) ∧
 Keeps [n1] w2 w4 ∧
 Calls Proofs.Tryd.prog 16 #[Value.string s, Value.string (ByteArray.mk #[32])] w4 fun (e6 : Ending) (w7 : World) =>
 ∃ (a8 : Option Addr),
 ∃ (n9 : Nat),
 ∃ (n10 : Nat),
 e6 = Ending.returned (Value.slice a8 n9 n10) ∧
 Keeps [n1] w4 w7 ∧
 (((↑n9 : Int) != 9) = true →
 ∀ (w11 : World),
 Evo [n1] w7 w11 →
 Under [n1] w11 →
 R
 (Ending.returned
 (Value.tuple
 #[Value.agg
 #[Value.int IntKind.i64 0, Value.int IntKind.i64 0, Value.int IntKind.i64 0, Value.int IntKind.i64 0, Value.int IntKind.i64 0, Value.int IntKind.i64 0, Value.int IntKind.i64 0,
 Value.int IntKind.i64 0, Value.int IntKind.i64 0],
 Value.bool false]))
 w11) ∧
 (((↑n9 : Int) != 9) = false →
 ∃ (J12 : Int × Unit → World → Prop),
 ∃ (J13 : Int × Unit → World → Nat),
 J12 (0, ()) w7 ∧
 ∀ (x14 : Int) (w15 : World),
 J12 (x14, ()) w15 →
 (decide (x14 < (↑n9 : Int)) = true →
 ∃ (ad16 : Addr),
 Gives Proofs.Tryd.prog (Instr.indexAt 46 (Value.slice a8 n9 n10) (Value.int IntKind.i64 x14)) (Value.pointer (some ad16)) ∧
 ∃ (s17 : ByteArray),
 Reads Proofs.Tryd.prog [] (Instr.loadAt 9 (Value.pointer (some ad16))) w15 (Value.string s17) ∧
 Calls Proofs.Tryd.prog 17 #[Value.string s17] w15 fun (e18 : Ending) (w19 : World) =>
 ∃ (x20 : Int),
 e18 = Ending.returned (Value.int IntKind.i64 x20) ∧
 Keeps [n1] w15 w19 ∧
 ∃ (ad21 : Addr),
 Gives Proofs.Tryd.prog (Instr.indexAt 45 (Value.pointer (some ad5)) (Value.int IntKind.i64 x14)) (Value.pointer (some ad21)) ∧
 OpW Proofs.Tryd.prog (skipS (Instr.storeAt 2 (Value.pointer (some ad21)) (Value.int IntKind.i64 x20))) w19 fun (v22 : Value) (w23 : World) =>
 Keeps [n1] w19 w23 ∧ J12 (IntKind.i64.wrap (x14 + 1), ()) w23 ∧ J13 (IntKind.i64.wrap (x14 + 1), ()) w23 < J13 (x14, ()) w15) ∧
 (decide (x14 < (↑n9 : Int)) = false →
 ∃ (ad24 : Addr),
 Gives Proofs.Tryd.prog (Instr.indexAt 45 (Value.pointer (some ad5)) (Value.int IntKind.i64 0)) (Value.pointer (some ad24)) ∧
 ∃ (x25 : Int),
 Reads Proofs.Tryd.prog [] (Instr.loadAt 2 (Value.pointer (some ad24))) w15 (Value.int IntKind.i64 x25) ∧
 ∃ (ad26 : Addr),
 Gives Proofs.Tryd.prog (Instr.indexAt 45 (Value.pointer (some ad5)) (Value.int IntKind.i64 1)) (Value.pointer (some ad26)) ∧
 ∃ (x27 : Int),
 Reads Proofs.Tryd.prog [] (Instr.loadAt 2 (Value.pointer (some ad26))) w15 (Value.int IntKind.i64 x27) ∧
 ∃ (ad28 : Addr),
 Gives Proofs.Tryd.prog (Instr.indexAt 45 (Value.pointer (some ad5)) (Value.int IntKind.i64 2)) (Value.pointer (some ad28)) ∧
 ∃ (x29 : Int),
 Reads Proofs.Tryd.prog [] (Instr.loadAt 2 (Value.pointer (some ad28))) w15 (Value.int IntKind.i64 x29) ∧
 ∃ (ad30 : Addr),
 Gives Proofs.Tryd.prog (Instr.indexAt 45 (Value.pointer (some ad5)) (Value.int IntKind.i64 3)) (Value.pointer (some ad30)) ∧
 ∃ (x31 : Int),
 Reads Proofs.Tryd.prog [] (Instr.loadAt 2 (Value.pointer (some ad30))) w15 (Value.int IntKind.i64 x31) ∧
 ∃ (ad32 : Addr),
 Gives Proofs.Tryd.prog (Instr.indexAt 45 (Value.pointer (some ad5)) (Value.int IntKind.i64 4)) (Value.pointer (some ad32)) ∧
 ∃ (x33 : Int),
 Reads Proofs.Tryd.prog [] (Instr.loadAt 2 (Value.pointer (some ad32))) w15 (Value.int IntKind.i64 x33) ∧
 ∃ (a34 : Option Addr),
 ∃ (n35 : Nat),
 ∃ (n36 : Nat),
 Gives Proofs.Tryd.prog (Instr.sliceAt 45 (Value.pointer (some ad5)) (some (Value.int IntKind.i64 5)) none none) (Value.slice a34 n35 n36) ∧
 ∃ (ad37 : Addr),
 Gives Proofs.Tryd.prog (Instr.arrayAt 22 (Value.slice a34 n35 n36)) (Value.pointer (some ad37)) ∧
 ∃ (x38 : Int),
 ∃ (x39 : Int),
 ∃ (x40 : Int),
 ∃ (x41 : Int),
 Reads Proofs.Tryd.prog [] (Instr.loadAt 22 (Value.pointer (some ad37))) w15
 (Value.agg #[Value.int IntKind.i64 x38, Value.int IntKind.i64 x39, Value.int IntKind.i64 x40, Value.int IntKind.i64 x41]) ∧
 ∀ (n42 : Nat),
 w15.heap.size ≤ n42 →
 Reads Proofs.Tryd.prog [] (Instr.loadAt 22 (Value.pointer (some ad37))) w15
 (Value.agg
 #[Value.int IntKind.i64 x38, Value.int IntKind.i64 x39, Value.int IntKind.i64 x40, Value.int IntKind.i64 x41]) ∧
 Reads Proofs.Tryd.prog [] (Instr.loadAt 2 (Value.pointer (some ad32))) w15 (Value.int IntKind.i64 x33) ∧
 Reads Proofs.Tryd.prog [] (Instr.loadAt 2 (Value.pointer (some ad30))) w15 (Value.int IntKind.i64 x31) ∧
 Reads Proofs.Tryd.prog [] (Instr.loadAt 2 (Value.pointer (some ad28))) w15 (Value.int IntKind.i64 x29) ∧
 Reads Proofs.Tryd.prog [] (Instr.loadAt 2 (Value.pointer (some ad26))) w15 (Value.int IntKind.i64 x27) ∧
 Reads Proofs.Tryd.prog [] (Instr.loadAt 2 (Value.pointer (some ad24))) w15 (Value.int IntKind.i64 x25) ∧
 ((x25 == 0 &&
 (x27 == 0 &&
 (x29 == 0 &&
 (x31 == 0 && (x33 == 0 && (x38 == 0 && (x39 == 0 && (x40 == 0 && (x41 == 0 && true))) && true)))))) =
 true →
 ∀ (w43 : World),
 Evo [n1, n42] w15 w43 →
 Under [n1, n42] w43 →
 R
 (Ending.returned
 (Value.tuple
 #[Value.agg
 #[Value.int IntKind.i64 0, Value.int IntKind.i64 0, Value.int IntKind.i64 0,
 Value.int IntKind.i64 0, Value.int IntKind.i64 0, Value.int IntKind.i64 0,
 Value.int IntKind.i64 0, Value.int IntKind.i64 0, Value.int IntKind.i64 0],
 Value.bool false]))
 w43) ∧
 ((x25 == 0 &&
 (x27 == 0 &&
 (x29 == 0 &&
 (x31 == 0 && (x33 == 0 && (x38 == 0 && (x39 == 0 && (x40 == 0 && (x41 == 0 && true))) && true)))))) =
 false →
 ∀ (w44 : World),
 Evo [n42] w15 w44 →
 Under [n1, n42] w44 →
 Calls Proofs.Tryd.prog 8
 #[Value.agg
 #[Value.int IntKind.i64 x25, Value.int IntKind.i64 x27, Value.int IntKind.i64 x29,
 Value.int IntKind.i64 x31, Value.int IntKind.i64 x33, Value.int IntKind.i64 x38,
 Value.int IntKind.i64 x39, Value.int IntKind.i64 x40, Value.int IntKind.i64 x41]]
 w44 fun (e45 : Ending) (w46 : World) =>
 ∃ (x47 : Int),
 e45 = Ending.returned (Value.int IntKind.i64 x47) ∧
 Keeps [n1, n42] w44 w46 ∧
 ((x47 != 0) = true →
 ∀ (w48 : World),
 Evo [n1] w46 w48 →
 Under [n1, n42] w48 →
 R
 (Ending.returned
 (Value.tuple
 #[Value.agg
 #[Value.int IntKind.i64 0, Value.int IntKind.i64 0, Value.int IntKind.i64 0,
 Value.int IntKind.i64 0, Value.int IntKind.i64 0, Value.int IntKind.i64 0,
 Value.int IntKind.i64 0, Value.int IntKind.i64 0,
 Value.int IntKind.i64 0],
 Value.bool false]))
 w48) ∧
 ((x47 != 0) = false →
 Calls Proofs.Tryd.prog 11
 #[Value.agg
 #[Value.int IntKind.i64 x25, Value.int IntKind.i64 x27, Value.int IntKind.i64 x29,
 Value.int IntKind.i64 x31, Value.int IntKind.i64 x33, Value.int IntKind.i64 x38,
 Value.int IntKind.i64 x39, Value.int IntKind.i64 x40, Value.int IntKind.i64 x41]]
 w46 fun (e49 : Ending) (w50 : World) =>
 ∃ (s51 : ByteArray),
 e49 = Ending.returned (Value.string s51) ∧
 Keeps [n1, n42] w46 w50 ∧
 ((!s51.toList == s.toList) = true →
 ∀ (w52 : World),
 Evo [n1] w50 w52 →
 Under [n1, n42] w52 →
 R
 (Ending.returned
 (Value.tuple
 #[Value.agg
 #[Value.int IntKind.i64 0, Value.int IntKind.i64 0,
 Value.int IntKind.i64 0, Value.int IntKind.i64 0,
 Value.int IntKind.i64 0, Value.int IntKind.i64 0,
 Value.int IntKind.i64 0, Value.int IntKind.i64 0,
 Value.int IntKind.i64 0],
 Value.bool false]))
 w52) ∧
 ((!s51.toList == s.toList) = false →
 ∀ (w53 : World),
 Evo [n1] w50 w53 →
 Under [n1, n42] w53 →
 R
 (Ending.returned
 (Value.tuple
 #[Value.agg
 #[Value.int IntKind.i64 x25, Value.int IntKind.i64 x27,
 Value.int IntKind.i64 x29, Value.int IntKind.i64 x31,
 Value.int IntKind.i64 x33, Value.int IntKind.i64 x38,
 Value.int IntKind.i64 x39, Value.int IntKind.i64 x40,
 Value.int IntKind.i64 x41],
 Value.bool true]))
 w53)))))
theorem f10_eq (s : ByteArray) (w : World) (R : Ending → World → Prop) : (fnF Go.Proofs.Tryd.prog h10 Go.Proofs.Tryd.f10 [Value.string s] w R).den = f10_vc s w R := by kernel_rfl
theorem f10_calls (s : ByteArray) (w : World) (R : Ending → World → Prop) (h : f10_vc s w R) : Calls Go.Proofs.Tryd.prog 10 (List.toArray [Value.string s]) w R :=
 fn_sound (H := h10) (fn := Go.Proofs.Tryd.f10) (by kernel_rfl) (by kernel_rfl) (by kernel_rfl) ((f10_eq s w R).mpr h)


/-! manciple/conf.Text -/
def h11 : Hints := ⟨[], [21, 24, 25], [7], [], [], [], [], [], []⟩
def f11_vc (c_0 : Int) (c_1 : Int) (c_2 : Int) (c_3 : Int) (c_4 : Int) (c_5 : Int) (c_6 : Int) (c_7 : Int) (c_8 : Int) (w : World) (R : Ending → World → Prop) : Prop :=
 OpW Proofs.Tryd.prog
 (valueS
 (Instr.box 24
 (Value.agg
 #[Value.int IntKind.i64 c_0, Value.int IntKind.i64 c_1, Value.int IntKind.i64 c_2, Value.int IntKind.i64 c_3, Value.int IntKind.i64 c_4, Value.int IntKind.i64 c_5, Value.int IntKind.i64 c_6, Value.int IntKind.i64 c_7,
 Value.int IntKind.i64 c_8])))
 w fun (v1 : Value) (w2 : World) =>
 ∃ (ad3 : Addr),
 v1 = Value.pointer (some ad3) ∧
 ∃ (x4 : Int),
 ∃ (x5 : Int),
 ∃ (x6 : Int),
 ∃ (x7 : Int),
 ∃ (x8 : Int),
 ∃ (x9 : Int),
 ∃ (x10 : Int),
 ∃ (x11 : Int),
 ∃ (x12 : Int),
 Reads Proofs.Tryd.prog [] (Instr.loadAt 24 (Value.pointer (some ad3))) w2
 (Value.agg
 #[Value.int IntKind.i64 x4, Value.int IntKind.i64 x5, Value.int IntKind.i64 x6, Value.int IntKind.i64 x7, Value.int IntKind.i64 x8, Value.int IntKind.i64 x9, Value.int IntKind.i64 x10,
 Value.int IntKind.i64 x11, Value.int IntKind.i64 x12]) ∧
 Calls Proofs.Tryd.prog 8
 #[Value.agg
 #[Value.int IntKind.i64 x4, Value.int IntKind.i64 x5, Value.int IntKind.i64 x6, Value.int IntKind.i64 x7, Value.int IntKind.i64 x8, Value.int IntKind.i64 x9, Value.int IntKind.i64 x10,
 Value.int IntKind.i64 x11, Value.int IntKind.i64 x12]]
 w2 fun (e13 : Ending) (w14 : World) =>
 ∃ (x15 : Int),
 e13 = Ending.returned (Value.int IntKind.i64 x15) ∧
 ((x15 != 0) = true → R (Ending.returned (Value.string (ByteArray.mk #[]))) w14) ∧
 ((x15 != 0) = false →
 OpW Proofs.Tryd.prog (valueS (Instr.alloc 46 true (Value.tuple #[]))) w14 fun (v16 : Value) (w17 : World) =>
 ∃ (ad18 : Addr),
 v16 = Value.pointer (some ad18) ∧
 ∃ (x19 : Int),
 Reads Proofs.Tryd.prog [] (Instr.loadAt 2 (Value.pointer (some ad3))) w17 (Value.int IntKind.i64 x19) ∧
 ∃ (x20 : Int),
 Reads Proofs.Tryd.prog [] (Instr.loadAt 2 (Value.pointer (some (Addr.mk ad3.block (ad3.off + 1) none)))) w17 (Value.int IntKind.i64 x20) ∧
 ∃ (x21 : Int),
 Reads Proofs.Tryd.prog [] (Instr.loadAt 2 (Value.pointer (some (Addr.mk ad3.block (ad3.off + 2) none)))) w17 (Value.int IntKind.i64 x21) ∧
 ∃ (x22 : Int),
 Reads Proofs.Tryd.prog [] (Instr.loadAt 2 (Value.pointer (some (Addr.mk ad3.block (ad3.off + 3) none)))) w17 (Value.int IntKind.i64 x22) ∧
 ∃ (x23 : Int),
 Reads Proofs.Tryd.prog [] (Instr.loadAt 3 (Value.pointer (some (Addr.mk ad3.block (ad3.off + 4) none)))) w17 (Value.int IntKind.i64 x23) ∧
 OpW Proofs.Tryd.prog
 (valueS
 (Instr.buildSlice 49 5
 #[(0, Value.int IntKind.i64 x19), (1, Value.int IntKind.i64 x20), (2, Value.int IntKind.i64 x21), (3, Value.int IntKind.i64 x22), (4, Value.int IntKind.i64 x23)]))
 w17 fun (v24 : Value) (w25 : World) =>
 ∃ (a26 : Option Addr),
 ∃ (n27 : Nat),
 ∃ (n28 : Nat),
 v24 = Value.slice a26 n27 n28 ∧
 OpW Proofs.Tryd.prog (invokeS (Value.func (Fn.func 18) #[] #[Value.pointer (some ad18)]) #[Value.slice a26 n27 n28]) w25 fun (v29 : Value) (w30 : World) =>
 v29 = Value.tuple #[] ∧
 ∃ (a31 : Option Addr),
 ∃ (n32 : Nat),
 ∃ (n33 : Nat),
 Gives Proofs.Tryd.prog (Instr.sliceAt 22 (Value.pointer (some (Addr.mk ad3.block (ad3.off + 5) none))) none none none) (Value.slice a31 n32 n33) ∧
 OpW Proofs.Tryd.prog (invokeS (Value.func (Fn.func 18) #[] #[Value.pointer (some ad18)]) #[Value.slice a31 n32 n33]) w30 fun (v34 : Value) (w35 : World) =>
 v34 = Value.tuple #[] ∧
 ∃ (a36 : Option Addr),
 ∃ (n37 : Nat),
 ∃ (n38 : Nat),
 Reads Proofs.Tryd.prog [] (Instr.loadAt 46 (Value.pointer (some ad18))) w35 (Value.slice a36 n37 n38) ∧
 Calls Proofs.Tryd.prog 20 #[Value.slice a36 n37 n38, Value.string (ByteArray.mk #[32])] w35 fun (e39 : Ending) (w40 : World) =>
 ∃ (s41 : ByteArray), e39 = Ending.returned (Value.string s41) ∧ R (Ending.returned (Value.string s41)) w40)
theorem f11_eq (c_0 : Int) (c_1 : Int) (c_2 : Int) (c_3 : Int) (c_4 : Int) (c_5 : Int) (c_6 : Int) (c_7 : Int) (c_8 : Int) (w : World) (R : Ending → World → Prop) : (fnF Go.Proofs.Tryd.prog h11 Go.Proofs.Tryd.f11 [Value.agg
 #[Value.int IntKind.i64 c_0, Value.int IntKind.i64 c_1, Value.int IntKind.i64 c_2, Value.int IntKind.i64 c_3, Value.int IntKind.i64 c_4, Value.int IntKind.i64 c_5, Value.int IntKind.i64 c_6, Value.int IntKind.i64 c_7,
 Value.int IntKind.i64 c_8]] w R).den = f11_vc c_0 c_1 c_2 c_3 c_4 c_5 c_6 c_7 c_8 w R := by kernel_rfl
theorem f11_calls (c_0 : Int) (c_1 : Int) (c_2 : Int) (c_3 : Int) (c_4 : Int) (c_5 : Int) (c_6 : Int) (c_7 : Int) (c_8 : Int) (w : World) (R : Ending → World → Prop) (h : f11_vc c_0 c_1 c_2 c_3 c_4 c_5 c_6 c_7 c_8 w R) : Calls Go.Proofs.Tryd.prog 11 (List.toArray [Value.agg
 #[Value.int IntKind.i64 c_0, Value.int IntKind.i64 c_1, Value.int IntKind.i64 c_2, Value.int IntKind.i64 c_3, Value.int IntKind.i64 c_4, Value.int IntKind.i64 c_5, Value.int IntKind.i64 c_6, Value.int IntKind.i64 c_7,
 Value.int IntKind.i64 c_8]]) w R :=
 fn_sound (H := h11) (fn := Go.Proofs.Tryd.f11) (by kernel_rfl) (by kernel_rfl) (by kernel_rfl) ((f11_eq c_0 c_1 c_2 c_3 c_4 c_5 c_6 c_7 c_8 w R).mpr h)


/-! manciple/mancipleref13.Text -/
def h12 : Hints := ⟨[1], [11, 15, 16, 20, 21, 25, 26, 30, 36, 39, 42], [7], [(3, [0, 1, 4, 5, 9, 10, 14, 15, 19, 20, 2, 3, 6, 7, 8, 11, 12, 13, 16, 17, 18, 21, 22, 23])], [(5, 5)], [], [], [], []⟩
def f12_vc (c_0 : Int) (c_1 : Int) (c_2 : Int) (c_3 : Int) (c_4 : Int) (c_5 : Int) (c_6 : Int) (c_7 : Int) (c_8 : Int) (w : World) (R : Ending → World → Prop) : Prop :=
 ∀ (n1 : Nat),
 w.heap.size ≤ n1 →
 ∀ (w2 : World),
 Bel w w2 →
 Under [n1] w2 →
 Calls Proofs.Tryd.prog 7
 #[Value.agg
 #[Value.int IntKind.i64 c_0, Value.int IntKind.i64 c_1, Value.int IntKind.i64 c_2, Value.int IntKind.i64 c_3, Value.int IntKind.i64 c_4, Value.int IntKind.i64 c_5, Value.int IntKind.i64 c_6, Value.int IntKind.i64 c_7,
 Value.int IntKind.i64 c_8]]
 w2 fun (e3 : Ending) (w4 : World) =>
 ∃ (b5 : Bool),
 e3 = Ending.returned (Value.bool b5) ∧
 Keeps [n1] w2 w4 ∧
 ((!b5) = true → R (Ending.returned (Value.string (ByteArray.mk #[]))) w4) ∧
 ((!b5) = false →
 ∀ (w6 : World),
 Bel w4 w6 →
 Under [n1] w6 →
 Calls Proofs.Tryd.prog 21 #[Value.int IntKind.i64 c_0] w6 fun (e7 : Ending) (w8 : World) =>
 ∃ (s9 : ByteArray),
 e7 = Ending.returned (Value.string s9) ∧
 Keeps [n1] w6 w8 ∧
 ∃ (s10 : ByteArray),
 Gives Proofs.Tryd.prog (binOpS BinOp.add 9 (Operand.tmp 10) (Operand.const (Value.string (ByteArray.mk #[32]))) (Value.string s9) (Value.string (ByteArray.mk #[32]))) (Value.string s10) ∧
 Calls Proofs.Tryd.prog 21 #[Value.int IntKind.i64 c_1] w8 fun (e11 : Ending) (w12 : World) =>
 ∃ (s13 : ByteArray),
 e11 = Ending.returned (Value.string s13) ∧
 Keeps [n1] w8 w12 ∧
 ∃ (s14 : ByteArray),
 Gives Proofs.Tryd.prog (binOpS BinOp.add 9 (Operand.tmp 11) (Operand.tmp 14) (Value.string s10) (Value.string s13)) (Value.string s14) ∧
 ∃ (s15 : ByteArray),
 Gives Proofs.Tryd.prog (binOpS BinOp.add 9 (Operand.tmp 15) (Operand.const (Value.string (ByteArray.mk #[32]))) (Value.string s14) (Value.string (ByteArray.mk #[32])))
 (Value.string s15) ∧
 Calls Proofs.Tryd.prog 21 #[Value.int IntKind.i64 c_2] w12 fun (e16 : Ending) (w17 : World) =>
 ∃ (s18 : ByteArray),
 e16 = Ending.returned (Value.string s18) ∧
 Keeps [n1] w12 w17 ∧
 ∃ (s19 : ByteArray),
 Gives Proofs.Tryd.prog (binOpS BinOp.add 9 (Operand.tmp 16) (Operand.tmp 19) (Value.string s15) (Value.string s18)) (Value.string s19) ∧
 ∃ (s20 : ByteArray),
 Gives Proofs.Tryd.prog (binOpS BinOp.add 9 (Operand.tmp 20) (Operand.const (Value.string (ByteArray.mk #[32]))) (Value.string s19) (Value.string (ByteArray.mk #[32])))
 (Value.string s20) ∧
 Calls Proofs.Tryd.prog 21 #[Value.int IntKind.i64 c_3] w17 fun (e21 : Ending) (w22 : World) =>
 ∃ (s23 : ByteArray),
 e21 = Ending.returned (Value.string s23) ∧
 Keeps [n1] w17 w22 ∧
 ∃ (s24 : ByteArray),
 Gives Proofs.Tryd.prog (binOpS BinOp.add 9 (Operand.tmp 21) (Operand.tmp 24) (Value.string s20) (Value.string s23)) (Value.string s24) ∧
 ∃ (s25 : ByteArray),
 Gives Proofs.Tryd.prog
 (binOpS BinOp.add 9 (Operand.tmp 25) (Operand.const (Value.string (ByteArray.mk #[32]))) (Value.string s24) (Value.string (ByteArray.mk #[32])))
 (Value.string s25) ∧
 Calls Proofs.Tryd.prog 21 #[Value.int IntKind.i64 c_4] w22 fun (e26 : Ending) (w27 : World) =>
 ∃ (s28 : ByteArray),
 e26 = Ending.returned (Value.string s28) ∧
 Keeps [n1] w22 w27 ∧
 ∃ (s29 : ByteArray),
 Gives Proofs.Tryd.prog (binOpS BinOp.add 9 (Operand.tmp 26) (Operand.tmp 29) (Value.string s25) (Value.string s28)) (Value.string s29) ∧
 ∃ (s30 : ByteArray),
 Gives Proofs.Tryd.prog
 (binOpS BinOp.add 9 (Operand.tmp 35) (Operand.const (Value.string (ByteArray.mk #[32]))) (Value.string s29)
 (Value.string (ByteArray.mk #[32])))
 (Value.string s30) ∧
 Calls Proofs.Tryd.prog 21 #[Value.int IntKind.i64 c_5] w27 fun (e31 : Ending) (w32 : World) =>
 ∃ (s33 : ByteArray),
 e31 = Ending.returned (Value.string s33) ∧
 Keeps [n1] w27 w32 ∧
 ∃ (s34 : ByteArray),
 Gives Proofs.Tryd.prog (binOpS BinOp.add 9 (Operand.tmp 36) (Operand.tmp 41) (Value.string s30) (Value.string s33))
 (Value.string s34) ∧
 ∃ (s35 : ByteArray),
 Gives Proofs.Tryd.prog
 (binOpS BinOp.add 9 (Operand.tmp 35) (Operand.const (Value.string (ByteArray.mk #[32]))) (Value.string s34)
 (Value.string (ByteArray.mk #[32])))
 (Value.string s35) ∧
 Calls Proofs.Tryd.prog 21 #[Value.int IntKind.i64 c_6] w32 fun (e36 : Ending) (w37 : World) =>
 ∃ (s38 : ByteArray),
 e36 = Ending.returned (Value.string s38) ∧
 Keeps [n1] w32 w37 ∧
 ∃ (s39 : ByteArray),
 Gives Proofs.Tryd.prog
 (binOpS BinOp.add 9 (Operand.tmp 36) (Operand.tmp 41) (Value.string s35) (Value.string s38))
 (Value.string s39) ∧
 ∃ (s40 : ByteArray),
 Gives Proofs.Tryd.prog
 (binOpS BinOp.add 9 (Operand.tmp 35) (Operand.const (Value.string (ByteArray.mk #[32])))
 (Value.string s39) (Value.string (ByteArray.mk #[32])))
 (Value.string s40) ∧
 Calls Proofs.Tryd.prog 21 #[Value.int IntKind.i64 c_7] w37 fun (e41 : Ending) (w42 : World) =>
 ∃ (s43 : ByteArray),
 e41 = Ending.returned (Value.string s43) ∧
 Keeps [n1] w37 w42 ∧
 ∃ (s44 : ByteArray),
 Gives Proofs.Tryd.prog
 (binOpS BinOp.add 9 (Operand.tmp 36) (Operand.tmp 41) (Value.string s40)
 (Value.string s43))
 (Value.string s44) ∧
 ∃ (s45 : ByteArray),
 Gives Proofs.Tryd.prog
 (binOpS BinOp.add 9 (Operand.tmp 35)
 (Operand.const (Value.string (ByteArray.mk #[32]))) (Value.string s44)
 (Value.string (ByteArray.mk #[32])))
 (Value.string s45) ∧
 Calls Proofs.Tryd.prog 21 #[Value.int IntKind.i64 c_8] w42
 fun (e46 : Ending) (w47 : World) =>
 ∃ (s48 : ByteArray),
 e46 = Ending.returned (Value.string s48) ∧
 Keeps [n1] w42 w47 ∧
 ∃ (s49 : ByteArray),
 Gives Proofs.Tryd.prog
 (binOpS BinOp.add 9 (Operand.tmp 36) (Operand.tmp 41) (Value.string s45)
 (Value.string s48))
 (Value.string s49) ∧
 R (Ending.returned (Value.string s49)) w47)
theorem f12_eq (c_0 : Int) (c_1 : Int) (c_2 : Int) (c_3 : Int) (c_4 : Int) (c_5 : Int) (c_6 : Int) (c_7 : Int) (c_8 : Int) (w : World) (R : Ending → World → Prop) : (fnF Go.Proofs.Tryd.prog h12 Go.Proofs.Tryd.f12 [Value.agg
 #[Value.int IntKind.i64 c_0, Value.int IntKind.i64 c_1, Value.int IntKind.i64 c_2, Value.int IntKind.i64 c_3, Value.int IntKind.i64 c_4, Value.int IntKind.i64 c_5, Value.int IntKind.i64 c_6, Value.int IntKind.i64 c_7,
 Value.int IntKind.i64 c_8]] w R).den = f12_vc c_0 c_1 c_2 c_3 c_4 c_5 c_6 c_7 c_8 w R := by kernel_rfl
theorem f12_calls (c_0 : Int) (c_1 : Int) (c_2 : Int) (c_3 : Int) (c_4 : Int) (c_5 : Int) (c_6 : Int) (c_7 : Int) (c_8 : Int) (w : World) (R : Ending → World → Prop) (h : f12_vc c_0 c_1 c_2 c_3 c_4 c_5 c_6 c_7 c_8 w R) : Calls Go.Proofs.Tryd.prog 12 (List.toArray [Value.agg
 #[Value.int IntKind.i64 c_0, Value.int IntKind.i64 c_1, Value.int IntKind.i64 c_2, Value.int IntKind.i64 c_3, Value.int IntKind.i64 c_4, Value.int IntKind.i64 c_5, Value.int IntKind.i64 c_6, Value.int IntKind.i64 c_7,
 Value.int IntKind.i64 c_8]]) w R :=
 fn_sound (H := h12) (fn := Go.Proofs.Tryd.f12) (by kernel_rfl) (by kernel_rfl) (by kernel_rfl) ((f12_eq c_0 c_1 c_2 c_3 c_4 c_5 c_6 c_7 c_8 w R).mpr h)


/-! manciple/mancipleref13.within -/
def h13 : Hints := ⟨[], [], [10], [], [], [], [], [], []⟩
def f13_vc (n : Int) (lo : Int) (hi : Int) (w : World) (R : Ending → World → Prop) : Prop :=
 (decide (n ≥ lo) = true → R (Ending.returned (Value.bool (decide (n ≤ hi)))) w) ∧ (decide (n ≥ lo) = false → R (Ending.returned (Value.bool false)) w)
theorem f13_eq (n : Int) (lo : Int) (hi : Int) (w : World) (R : Ending → World → Prop) : (fnF Go.Proofs.Tryd.prog h13 Go.Proofs.Tryd.f13 [Value.int IntKind.i64 n, Value.int IntKind.i64 lo, Value.int IntKind.i64 hi] w R).den = f13_vc n lo hi w R := by kernel_rfl
theorem f13_calls (n : Int) (lo : Int) (hi : Int) (w : World) (R : Ending → World → Prop) (h : f13_vc n lo hi w R) : Calls Go.Proofs.Tryd.prog 13 (List.toArray [Value.int IntKind.i64 n, Value.int IntKind.i64 lo, Value.int IntKind.i64 hi]) w R :=
 fn_sound (H := h13) (fn := Go.Proofs.Tryd.f13) (by kernel_rfl) (by kernel_rfl) (by kernel_rfl) ((f13_eq n lo hi w R).mpr h)


/-! manciple/conf.within -/
def h14 : Hints := ⟨[], [], [10], [], [], [], [], [], []⟩
def f14_vc (n : Int) (lo : Int) (hi : Int) (w : World) (R : Ending → World → Prop) : Prop :=
 (decide (n ≥ lo) = true → R (Ending.returned (Value.bool (decide (n ≤ hi)))) w) ∧ (decide (n ≥ lo) = false → R (Ending.returned (Value.bool false)) w)
theorem f14_eq (n : Int) (lo : Int) (hi : Int) (w : World) (R : Ending → World → Prop) : (fnF Go.Proofs.Tryd.prog h14 Go.Proofs.Tryd.f14 [Value.int IntKind.i64 n, Value.int IntKind.i64 lo, Value.int IntKind.i64 hi] w R).den = f14_vc n lo hi w R := by kernel_rfl
theorem f14_calls (n : Int) (lo : Int) (hi : Int) (w : World) (R : Ending → World → Prop) (h : f14_vc n lo hi w R) : Calls Go.Proofs.Tryd.prog 14 (List.toArray [Value.int IntKind.i64 n, Value.int IntKind.i64 lo, Value.int IntKind.i64 hi]) w R :=
 fn_sound (H := h14) (fn := Go.Proofs.Tryd.f14) (by kernel_rfl) (by kernel_rfl) (by kernel_rfl) ((f14_eq n lo hi w R).mpr h)


/-! manciple/conf.Small -/
def h15 : Hints := ⟨[0], [], [], [], [], [], [], [], []⟩
def f15_vc  (w : World) (R : Ending → World → Prop) : Prop :=
 ∀ (n1 : Nat),
 w.heap.size ≤ n1 →
 ∀ (w2 : World),
 Evo [n1] w w2 →
 Under [n1] w2 →
 R
 (Ending.returned
 (Value.agg
 #[Value.int IntKind.i64 1000, Value.int IntKind.i64 1000000, Value.int IntKind.i64 1000, Value.int IntKind.i64 0, Value.int IntKind.i64 64, Value.int IntKind.i64 0, Value.int IntKind.i64 0, Value.int IntKind.i64 0,
 Value.int IntKind.i64 0]))
 w2
theorem f15_eq  (w : World) (R : Ending → World → Prop) : (fnF Go.Proofs.Tryd.prog h15 Go.Proofs.Tryd.f15 [] w R).den = f15_vc  w R := by kernel_rfl
theorem f15_calls  (w : World) (R : Ending → World → Prop) (h : f15_vc  w R) : Calls Go.Proofs.Tryd.prog 15 (List.toArray []) w R :=
 fn_sound (H := h15) (fn := Go.Proofs.Tryd.f15) (by kernel_rfl) (by kernel_rfl) (by kernel_rfl) ((f15_eq  w R).mpr h)


/-! manciple/conf.number -/
def h17 : Hints := ⟨[], [11], [10, 22, 15, 19], [], [], [(3, ⟨[(3, .int .i64), (9, .int .i64)], []⟩)], [], [], []⟩
def f17_vc (s : ByteArray) (w : World) (R : Ending → World → Prop) : Prop :=
 OpW Proofs.Tryd.prog (valueS (convert 9 54 (Value.string s))) w fun (v1 : Value) (w2 : World) =>
 ∃ (a3 : Option Addr),
 ∃ (n4 : Nat),
 ∃ (n5 : Nat),
 v1 = Value.slice a3 n4 n5 ∧
 ∃ (J6 : Int × Int × Unit → World → Prop),
 ∃ (J7 : Int × Int × Unit → World → Nat),
 J6 (0, 0, ()) w2 ∧
 ∀ (x8 x9 : Int) (w10 : World),
 J6 (x8, x9, ()) w10 →
 (decide (x9 < (↑n4 : Int)) = true →
 ∃ (ad11 : Addr),
 Gives Proofs.Tryd.prog (Instr.indexAt 54 (Value.slice a3 n4 n5) (Value.int IntKind.i64 x9)) (Value.pointer (some ad11)) ∧
 ∃ (x12 : Int),
 Reads Proofs.Tryd.prog [] (Instr.loadAt 5 (Value.pointer (some ad11))) w10 (Value.int IntKind.u8 x12) ∧
 (decide (x12 < 48) = true → R (Ending.returned (Value.int IntKind.i64 (-1))) w10) ∧
 (decide (x12 < 48) = false →
 (decide (x12 > 57) = true → R (Ending.returned (Value.int IntKind.i64 (-1))) w10) ∧
 (decide (x12 > 57) = false →
 (decide (x8 > 9007199254740992) = true → R (Ending.returned (Value.int IntKind.i64 (-1))) w10) ∧
 (decide (x8 > 9007199254740992) = false →
 J6 (IntKind.i64.wrap (IntKind.i64.wrap (x8 * 10) + IntKind.i64.wrap (IntKind.u8.wrap (x12 - 48))), IntKind.i64.wrap (x9 + 1), ()) w10 ∧
 J7 (IntKind.i64.wrap (IntKind.i64.wrap (x8 * 10) + IntKind.i64.wrap (IntKind.u8.wrap (x12 - 48))), IntKind.i64.wrap (x9 + 1), ()) w10 < J7 (x8, x9, ()) w10)))) ∧
 (decide (x9 < (↑n4 : Int)) = false → R (Ending.returned (Value.int IntKind.i64 x8)) w10)
theorem f17_eq (s : ByteArray) (w : World) (R : Ending → World → Prop) : (fnF Go.Proofs.Tryd.prog h17 Go.Proofs.Tryd.f17 [Value.string s] w R).den = f17_vc s w R := by kernel_rfl
theorem f17_calls (s : ByteArray) (w : World) (R : Ending → World → Prop) (h : f17_vc s w R) : Calls Go.Proofs.Tryd.prog 17 (List.toArray [Value.string s]) w R :=
 fn_sound (H := h17) (fn := Go.Proofs.Tryd.f17) (by kernel_rfl) (by kernel_rfl) (by kernel_rfl) ((f17_eq s w R).mpr h)


/-! manciple/conf.Text$1 -/
def h18 : Hints := ⟨[], [9], [8], [(3, [0, 1, 2, 3, 4, 5])], [], [(1, ⟨[(7, .int .i64)], []⟩)], [], [], []⟩
def f18_vc (na : Option Addr) (nn : Nat) (nc : Nat) (cap0 : Value) (w : World) (R : Ending → World → Prop) : Prop :=
 ∃ (J1 : Int × Unit → World → Prop),
 ∃ (J2 : Int × Unit → World → Nat),
 J1 (0, ()) w ∧
 ∀ (x3 : Int) (w4 : World),
 J1 (x3, ()) w4 →
 (decide (x3 < (↑nn : Int)) = true →
 ∃ (ad5 : Addr),
 Gives Proofs.Tryd.prog (Instr.indexAt 49 (Value.slice na nn nc) (Value.int IntKind.i64 x3)) (Value.pointer (some ad5)) ∧
 ∃ (x6 : Int),
 Reads Proofs.Tryd.prog [] (Instr.loadAt 2 (Value.pointer (some ad5))) w4 (Value.int IntKind.i64 x6) ∧
 ∃ (a7 : Option Addr),
 ∃ (n8 : Nat),
 ∃ (n9 : Nat),
 Reads Proofs.Tryd.prog [] (Instr.loadAt 46 cap0) w4 (Value.slice a7 n8 n9) ∧
 ∀ (w10 : World),
 Bel w4 w10 →
 Calls Proofs.Tryd.prog 19 #[Value.int IntKind.i64 x6] w10 fun (e11 : Ending) (w12 : World) =>
 ∃ (s13 : ByteArray),
 e11 = Ending.returned (Value.string s13) ∧
 Reads Proofs.Tryd.prog [] (Instr.loadAt 46 cap0) w12 (Value.slice a7 n8 n9) ∧
 OpW Proofs.Tryd.prog (valueS (Instr.buildSlice 46 1 #[(0, Value.string s13)])) w12 fun (v14 : Value) (w15 : World) =>
 ∃ (a16 : Option Addr),
 ∃ (n17 : Nat),
 ∃ (n18 : Nat),
 v14 = Value.slice a16 n17 n18 ∧
 Reads Proofs.Tryd.prog [] (Instr.loadAt 46 cap0) w15 (Value.slice a7 n8 n9) ∧
 OpW Proofs.Tryd.prog (builtin Builtin.append #[46, 46] 46 #[false, false] #[Value.slice a7 n8 n9, Value.slice a16 n17 n18]) w15 fun (v19 : Value) (w20 : World) =>
 ∃ (a21 : Option Addr),
 ∃ (n22 : Nat),
 ∃ (n23 : Nat),
 v19 = Value.slice a21 n22 n23 ∧
 OpW Proofs.Tryd.prog (skipS (Instr.storeAt 46 cap0 (Value.slice a21 n22 n23))) w20 fun (v24 : Value) (w25 : World) =>
 J1 (IntKind.i64.wrap (x3 + 1), ()) w25 ∧ J2 (IntKind.i64.wrap (x3 + 1), ()) w25 < J2 (x3, ()) w4) ∧
 (decide (x3 < (↑nn : Int)) = false → R (Ending.returned (Value.tuple #[])) w4)
theorem f18_eq (na : Option Addr) (nn : Nat) (nc : Nat) (cap0 : Value) (w : World) (R : Ending → World → Prop) : (fnF Go.Proofs.Tryd.prog h18 Go.Proofs.Tryd.f18 [Value.slice na nn nc, cap0] w R).den = f18_vc na nn nc cap0 w R := by kernel_rfl
theorem f18_calls (na : Option Addr) (nn : Nat) (nc : Nat) (cap0 : Value) (w : World) (R : Ending → World → Prop) (h : f18_vc na nn nc cap0 w R) : Calls Go.Proofs.Tryd.prog 18 (List.toArray [Value.slice na nn nc, cap0]) w R :=
 fn_sound (H := h18) (fn := Go.Proofs.Tryd.f18) (by kernel_rfl) (by kernel_rfl) (by kernel_rfl) ((f18_eq na nn nc cap0 w R).mpr h)


/-! manciple/conf.digits -/
def h19 : Hints := ⟨[], [16], [4], [], [], [], [], [], []⟩
def f19_vc (n : Int) (w : World) (R : Ending → World → Prop) : Prop :=
 (decide (n < 10) = true →
 OpW Proofs.Tryd.prog (valueS (Instr.buildSlice 54 1 #[(0, Value.int IntKind.u8 (IntKind.u8.wrap (IntKind.i64.wrap (48 + n))))])) w fun (v1 : Value) (w2 : World) =>
 ∃ (a3 : Option Addr),
 ∃ (n4 : Nat),
 ∃ (n5 : Nat),
 v1 = Value.slice a3 n4 n5 ∧ OpW Proofs.Tryd.prog (valueS (convert 54 9 (Value.slice a3 n4 n5))) w2 fun (v6 : Value) (w7 : World) => ∃ (s8 : ByteArray), v6 = Value.string s8 ∧ R (Ending.returned (Value.string s8)) w7) ∧
 (decide (n < 10) = false →
 Calls Proofs.Tryd.prog 19 #[Value.int IntKind.i64 (IntKind.i64.wrap (n.tdiv 10))] w fun (e9 : Ending) (w10 : World) =>
 ∃ (s11 : ByteArray),
 e9 = Ending.returned (Value.string s11) ∧
 Calls Proofs.Tryd.prog 19 #[Value.int IntKind.i64 (n.tmod 10)] w10 fun (e12 : Ending) (w13 : World) =>
 ∃ (s14 : ByteArray),
 e12 = Ending.returned (Value.string s14) ∧
 ∃ (s15 : ByteArray), Gives Proofs.Tryd.prog (binOpS BinOp.add 9 (Operand.tmp 12) (Operand.tmp 15) (Value.string s11) (Value.string s14)) (Value.string s15) ∧ R (Ending.returned (Value.string s15)) w13)
theorem f19_eq (n : Int) (w : World) (R : Ending → World → Prop) : (fnF Go.Proofs.Tryd.prog h19 Go.Proofs.Tryd.f19 [Value.int IntKind.i64 n] w R).den = f19_vc n w R := by kernel_rfl
theorem f19_calls (n : Int) (w : World) (R : Ending → World → Prop) (h : f19_vc n w R) : Calls Go.Proofs.Tryd.prog 19 (List.toArray [Value.int IntKind.i64 n]) w R :=
 fn_sound (H := h19) (fn := Go.Proofs.Tryd.f19) (by kernel_rfl) (by kernel_rfl) (by kernel_rfl) ((f19_eq n w R).mpr h)


/-! manciple/mancipleref02.Digits -/
def h21 : Hints := ⟨[], [15], [5], [], [], [(3, ⟨[(0, .int .i64), (3, .str), (4, .bool)], []⟩)], [], [], []⟩
def f21_vc (n : Int) (w : World) (R : Ending → World → Prop) : Prop :=
 ∃ (J1 : Int × ByteArray × Bool × Unit → World → Prop),
 ∃ (J2 : Int × ByteArray × Bool × Unit → World → Nat),
 J1 (n, ByteArray.mk #[], true, ()) w ∧
 ∀ (x3 : Int) (s4 : ByteArray) (b5 : Bool) (w6 : World),
 J1 (x3, s4, b5, ()) w6 →
 (b5 = true →
 OpW Proofs.Tryd.prog (valueS (Instr.buildSlice 54 1 #[(0, Value.int IntKind.u8 (IntKind.u8.wrap (IntKind.i64.wrap (48 + x3.tmod 10))))])) w6 fun (v7 : Value) (w8 : World) =>
 ∃ (a9 : Option Addr),
 ∃ (n10 : Nat),
 ∃ (n11 : Nat),
 v7 = Value.slice a9 n10 n11 ∧
 OpW Proofs.Tryd.prog (valueS (convert 54 9 (Value.slice a9 n10 n11))) w8 fun (v12 : Value) (w13 : World) =>
 ∃ (s14 : ByteArray),
 v12 = Value.string s14 ∧
 ∃ (s15 : ByteArray),
 Gives Proofs.Tryd.prog (binOpS BinOp.add 9 (Operand.tmp 13) (Operand.tmp 14) (Value.string s14) (Value.string s4)) (Value.string s15) ∧
 J1 (IntKind.i64.wrap (x3.tdiv 10), s15, decide (IntKind.i64.wrap (x3.tdiv 10) > 0), ()) w13 ∧
 J2 (IntKind.i64.wrap (x3.tdiv 10), s15, decide (IntKind.i64.wrap (x3.tdiv 10) > 0), ()) w13 < J2 (x3, s4, b5, ()) w6) ∧
 (b5 = false → R (Ending.returned (Value.string s4)) w6)
theorem f21_eq (n : Int) (w : World) (R : Ending → World → Prop) : (fnF Go.Proofs.Tryd.prog h21 Go.Proofs.Tryd.f21 [Value.int IntKind.i64 n] w R).den = f21_vc n w R := by kernel_rfl
theorem f21_calls (n : Int) (w : World) (R : Ending → World → Prop) (h : f21_vc n w R) : Calls Go.Proofs.Tryd.prog 21 (List.toArray [Value.int IntKind.i64 n]) w R :=
 fn_sound (H := h21) (fn := Go.Proofs.Tryd.f21) (by kernel_rfl) (by kernel_rfl) (by kernel_rfl) ((f21_eq n w R).mpr h)

end Vck

/- Slices, continued: an element read; a row made; an element stored. -/
namespace Go.Vc
open Go Go.RowKit

section
variable {α : Type} {P : Program} {M : Nat → Prop} {w W W' : World} {gs ds : List Nat} {e : TypeId} {size : Nat} {f : α → List Value} {l : List α} {a : Option Addr} {n c : Nat}

theorem OwnF.sl (h : OwnF w M gs W e size f (.slice a n c) l) (hf : ∀ x ∈ l, (f x).length = size) : SlE W size f l a n c := by
  obtain ⟨a', c', hv, hs⟩ := h.slice hf
  obtain ⟨rfl, rfl, rfl⟩ := Value.slice.inj hv
  exact hs
theorem OwnF.len (h : OwnF w M gs W e size f (.slice a n c) l) : n = l.length := by
  rcases h.row0.2 with ⟨hv, hn⟩ | ⟨g, cap, cur, hv, _⟩
  · rw [hn]; exact (Value.slice.inj hv).2.1
  · exact (Value.slice.inj hv).2.1
theorem OwnF.ptr (h : OwnF w M gs W e size f (.slice a n c) l) (hl : 0 < l.length) : ∃ g cur, a = some ⟨g, 0, none⟩ ∧ 0 ≤ g ∧ W.heap[g]? = some (.cells cur e (0, 0)) ∧ l.length ≤ c ∧ c ≤ maxLen ∧ cur.size = c * size ∧ cur.toList.take (l.length * size) = l.flatMap f := by
  rcases h.row0.2 with ⟨hv, hn⟩ | ⟨g, cap, cur, hv, rest⟩
  · omega
  · obtain ⟨rfl, rfl, rfl⟩ := Value.slice.inj hv
    exact ⟨g, cur, rfl, rest⟩

theorem rd_agg {t te : TypeId} {x : α} {i : Nat} {k : IntKind} (hs : SlE W size f l a n c) (hx : l[i]? = some x) (ht : P.underlying t = some (.slice e)) (hz : pureRun P (sizeOf e) = some size) (hagg : pureRun P (isAgg te) = some true) (hsz : pureRun P (sizeOf te) = some (f x).length) (hd : ∀ d ∈ ds, ∀ b, a = some b → d ≠ b.block) :
    ∃ ad, Gives P (Instr.indexAt t (.slice a n c) (.int k (i : Int))) (.pointer (some ad)) ∧ Reads P ds (Instr.loadAt te (.pointer (some ad))) W (.agg (f x).toArray) := by
  obtain ⟨ad, cs, rfl, hcl, hcs, rfl⟩ := hs.at_ hx
  have hi := (List.getElem?_eq_some_iff.1 hx).1
  refine ⟨_, gives_index ht hz (by rw [hs.1]; exact hi), reads_agg hagg hsz (fun d hm => ?_) hcs⟩
  have hb : (ad.add (i * size)).block = ad.block := by unfold Addr.add; split <;> rfl
  rw [hb]
  exact hd d hm ad rfl

theorem rd_one {t te : TypeId} {x : α} {i : Nat} {k : IntKind} {u : Value} (hs : SlE W size f l a n c) (hx : l[i]? = some x) (hu : f x = [u]) (ht : P.underlying t = some (.slice e)) (hz : pureRun P (sizeOf e) = some size) (hagg : pureRun P (isAgg te) = some false) (hd : ∀ d ∈ ds, ∀ b, a = some b → d ≠ b.block) :
    ∃ ad, Gives P (Instr.indexAt t (.slice a n c) (.int k (i : Int))) (.pointer (some ad)) ∧ Reads P ds (Instr.loadAt te (.pointer (some ad))) W u := by
  obtain ⟨ad, cs, rfl, hcl, hcs, rfl⟩ := hs.at_ hx
  have hi := (List.getElem?_eq_some_iff.1 hx).1
  refine ⟨_, gives_index ht hz (by rw [hs.1]; exact hi), reads_one hagg (fun d hm => ?_) ?_⟩
  · have hb : (ad.add (i * size)).block = ad.block := by unfold Addr.add; split <;> rfl
    rw [hb]
    exact hd d hm ad rfl
  · have := hcs 0 u (by rw [hu]; rfl)
    have ha : (ad.add (i * size)).add 0 = ad.add (i * size) := by
      generalize ad.add (i * size) = q
      unfold Addr.add
      simp
    rwa [ha] at this

theorem flatMap_len (hf : ∀ x ∈ l, (f x).length = size) : (l.flatMap f).length = l.length * size := by
  induction l with
  | nil => simp
  | cons x l ih =>
    rw [List.flatMap_cons, List.length_append, List.length_cons, hf x (List.mem_cons_self ..), ih fun y hy => hf y (List.mem_cons_of_mem _ hy), Nat.add_mul]
    omega

theorem flatMap_set {i : Nat} {y : α} (hf : ∀ x ∈ l, (f x).length = size) (hi : i < l.length) : (l.set i y).flatMap f = (l.flatMap f).take (i * size) ++ f y ++ (l.flatMap f).drop (i * size + size) := by
  induction l generalizing i with
  | nil => simp at hi
  | cons x l ih =>
    have hx := hf x (List.mem_cons_self ..)
    cases i with
    | zero =>
      simp only [List.set_cons_zero, List.flatMap_cons, Nat.zero_mul, List.take_zero, List.nil_append, Nat.zero_add]
      rw [← hx, List.drop_left]
    | succ i =>
      have := ih (i := i) (fun x hx => hf x (List.mem_cons_of_mem _ hx)) (by simpa using hi)
      simp only [List.set_cons_succ, List.flatMap_cons, this]
      have e1 : (i + 1) * size = (f x).length + i * size := by rw [hx, Nat.add_mul]; omega
      rw [e1, List.take_length_add_append, Nat.add_assoc, List.drop_length_add_append]
      simp [List.append_assoc]

theorem take_mid {β : Type} {cur xs y : List β} {L a s : Nat} (h : cur.take L = xs) (hL : xs.length = L) (hy : y.length = s) (ha : a + s ≤ L) :
    (cur.take a ++ y ++ cur.drop (a + s)).take L = xs.take a ++ y ++ xs.drop (a + s) := by
  have hc : cur = xs ++ cur.drop L := by rw [← h, List.take_append_drop]
  have e1 : cur.take a = xs.take a := by rw [← h, List.take_take, Nat.min_eq_left (by omega)]
  have e2 : cur.drop (a + s) = xs.drop (a + s) ++ cur.drop L := by
    rw [hc, List.drop_append_of_le_length (by omega), ← hc]
  rw [e1, e2, ← List.append_assoc]
  have hl : (xs.take a ++ y ++ xs.drop (a + s)).length = L := by
    simp only [List.length_append, List.length_take, List.length_drop, hL]
    omega
  have := List.take_left (l₁ := xs.take a ++ y ++ xs.drop (a + s)) (l₂ := cur.drop L)
  rwa [hl] at this

/-- An element is stored. -/
theorem opw_store {te : TypeId} {i : Nat} {y : α} {x : Value} (hA : AtF w M gs W) (ho : OwnF w M gs W e size f (.slice a n c) l) (hf : ∀ x ∈ l, (f x).length = size) (hi : i < l.length) (hy : x.cells.toList = f y) (hyl : (f y).length = size) (h1 : (f y).all oneCell = true) (hsz : pureRun P (sizeOf te) = some size) {K : Value → World → Prop}
    (h : ∀ w', AtF w M gs w' → Keeps gs W w' → W.grownBy w' (Value.slice a n c).ownBlock → OwnF w M gs w' e size f (.slice a n c) (l.set i y) → K undef w') {ad : Addr} (had : ∀ g, a = some ⟨g, 0, none⟩ → ad = ⟨g, i * size, none⟩) :
    OpW P (skipS (Instr.storeAt te (.pointer (some ad)) x)) W K := by
  obtain ⟨g, cur, rfl, hge, hg, hlc, hcm, hcs, htk⟩ := ho.ptr (by omega)
  have had := had g rfl
  subst had
  have hn := ho.len
  have hle : i * size + size ≤ l.length * size := by
    have := Nat.mul_le_mul_right size (show i + 1 ≤ l.length by omega)
    rw [Nat.add_mul] at this
    omega
  have hle2 : l.length * size ≤ cur.size := by rw [hcs]; exact Nat.mul_le_mul_right _ hlc
  have hcl : cellStore P te cur.toList (i * size) x = some (cur.toList.take (i * size) ++ f y ++ cur.toList.drop (i * size + size)) := by
    unfold cellStore
    rw [hsz]
    simp only [hy, h1]
    have b1 : Nat.beq (f y).length size = true := by rw [hyl]; exact Nat.beq_refl _
    have b2 : Nat.ble (i * size + size) cur.toList.length = true := Nat.ble_eq_true_of_le (by rw [Array.length_toList]; omega)
    rw [b1, b2]
    rfl
  obtain ⟨W', hr, hg', hb, hs1, h2, h3, h4⟩ := run_cellStore (P := P) (t := te) (cells := cur.toList) (by simpa using hg) hcl
  have hgr : W.grownBy W' (some g) := ⟨h2, h3, h4, by omega, fun k _ hk => hb k (fun e => hk (by rw [e]))⟩
  have hsk : (skipS (Instr.storeAt te (.pointer (some ⟨g, i * size, none⟩)) x)).run P W = .ok .skip W' := by
    unfold skipS
    rw [run_bind_ok hr]
    rfl
  unfold OpW
  rw [hsk]
  refine h W' (hA.step (Chg.of_grown hgr (run_drawn hr)) fun k _ hk => ho.mine k hk) (fun g' hm => hgr.block g' (hA.under g' hm) fun e => ho.apart g' hm e.symm) hgr ⟨⟨?_, .inr ⟨g, c, _, ?_, hge, hg', ?_, hcm, ?_, ?_⟩⟩, ho.mine, ho.apart⟩
  · rw [flatMap_set hf hi, List.length_set]
    have := flatMap_len hf
    simp only [List.length_append, List.length_take, List.length_drop, hyl]
    omega
  · rw [List.length_set, hn]
  · rw [List.length_set]; exact hlc
  · simp only [List.size_toArray, List.length_append, List.length_take, List.length_drop, hyl, Array.length_toList]
    omega
  · rw [flatMap_set hf hi, List.length_set]
    exact take_mid htk (by rw [flatMap_len hf]) hyl hle

/-- A slice written out. -/
theorem opw_lit {t e' : TypeId} {len : Nat} {parts : Array (Nat × Value)} {cs : List Value} {K : Value → World → Prop} (hA : AtF w M gs W) (hc : sliceCells P t len parts = some (e', cs))
    (h : ∀ w', AtF w M gs w' → Keeps gs W w' → Bel W w' → (∀ j u, cs[j]? = some u → w'.cell? ((⟨W.heap.size, 0, none⟩ : Addr).add j) = some u) → w'.heap[W.heap.size]? = some (.cells cs.toArray e' (0, 0)) → K (.slice (some ⟨W.heap.size, 0, none⟩) len len) w') : OpW P (valueS (Instr.buildSlice t len parts)) W K := by
  refine opw_buildSlice hc (h _ (hA.call (below_alloc _)) (hA.keeps (below_alloc _)) (below_alloc _) (fun j u hu => ?_) (heap_alloc_new W _))
  rw [addr_add, cell_at (cells := cs) (ty := e') (fr := (0, 0)) (heap_alloc_new W _), Nat.zero_add]
  exact hu

/-- A row made, all zero. -/
theorem opw_make {t : TypeId} {bytes m : Nat} {kl kc : IntKind} {z : α} (he : elemB P t e size bytes = true) (hA : AtF w M gs W) (hz : ∃ i zv, P.info? e = some i ∧ i.zero = some zv ∧ zv.cells.toList = f z) (hb : bytes * m ≤ 281474976710656) (hm : m ≤ maxLen) {K : Value → World → Prop}
    (h : ∀ w', AtF w M gs w' → Keeps gs W w' → OwnF w M gs w' e size f (.slice (some ⟨W.heap.size, 0, none⟩) m m) (List.replicate m z) → W.grownBy w' none → K (.slice (some ⟨W.heap.size, 0, none⟩) m m) w') :
    OpW P (valueS (Instr.makeSlice t (.int kl (m : Int)) (.int kc (m : Int)))) W K := by
  obtain ⟨i, zv, ok⟩ := elemB_ok he
  obtain ⟨i', zv', hi', hz', hf⟩ := hz
  rw [ok.hi] at hi'
  cases hi'
  rw [ok.hz] at hz'
  cases hz'
  obtain ⟨w', hr, ho, hgr⟩ := run_make_full (P := P) W W.heap.size t e i zv size ok.ht ok.hi ok.hz ok.hsize kl kc m (by rw [ok.hby]; exact hb) hm (Nat.le_refl _)
  unfold OpW
  rw [run_valueS hr]
  have hbl : Bel W w' := ⟨⟨hgr.os, hgr.tape, hgr.output, hgr.size, fun k hk => hgr.block k hk (by simp)⟩, run_drawn hr⟩
  refine h w' (hA.call hbl) (hA.keeps hbl) (OwnF.ret hA ho (by rw [List.length_replicate]) ?_) hgr
  have hl : zv.cells.toList.length = size := by rw [Array.length_toList, ok.hzs]
  have hsz := ok.hsz
  apply List.ext_getElem?
  intro j
  have hfz : (f z).length = size := by rw [← hf]; exact hl
  have hfl : ((List.replicate m z).flatMap f).length = m * size := by
    rw [flatMap_len (size := size) (fun x hx => by rw [(List.mem_replicate.1 hx).2]; exact hfz), List.length_replicate]
  by_cases hj : j < m * size
  · have hq : j / size < m := Nat.div_lt_of_lt_mul (by rw [Nat.mul_comm]; exact hj)
    have hp := flatMap_part (l := List.replicate m z) (f := f) (size := size) (fun x hx => by rw [(List.mem_replicate.1 hx).2]; exact hfz) (i := j / size) (x := z) (by rw [List.getElem?_replicate, if_pos hq])
    have hmd : j % size < size := Nat.mod_lt _ hsz
    have hdm : j / size * size + j % size = j := by rw [Nat.mul_comm]; exact Nat.div_add_mod j size
    have e1 : ((List.replicate m z).flatMap f)[j]? = (f z)[j % size]? := by
      rw [← hp, List.getElem?_take, if_pos hmd, List.getElem?_drop, hdm]
    rw [e1, ← hf]
    have hsz0 : zv.cells.size = size := ok.hzs
    have : j % zv.cells.size < zv.cells.size := by rw [hsz0]; exact hmd
    simp [madeCells, hj, hsz0]
    rw [getElem!_pos zv.cells (j % size) (by rw [hsz0]; exact hmd)]
    simp [hmd, hsz0]
  · rw [List.getElem?_eq_none (by rw [Array.length_toList, size_madeCells]; omega), List.getElem?_eq_none (by rw [hfl]; omega)]
end

/-- A contract that returns a new slice. -/
def RetL {α : Type} (P : Program) (fn : FuncId) (args : Array Value) (W : World) (e : TypeId) (size : Nat) (f : α → List Value) (l : List α) : Prop :=
  RetQ P fn args W fun v w' => w'.ownsRow W.heap.size e size v l.length (l.flatMap f)

theorem at_calll {α : Type} {P : Program} {M : Nat → Prop} {w W : World} {gs : List Nat} {fn : FuncId} {args : Array Value} {e : TypeId} {size : Nat} {f : α → List Value} {l : List α} {K : Ending → World → Prop} (hA : AtF w M gs W) (hc : RetL P fn args W e size f l) (hf : ∀ x ∈ l, (f x).length = size)
    (hK : ∀ a c w', AtF w M gs w' → Keeps gs W w' → Bel W w' → OwnF w M gs w' e size f (.slice a l.length c) l → SlE w' size f l a l.length c → K (.returned (.slice a l.length c)) w') : Calls P fn args W K :=
  at_callq hA hc fun v w' hA' hk hb hq => by
    have ho : OwnF w M gs w' e size f v l := OwnF.ret hA hq rfl rfl
    obtain ⟨a, c, rfl, hs⟩ := ho.slice hf
    exact hK a c w' hA' hk hb ho hs
theorem leafl {α : Type} {w W : World} {gs : List Nat} {e : TypeId} {size : Nat} {f : α → List Value} {l l' : List α} {v : Value} {R : Ending → World → Prop} (h : ∀ v w', Bel w w' → w'.ownsRow w.heap.size e size v l.length (l.flatMap f) → R (.returned v) w') (hA : At w gs W) (ho : OwnL w gs W e size f v l') (hl : l' = l) : R (.returned v) W :=
  h v W hA.below (hl ▸ ho.row)
end Go.Vc

/- Strings: bytes to a string, a sum, a byte, a part, a range over the runes. -/
namespace Go.Vc
open Go Go.RowKit

abbrev u8e (x : Int) : List Value := [.int .u8 x]

section
variable {P : Program} {M : Nat → Prop} {w W : World} {gs : List Nat}

theorem one_cells {l : List Int} {k : IntKind} {a : Addr} {n c : Nat} (hs : SlE W 1 (fun x => [Value.int k x]) l (some a) n c) : (loadCells a n).run P W = .ok (l.map (Value.int k)).toArray W := by
  have hl : n = (l.map (Value.int k)).length := by rw [List.length_map]; exact hs.1
  rw [hl]
  refine run_loadCells_list (P := P) W a _ fun j v hv => ?_
  rw [List.getElem?_map] at hv
  cases hx : l[j]? with
  | none => rw [hx] at hv; cases hv
  | some x =>
    rw [hx] at hv
    simp only [Option.map_some, Option.some.injEq] at hv
    subst hv
    obtain ⟨ad, cs, ha, _, hcs, rfl⟩ := hs.at_ hx
    cases ha
    have := hcs 0 _ rfl
    have e : (a.add (j * 1)).add 0 = a.add j := by
      rw [Nat.mul_one]
      generalize a.add j = q
      unfold Addr.add
      simp
    rwa [e] at this

theorem strOfNums_eq (l : List Int) : l.foldl (fun r n => r.push (UInt8.ofNat n.toNat)) ByteArray.empty = strOfNums l := by
  rw [foldl_push_bytes]
  show (⟨#[] ++ _⟩ : ByteArray) = _
  simp [strOfNums]

theorem opw_b2s {src dst e : TypeId} {l : List Int} {a : Option Addr} {n c : Nat} {K : Value → World → Prop} (hs : P.underlying src = some (.slice e)) (he : P.underlying e = some (.int .u8)) (hd : P.underlying dst = some .string) (hl : SlE W 1 u8e l a n c)
    (h : K (.string (strOfNums l)) W) : OpW P (valueS (convert src dst (.slice a n c))) W K := by
  have hr : (convert src dst (.slice a n c)).run P W = .ok (.string (strOfNums l)) W := by
    rw [run_convert_bytes_string W src dst e a n c hs he hd]
    cases a with
    | none =>
      have hc := hl.2.2.2.1 rfl
      have h0 : l = [] := List.eq_nil_of_length_eq_zero (by have := hl.1; have := hl.2.1; omega)
      subst h0
      unfold Conv.bytesToString
      simp [Sem.run_pure]
      rfl
    | some ad =>
      rw [run_bytesToString W ad n c l (one_cells hl), strOfNums_eq]
  unfold OpW
  rw [run_valueS hr]
  exact h

theorem gives_sadd {t : TypeId} {x y : Operand} {a b : ByteArray} (h : a.size + b.size ≤ 9223372036854775807) : Gives P (binOpS .add t x y (.string a) (.string b)) (.string (a ++ b)) := by
  intro W
  unfold binOpS
  rw [run_bind_ok (show (eqGuard .add t x y (.string a) (.string b)).run P W = .ok () W from rfl), binOp_string_add]
  exact run_string_add_sum W a b h

theorem gives_index_str {t : TypeId} {s : ByteArray} {k : IntKind} {i : Nat} (ht : P.underlying t = some .string) (hi : i < s.size) : Gives P (Instr.index t (.string s) (.int k (i : Int))) (.int .u8 ((s[i]'hi).toNat : Int)) := by
  intro W
  have h := run_index_string W t s k i ht
  rw [h]
  simp [hi]

theorem opw_range_str {t : TypeId} {s : ByteArray} {K : Value → World → Prop} (ht : P.underlying t = some .string) (h : K (.pointer (some ⟨W.heap.size, 0, none⟩)) (W.alloc (.stringIter s 0))) : OpW P (valueS (Instr.range t (.string s))) W K := by
  have hr : (Instr.range t (.string s)).run P W = .ok (.pointer (some ⟨W.heap.size, 0, none⟩)) (W.alloc (.stringIter s 0)) := by
    unfold Instr.range
    rw [run_bind_ok (run_underlying ht W)]
    rfl
  unfold OpW
  rw [run_valueS hr]
  exact h

theorem opw_next_str {s : ByteArray} {pos r : Nat} {ty : TypeId} {K : Value → World → Prop} (hr : W.heap[r]? = some (.stringIter s pos))
    (hend : ¬ pos < s.size → K (.tuple #[.bool false]) W)
    (hgo : pos < s.size → K (.tuple #[.bool true, .int .i64 (pos : Int), .int .i32 ((Utf8.decode s pos).1 : Int)]) { W with heap := W.heap.setIfInBounds r (.stringIter s (pos + (Utf8.decode s pos).2)) }) :
    OpW P (valueS (Instr.next (.pointer (some ⟨r, 0, none⟩)) true ty)) W K := by
  have hget : (getObj r).run P W = .ok (.stringIter s pos) W := by
    simp [getObj, Sem.run, hr]
  by_cases hp : pos < s.size
  · have hrun : (Instr.next (.pointer (some ⟨r, 0, none⟩)) true ty).run P W = .ok (.tuple #[.bool true, .int .i64 (pos : Int), .int .i32 ((Utf8.decode s pos).1 : Int)]) { W with heap := W.heap.setIfInBounds r (.stringIter s (pos + (Utf8.decode s pos).2)) } := by
      unfold Instr.next
      simp only
      rw [run_bind_ok hget]
      simp only [hp, if_true]
      have hset : (setObj r (.stringIter s (pos + (Utf8.decode s pos).2))).run P W = .ok () { W with heap := W.heap.setIfInBounds r (.stringIter s (pos + (Utf8.decode s pos).2)) } := by
        simp [setObj, Sem.run, hr]
      rw [run_bind_ok hset]
      rfl
    unfold OpW
    rw [run_valueS hrun]
    exact hgo hp
  · have hrun : (Instr.next (.pointer (some ⟨r, 0, none⟩)) true ty).run P W = .ok (.tuple #[.bool false]) W := by
      unfold Instr.next
      simp only
      rw [run_bind_ok hget]
      simp only [hp, if_false]
      rfl
    unfold OpW
    rw [run_valueS hrun]
    exact hend hp

theorem chg_setObj {r : Nat} {o : Obj} : Chg (fun b => b = r) W { W with heap := W.heap.setIfInBounds r o } :=
  ⟨rfl, rfl, rfl, by simp, fun k _ hk => by
    show (W.heap.setIfInBounds r o)[k]? = _
    rw [Array.getElem?_setIfInBounds_ne (fun e => hk e.symm)], Nat.le_refl _⟩
theorem AtF.setObjF {r : Nat} {o : Obj} (hA : AtF w M gs W) (hr : w.heap.size ≤ r ∨ M r) : AtF w M gs { W with heap := W.heap.setIfInBounds r o } :=
  hA.step chg_setObj fun b _ hb => by subst hb; exact hr
theorem AtF.setObj {r : Nat} {o : Obj} (hA : AtF w M gs W) (hr : w.heap.size ≤ r) : AtF w M gs { W with heap := W.heap.setIfInBounds r o } := hA.setObjF (.inl hr)
theorem keeps_setObj {r : Nat} {o : Obj} (hr : r ∉ gs) : Keeps gs W { W with heap := W.heap.setIfInBounds r o } := fun g hg => by
  show (W.heap.setIfInBounds r o)[g]? = _
  rw [Array.getElem?_setIfInBounds_ne (fun e => hr (by rw [e]; exact hg))]

/-- The front of an own slice. -/
theorem gives_front {t e : TypeId} {size : Nat} {a : Option Addr} {n c m : Nat} {k : IntKind} (ht : P.underlying t = some (.slice e)) (hz : pureRun P (sizeOf e) = some size) (hm : m ≤ c) :
    Gives P (Instr.sliceAt t (.slice a n c) none (some (.int k (m : Int))) none) (.slice a m c) := by
  intro W
  have h1 : (Instr.sliceAt t (.slice a n c) none (some (.int k (m : Int))) none).run P W = (Instr.slice t (.slice a n c) none (some (.int k (m : Int))) none).run P W := run_sliceAt_slice W t _ _ _ _ (by simp [Program.elem, ht])
  rw [h1]
  unfold Instr.slice
  rw [run_bind_ok (run_underlying ht W)]
  simp only
  have hb : (Instr.sliceBounds true n c none (some (.int k (m : Int))) none).run P W = .ok (0, m, c) W := by
    unfold Instr.sliceBounds
    simp only [pure_bind]
    have := run_sliceBound (P := P) W k (m : Int) c .sliceAcap (by omega) (by omega)
    simp only [if_true]
    rw [run_bind_ok this]
    rfl
  rw [run_bind_ok hb]
  simp only
  rw [run_bind_ok (pureRun_run hz W)]
  simp only [Nat.zero_mul, Nat.sub_zero]
  have ha : (if c = 0 then a else Option.map (fun x => x.add 0) a) = a := by
    split
    · rfl
    · cases a with
      | none => rfl
      | some ad => simp [Addr.add]
  rw [ha]
  rfl

theorem ownsRow_front {base e size n m c : Nat} {a : Option Addr} {xs : List Value} (h : W.ownsRow base e size (.slice a n c) n xs) (hm : m ≤ n) : W.ownsRow base e size (.slice a m c) m (xs.take (m * size)) := by
  have hle : m * size ≤ n * size := Nat.mul_le_mul_right _ hm
  refine ⟨by rw [List.length_take, h.1, Nat.min_eq_left hle], ?_⟩
  rcases h.2 with ⟨hv, hn⟩ | ⟨g, cap, cur, hv, hge, hgg, hnc, hcm, hcs, htk⟩
  · subst hn
    have hm0 : m = 0 := by omega
    subst hm0
    exact .inl ⟨hv, rfl⟩
  · obtain ⟨rfl, _, rfl⟩ := Value.slice.inj hv
    exact .inr ⟨g, c, cur, rfl, hge, hgg, by omega, hcm, hcs, by rw [← htk, List.take_take, Nat.min_eq_left hle]⟩

theorem OwnF.front {α : Type} {e : TypeId} {size : Nat} {f : α → List Value} {a : Option Addr} {n c m : Nat} {l : List α} (h : OwnF w M gs W e size f (.slice a n c) l) (hf : ∀ x ∈ l, (f x).length = size) (hm : m ≤ l.length) : OwnF w M gs W e size f (.slice a m c) (l.take m) := by
  have hn := h.len
  subst hn
  have hr := ownsRow_front h.row0 hm
  have e1 : (l.flatMap f).take (m * size) = (l.take m).flatMap f := by
    have h2 : (l.take m).flatMap f ++ (l.drop m).flatMap f = l.flatMap f := by rw [← List.flatMap_append, List.take_append_drop]
    have hl : ((l.take m).flatMap f).length = m * size := by
      rw [flatMap_len (size := size) (fun x hx => hf x (List.mem_of_mem_take hx)), List.length_take, Nat.min_eq_left hm]
    rw [← h2, ← hl, List.take_left]
  refine ⟨?_, fun k hk => h.mine k (by cases a with
    | none => cases hk
    | some ad => exact hk), fun g hg => by have := h.apart g hg; cases a with
    | none => simp [Value.ownBlock]
    | some ad => simpa [Value.ownBlock] using this⟩
  rw [List.length_take, Nat.min_eq_left hm, ← e1]
  exact hr
end
end Go.Vc

/- Arrays of the function's own, behind a pointer; a string's bytes; copying. -/
namespace Go.Vc
open Go Go.RowKit

def bytesOf (s : ByteArray) : List Int := s.data.toList.map fun b => (b.toNat : Int)
theorem bytesOf_len (s : ByteArray) : (bytesOf s).length = s.size := by
  rw [bytesOf, List.length_map, Array.length_toList]
  rfl
theorem bytesOf_range {s : ByteArray} {x : Int} (h : x ∈ bytesOf s) : 0 ≤ x ∧ x < 256 := by
  obtain ⟨b, _, rfl⟩ := List.mem_map.1 h
  have := b.toBitVec.isLt
  have e : b.toNat = b.toBitVec.toNat := rfl
  omega
theorem strOfNums_bytesOf (s : ByteArray) : strOfNums (bytesOf s) = s := by
  obtain ⟨d⟩ := s
  show (⟨_⟩ : ByteArray) = ⟨_⟩
  congr 1
  have : ((fun n : Int => UInt8.ofNat n.toNat) ∘ fun b : UInt8 => (b.toNat : Int)) = id := by
    funext b
    simp
  rw [bytesOf, List.map_map, this, List.map_id]

section
variable {P : Program} {M : Nat → Prop} {w W : World} {gs : List Nat}

theorem opw_s2b {src dst e : TypeId} {s : ByteArray} {K : Value → World → Prop} (hA : AtF w M gs W) (hs : P.underlying src = some .string) (hd : P.underlying dst = some (.slice e)) (he : P.underlying e = some (.int .u8)) (hm : s.size ≤ maxLen)
    (h : ∀ a c w', AtF w M gs w' → Keeps gs W w' → Bel W w' → SlE w' 1 u8e (bytesOf s) a s.size c → K (.slice a s.size c) w') : OpW P (valueS (convert src dst (.string s))) W K := by
  have hr := run_bytes_of_string (P := P) W src dst e s hs hd he
  have hb : ∀ (C : Array Value) (fr : Nat × Nat), Bel W (W.drew.alloc (.cells C e fr)) := fun C fr => ⟨((Below.refl _ W).drew).alloc (Nat.le_refl _) _, Nat.le_succ _⟩
  unfold OpW
  rw [run_valueS hr]
  refine h _ _ _ (hA.call (hb _ _)) (hA.keeps (hb _ _)) (hb _ _) ⟨(bytesOf_len s).symm, grownCap_ge _ _ _ _, grownCap_le_maxLen _ _ _ _ hm, fun h => (by cases h), fun i x hx => ⟨_, _, rfl, rfl, fun j v hv => ?_, rfl⟩⟩
  have hi := (List.getElem?_eq_some_iff.1 hx).1
  rw [bytesOf_len] at hi
  have hj : j = 0 := by
    have := (List.getElem?_eq_some_iff.1 hv).1
    simp at this
    omega
  subst hj
  simp at hv
  subst hv
  rw [addr_add_add _ _ _ rfl, addr_add]
  have hcell := heap_alloc_new W.drew (Obj.cells (bytesRow s (grownCap W s.size 0 e)) e ((bytesRow s (grownCap W s.size 0 e)).size, (bytesRow s (grownCap W s.size 0 e)).size + 1))
  have hc := cell_at (W := W.drew.alloc (.cells (bytesRow s (grownCap W s.size 0 e)) e ((bytesRow s (grownCap W s.size 0 e)).size, (bytesRow s (grownCap W s.size 0 e)).size + 1))) (g := W.heap.size) (cells := (bytesRow s (grownCap W s.size 0 e)).toList) (by simpa using hcell) (0 + (i * 1 + 0))
  rw [hc]
  simp only [Nat.zero_add, Nat.mul_one, Nat.add_zero]
  simp only [bytesRow, Array.toList_append, Array.toList_map]
  rw [List.getElem?_append_left (by rw [List.length_map, Array.length_toList]; exact hi)]
  simp only [bytesOf, List.getElem?_map] at hx ⊢
  cases hb : s.data.toList[i]? with
  | none => rw [hb] at hx; cases hx
  | some b =>
    rw [hb] at hx
    simp only [Option.map_some, Option.some.injEq] at hx ⊢
    rw [hx]

/-- The same, with the place told. -/
theorem opw_s2bB {src dst e : TypeId} {s : ByteArray} {K : Value → World → Prop} (hA : AtF w M gs W) (hs : P.underlying src = some .string) (hd : P.underlying dst = some (.slice e)) (he : P.underlying e = some (.int .u8)) (hm : s.size ≤ maxLen)
    (h : ∀ a c w', AtF w M gs w' → Keeps gs W w' → Bel W w' → SlE w' 1 u8e (bytesOf s) a s.size c → (∀ b, a = some b → b.block = W.heap.size) → K (.slice a s.size c) w') : OpW P (valueS (convert src dst (.string s))) W K := by
  have hr := run_bytes_of_string (P := P) W src dst e s hs hd he
  have hb : ∀ (C : Array Value) (fr : Nat × Nat), Bel W (W.drew.alloc (.cells C e fr)) := fun C fr => ⟨((Below.refl _ W).drew).alloc (Nat.le_refl _) _, Nat.le_succ _⟩
  unfold OpW
  rw [run_valueS hr]
  refine h _ _ _ (hA.call (hb _ _)) (hA.keeps (hb _ _)) (hb _ _) ⟨(bytesOf_len s).symm, grownCap_ge _ _ _ _, grownCap_le_maxLen _ _ _ _ hm, fun h => (by cases h), fun i x hx => ⟨_, _, rfl, rfl, fun j v hv => ?_, rfl⟩⟩ (fun b hb => by cases hb; rfl)
  have hi := (List.getElem?_eq_some_iff.1 hx).1
  rw [bytesOf_len] at hi
  have hj : j = 0 := by
    have := (List.getElem?_eq_some_iff.1 hv).1
    simp at this
    omega
  subst hj
  simp at hv
  subst hv
  rw [addr_add_add _ _ _ rfl, addr_add]
  have hcell := heap_alloc_new W.drew (Obj.cells (bytesRow s (grownCap W s.size 0 e)) e ((bytesRow s (grownCap W s.size 0 e)).size, (bytesRow s (grownCap W s.size 0 e)).size + 1))
  have hc := cell_at (W := W.drew.alloc (.cells (bytesRow s (grownCap W s.size 0 e)) e ((bytesRow s (grownCap W s.size 0 e)).size, (bytesRow s (grownCap W s.size 0 e)).size + 1))) (g := W.heap.size) (cells := (bytesRow s (grownCap W s.size 0 e)).toList) (by simpa using hcell) (0 + (i * 1 + 0))
  rw [hc]
  simp only [Nat.zero_add, Nat.mul_one, Nat.add_zero]
  simp only [bytesRow, Array.toList_append, Array.toList_map]
  rw [List.getElem?_append_left (by rw [List.length_map, Array.length_toList]; exact hi)]
  simp only [bytesOf, List.getElem?_map] at hx ⊢
  cases hb : s.data.toList[i]? with
  | none => rw [hb] at hx; cases hx
  | some b =>
    rw [hb] at hx
    simp only [Option.map_some, Option.some.injEq] at hx ⊢
    rw [hx]

/-- An array made, all zero: told as an own slice over it. -/
theorem opw_allocArr {α : Type} {t : TypeId} {f : α → List Value} {n size : Nat} {zv : Value} {z : α} {K : Value → World → Prop} (hA : AtF w M gs W) (hz : pureRun P (zeroValue t) = some zv) (hf : zv.cells.toList = (List.replicate n z).flatMap f) (hfz : (f z).length = size) (hn : n ≤ maxLen)
    (h : ∀ w', AtF w M gs w' → Keeps gs W w' → OwnF w M gs w' t size f (.slice (some ⟨W.heap.size, 0, none⟩) n n) (List.replicate n z) → K (.pointer (some ⟨W.heap.size, 0, none⟩)) w') : OpW P (valueS (Instr.alloc t true (.tuple #[]))) W K := by
  unfold OpW
  rw [run_valueS (run_alloc hz)]
  have hl : zv.cells.size = n * size := by
    rw [← Array.length_toList, hf, flatMap_len (size := size) (fun x hx => by rw [(List.mem_replicate.1 hx).2]; exact hfz), List.length_replicate]
  refine h _ (hA.call (below_alloc _)) (hA.keeps (below_alloc _)) (OwnF.ret hA (n := n) (xs := zv.cells.toList) ⟨by rw [Array.length_toList, hl], .inr ⟨W.heap.size, n, zv.cells, rfl, Nat.le_refl _, heap_alloc_new W _, Nat.le_refl _, hn, hl, ?_⟩⟩ (by rw [List.length_replicate]) hf)
  rw [List.take_of_length_le (by rw [Array.length_toList, hl]; exact Nat.le_refl _)]

theorem gives_index_arr {t e : TypeId} {n m : Nat} {ad : Addr} {i : Nat} {k : IntKind} (ht : P.underlying t = some (.array m e)) (hs : pureRun P (sizeOf e) = some n) (hi : i < m) :
    Gives P (Instr.indexAt t (.pointer (some ad)) (.int k (i : Int))) (.pointer (some (ad.add (i * n)))) := by
  intro W
  have he : P.elem t = e := by simp [Program.elem, ht]
  have hl : P.arrayLen t = m := by simp [Program.arrayLen, ht]
  have hh := run_indexAt_array (P := P) W t ad k i (by rw [he, hl]; exact ht)
  rw [hh, if_pos (by rw [hl]; omega), he]
  have hsz := pureRun_run hs W
  simp only [Int.toNat_natCast]
  rw [hsz]
  rfl

theorem gives_slice_arr {t e : TypeId} {n m : Nat} {ad : Addr} {i : Nat} {k : IntKind} (ht : P.underlying t = some (.array m e)) (hs : pureRun P (sizeOf e) = some n) (hi : i < m) :
    Gives P (Instr.sliceAt t (.pointer (some ad)) (some (.int k (i : Int))) none none) (.slice (some (ad.add (i * n))) (m - i) (m - i)) := by
  intro W
  have he : P.elem t = e := by simp [Program.elem, ht]
  have hl : P.arrayLen t = m := by simp [Program.arrayLen, ht]
  have hh := run_sliceAt_array_l (P := P) W t ad (by rw [he, hl]; exact ht) k (i : Int) (by omega) (by rw [hl]; omega)
  rw [hh, he, pureRun_run hs W, hl]
  simp only [Result.andThen, slicedAt, Int.toNat_natCast]
  rw [if_neg (by omega)]

/-- A part of a slice's data, from a place on. -/
theorem SlR.from_ {α : Type} {n : Nat} {R : α → List Value → Prop} {l : List α} {ad : Addr} {len cap i : Nat} (h : SlR W n R l (some ad) len cap) (hsp : ad.spot = none) (hi : i ≤ len) : SlR W n R (l.drop i) (some (ad.add (i * n))) (len - i) (cap - i) := by
  refine ⟨by rw [List.length_drop, h.1], by have := h.2.1; omega, by have := h.2.2.1; omega, fun h => (by cases h), fun j x hx => ?_⟩
  rw [List.getElem?_drop] at hx
  obtain ⟨ad', cs, ha, hl, hcs, hr⟩ := h.at_ hx
  cases ha
  refine ⟨_, cs, rfl, hl, fun q v hv => ?_, hr⟩
  have := hcs q v hv
  rw [addr_add_add _ _ _ hsp, ← Nat.add_mul]
  exact this

/-- Copying as many elements as there is room for. -/
theorem opw_copy {dT sT ty e : TypeId} {fl : Array Bool} {k : IntKind} {l l2 : List Int} {a a2 : Option Addr} {n c n2 c2 : Nat} {er : TypeId} {K : Value → World → Prop} (hA : AtF w M gs W) (hu : P.underlying dT = some (.slice e)) (hsz : (P.info? e).map (·.size) = some 1)
    (ho : OwnF w M gs W er 1 (fun x => [Value.int k x]) (.slice a n c) l) (hs : SlE W 1 (fun x => [Value.int k x]) l2 a2 n2 c2) (hl : l2.length = l.length)
    (h : ∀ w', AtF w M gs w' → Keeps gs W w' → W.grownBy w' (Value.slice a n c).ownBlock → OwnF w M gs w' er 1 (fun x => [Value.int k x]) (.slice a n c) l2 → K (goInt l.length) w') : OpW P (builtin .copy #[dT, sT] ty fl #[.slice a n c, .slice a2 n2 c2]) W K := by
  have hn := ho.len
  have hn2 := hs.1
  subst hn
  subst hn2
  have hrun : ∃ w', (Builtin.copy_ #[dT, sT] ty #[.slice a l.length c, .slice a2 l2.length c2]).run P W = .ok (goInt l.length) w' ∧ AtF w M gs w' ∧ Keeps gs W w' ∧ W.grownBy w' (Value.slice a l.length c).ownBlock ∧ OwnF w M gs w' er 1 (fun x => [Value.int k x]) (.slice a l.length c) l2 := by
    rcases Nat.eq_zero_or_pos l.length with h0 | hpos
    · have e1 : l = [] := List.eq_nil_of_length_eq_zero h0
      have e2 : l2 = [] := List.eq_nil_of_length_eq_zero (by omega)
      subst e1
      subst e2
      refine ⟨W, ?_, hA, fun _ _ => rfl, ⟨rfl, rfl, rfl, Nat.le_refl _, fun _ _ _ => rfl⟩, ho⟩
      cases hq : P.info? e with
      | none => simp [hq] at hsz
      | some i =>
        cases a <;> cases a2 <;> simp [Builtin.copy_, run_underlying hu, Builtin.lenOf, Builtin.firstCells, sizeOf, typeInfo, hq, storeCells, loadCells, loadCellsFrom]
    · obtain ⟨g, cur, rfl, hge, hg, hlc, hcm, hcs, htk⟩ := ho.ptr hpos
      obtain ⟨ad2, rfl⟩ : ∃ ad2, a2 = some ad2 := by
        cases a2 with
        | some ad2 => exact ⟨ad2, rfl⟩
        | none => have := hs.2.2.2.1 rfl; have := hs.2.1; omega
      have hcells : ∀ j v, (l2.map (Value.int k))[j]? = some v → W.cell? (ad2.add j) = some v := by
        intro j v hv
        rw [List.getElem?_map] at hv
        cases hx : l2[j]? with
        | none => rw [hx] at hv; cases hv
        | some x =>
          rw [hx] at hv
          simp only [Option.map_some, Option.some.injEq] at hv
          subst hv
          obtain ⟨ad, cs, ha, _, hcs, rfl⟩ := hs.at_ hx
          cases ha
          have := hcs 0 _ rfl
          have e : (ad2.add (j * 1)).add 0 = ad2.add j := by
            rw [Nat.mul_one]
            generalize ad2.add j = q
            unfold Addr.add
            simp
          rwa [e] at this
      have hr := run_copy_row (P := P) W dT sT ty e g 0 l.length c ad2 l2.length c2 cur er (l2.map (Value.int k)) hu hsz hg (by rw [List.length_map, hl]; simp) hcells (by rw [List.length_map, hl, hcs]; omega) (by intro v hv; obtain ⟨x, _, rfl⟩ := List.mem_map.1 hv; rfl)
      rw [List.length_map, hl] at hr
      have hgr : W.grownBy (W.setRow g (cur.toList.take 0 ++ l2.map (Value.int k) ++ cur.toList.drop (0 + l.length)).toArray) (some g) := ⟨rfl, rfl, rfl, by simp, fun k _ hk => setRow_other W g k _ (fun e => hk (by rw [e]))⟩
      refine ⟨_, by rw [hl]; exact hr, (hA.step (Chg.of_grown hgr (run_drawn hr)) fun k _ hk => ho.mine k hk), fun g' hm => hgr.block g' (hA.under g' hm) fun e => ho.apart g' hm e.symm, hgr, ⟨⟨?_, .inr ⟨g, c, _, ?_, hge, setRow_heap W g cur _ er _ hg, ?_, hcm, ?_, ?_⟩⟩, ho.mine, ho.apart⟩⟩
      · rw [flatMap_len (size := 1) (fun _ _ => rfl)]
      · rw [hl]
      · rw [hl]; exact hlc
      · simp only [List.size_toArray, List.length_append, List.length_take, List.length_drop, List.length_map, Array.length_toList, hl]
        omega
      · have e1 : l2.flatMap (fun x => [Value.int k x]) = l2.map (Value.int k) := by
          clear hs hl ho hcells hr hgr h
          induction l2 with
          | nil => rfl
          | cons x l ih => rw [List.flatMap_cons, ih]; rfl
        rw [e1]
        simp only [List.take_zero, List.nil_append]
        rw [Nat.mul_one]
        have := List.take_left (l₁ := l2.map (Value.int k)) (l₂ := cur.toList.drop (0 + l.length))
        rwa [List.length_map] at this
  obtain ⟨w', hr, h1, h2, h3, h4⟩ := hrun
  have hb : (builtin .copy #[dT, sT] ty fl #[.slice a l.length c, .slice a2 l2.length c2]).run P W = .ok (.value (goInt l.length)) w' := by
    show (do pure (Next.value (← Builtin.copy_ #[dT, sT] ty #[.slice a l.length c, .slice a2 l2.length c2])) : Sem Next).run P W = _
    rw [run_bind_ok hr]
    rfl
  unfold OpW
  rw [hb]
  exact h w' h1 h2 h3 h4
end
end Go.Vc

/- Plain arithmetic: wrapping, masks, the product by quarters. -/
namespace Go.Vc
open Go

theorem wrap_i64 {x : Int} (h1 : -9223372036854775808 ≤ x) (h2 : x ≤ 9223372036854775807) : IntKind.i64.wrap x = x := by
  have e : IntKind.i64.wrap x = if x % 18446744073709551616 ≥ 9223372036854775808 then x % 18446744073709551616 - 18446744073709551616 else x % 18446744073709551616 := by
    simp [IntKind.wrap, IntKind.bits, IntKind.signed]
  rw [e]
  split <;> omega
theorem wrap_u64 (x : Int) : IntKind.u64.wrap x = x % 18446744073709551616 := by
  simp [IntKind.wrap, IntKind.bits, IntKind.signed]
theorem wrap_u64_id {x : Int} (h1 : 0 ≤ x) (h2 : x < 18446744073709551616) : IntKind.u64.wrap x = x := by
  rw [wrap_u64]; omega
theorem wrap_u8 (x : Int) : IntKind.u8.wrap x = x % 256 := by
  simp [IntKind.wrap, IntKind.bits, IntKind.signed]
theorem wrap_u16 (x : Int) : IntKind.u16.wrap x = x % 65536 := by
  simp [IntKind.wrap, IntKind.bits, IntKind.signed]
theorem wrap_u32 (x : Int) : IntKind.u32.wrap x = x % 4294967296 := by
  simp [IntKind.wrap, IntKind.bits, IntKind.signed]
theorem wrap_i32 {x : Int} (h1 : -2147483648 ≤ x) (h2 : x ≤ 2147483647) : IntKind.i32.wrap x = x := by
  have e : IntKind.i32.wrap x = if x % 4294967296 ≥ 2147483648 then x % 4294967296 - 4294967296 else x % 4294967296 := by
    simp [IntKind.wrap, IntKind.bits, IntKind.signed]
  rw [e]
  split <;> omega

theorem and_low32 {x : Int} (h1 : 0 ≤ x) (h2 : x < 18446744073709551616) : ((BitVec.ofInt 64 x &&& BitVec.ofInt 64 4294967295).toNat : Int) = x % 4294967296 := by
  obtain ⟨n, rfl⟩ := Int.eq_ofNat_of_zero_le h1
  have hn : n < 18446744073709551616 := by omega
  have e1 : (BitVec.ofInt 64 (n : Int)).toNat = n := by
    simp
    omega
  have e2 : (BitVec.ofInt 64 4294967295).toNat = 2 ^ 32 - 1 := by decide
  rw [BitVec.toNat_and, e1, e2, Nat.and_two_pow_sub_one_eq_mod]
  omega

theorem mul_lt32 {a b : Int} (ha : 0 ≤ a) (ha' : a < 4294967296) (hb : 0 ≤ b) (hb' : b < 4294967296) : 0 ≤ a * b ∧ a * b ≤ 18446744065119617025 := by
  refine ⟨Int.mul_nonneg ha hb, ?_⟩
  have h1 : a * b ≤ 4294967295 * b := Int.mul_le_mul_of_nonneg_right (by omega) hb
  have h2 : (4294967295 : Int) * b ≤ 4294967295 * 4294967295 := Int.mul_le_mul_of_nonneg_left (by omega) (by omega)
  omega

/-- A product by quarters: with high and low halves. -/
theorem quarters {a b : Int} (ha : 0 ≤ a) (ha' : a < 18446744073709551616) (hb : 0 ≤ b) (hb' : b < 18446744073709551616) :
    ∃ ah al bh bl p q r t : Int, a / 4294967296 = ah ∧ a % 4294967296 = al ∧ b / 4294967296 = bh ∧ b % 4294967296 = bl ∧ ah * bh = p ∧ ah * bl = q ∧ al * bh = r ∧ al * bl = t ∧
      (0 ≤ p ∧ p ≤ 18446744065119617025) ∧ (0 ≤ q ∧ q ≤ 18446744065119617025) ∧ (0 ≤ r ∧ r ≤ 18446744065119617025) ∧ (0 ≤ t ∧ t ≤ 18446744065119617025) ∧ a * b = p * 18446744073709551616 + (q + r) * 4294967296 + t := by
  refine ⟨_, _, _, _, _, _, _, _, rfl, rfl, rfl, rfl, rfl, rfl, rfl, rfl, mul_lt32 ?_ ?_ ?_ ?_, mul_lt32 ?_ ?_ ?_ ?_, mul_lt32 ?_ ?_ ?_ ?_, mul_lt32 ?_ ?_ ?_ ?_, ?_⟩
  all_goals first | omega | skip
  have e1 : a = a / 4294967296 * 4294967296 + a % 4294967296 := by omega
  have e2 : b = b / 4294967296 * 4294967296 + b % 4294967296 := by omega
  generalize a / 4294967296 = x at *
  generalize a % 4294967296 = y at *
  generalize b / 4294967296 = u at *
  generalize b % 4294967296 = v at *
  subst e1
  subst e2
  simp only [Int.add_mul, Int.mul_add]
  have h1 : x * 4294967296 * (u * 4294967296) = x * u * 18446744073709551616 := by
    rw [Int.mul_assoc, Int.mul_left_comm 4294967296 u, ← Int.mul_assoc, show (4294967296 : Int) * 4294967296 = 18446744073709551616 from rfl]
  have h2 : x * 4294967296 * v = x * v * 4294967296 := by rw [Int.mul_right_comm]
  have h3 : y * (u * 4294967296) = y * u * 4294967296 := by rw [Int.mul_assoc]
  rw [h1, h2, h3]
  omega

theorem fdiv_pos (x : Int) {m : Int} (h : 0 ≤ m) : x.fdiv m = x / m := Int.fdiv_eq_ediv_of_nonneg x h

theorem drop_cons {α : Type} {l : List α} {k : Nat} {x : α} (h : l[k]? = some x) : l.drop k = x :: l.drop (k + 1) := by
  obtain ⟨hk, rfl⟩ := List.getElem?_eq_some_iff.1 h
  exact List.drop_eq_getElem_cons hk
end Go.Vc

/- An element of a slice, and its parts: the places, and what is read there. -/
namespace Go.Vc
open Go Go.RowKit

/-- The cells that lie at a place. -/
def Elt (W : World) (ad : Addr) (cs : List Value) : Prop := ∀ (j : Nat) (v : Value), cs[j]? = some v → W.cell? (ad.add j) = some v

section
variable {P : Program} {W W' : World} {ad : Addr} {cs : List Value} {ds : List Nat}

theorem Elt.below (h : Elt W ad cs) (hb : Bel W W') : Elt W' ad cs := fun j v hv => cell_below hb.below _ _ (h j v hv)
theorem Elt.evo (h : Elt W ad cs) (hb : evoP ds W W') (hd : ∀ d ∈ ds, d ≠ ad.block) : Elt W' ad cs := fun j v hv => evo_cell hb (by
    intro d hdm
    have hbk : (ad.add j).block = ad.block := by unfold Addr.add; split <;> rfl
    rw [hbk]; exact hd d hdm) (h j v hv)

theorem add_block (ad : Addr) (j : Nat) : (ad.add j).block = ad.block := by unfold Addr.add; split <;> rfl
theorem add_pos (ad : Addr) {o : Nat} (h : 0 < o) : ad.add o = ⟨ad.block, ad.off + o, none⟩ := by
  unfold Addr.add
  rw [if_neg (by omega)]

theorem Elt.sub (h : Elt W ad cs) {o : Nat} (ho : 0 < o) : Elt W ⟨ad.block, ad.off + o, none⟩ (cs.drop o) := by
  intro j v hv
  rw [List.getElem?_drop] at hv
  have := h (o + j) v hv
  rw [add_pos ad (by omega)] at this
  rw [addr_add]
  rw [show ad.off + o + j = ad.off + (o + j) by omega]
  exact this

theorem Elt.one {te : TypeId} {v : Value} {r : List Value} (h : Elt W ad (v :: r)) (hagg : pureRun P (isAgg te) = some false) (hd : ∀ d ∈ ds, d ≠ ad.block) : Reads P ds (Instr.loadAt te (.pointer (some ad))) W v :=
  reads_one hagg hd (by have := h 0 v rfl; unfold Addr.add at this; simpa using this)

theorem Elt.agg {te : TypeId} (m : Nat) (h : Elt W ad cs) (hagg : pureRun P (isAgg te) = some true) (hsz : pureRun P (sizeOf te) = some m) (hm : m ≤ cs.length) (hd : ∀ d ∈ ds, d ≠ ad.block) :
    Reads P ds (Instr.loadAt te (.pointer (some ad))) W (.agg (cs.take m).toArray) :=
  reads_agg hagg (by rw [hsz, List.length_take, Nat.min_eq_left hm]) hd (fun j v hv => h j v (by
    rw [List.getElem?_take] at hv
    split at hv
    · exact hv
    · cases hv))

theorem elt_at {α : Type} {t e : TypeId} {size : Nat} {f : α → List Value} {l : List α} {a : Option Addr} {n c : Nat} {x : α} {i : Nat} {k : IntKind} (hs : SlE W size f l a n c) (hx : l[i]? = some x) (ht : P.underlying t = some (.slice e)) (hz : pureRun P (sizeOf e) = some size) :
    ∃ ad, Gives P (Instr.indexAt t (.slice a n c) (.int k (i : Int))) (.pointer (some ad)) ∧ Elt W ad (f x) ∧ ∀ b, a = some b → ad.block = b.block := by
  obtain ⟨b, cs, rfl, hl, hcs, rfl⟩ := hs.at_ hx
  have hi := (List.getElem?_eq_some_iff.1 hx).1
  have hn := hs.1
  exact ⟨b.add (i * size), gives_index ht hz (by omega), hcs, fun b' hb' => by cases hb'; exact add_block _ _⟩

/-- A call by its contract, with the world's growth told besides. -/
theorem at_callb {M : Nat → Prop} {w W : World} {gs : List Nat} {f : FuncId} {args : Array Value} {v : Value} {K : Ending → World → Prop} (hA : AtF w M gs W) (hc : Ret P f args W v) (hK : ∀ w', AtF w M gs w' → Keeps gs W w' → Bel W w' → K (.returned v) w') : Calls P f args W K :=
  hc K fun w' hb => hK w' (hA.call hb) (hA.keeps hb) hb
/-- The own boxes out of sight. -/
theorem AtF.off {M : Nat → Prop} {w W : World} {gs : List Nat} (h : AtF w M gs W) : AtF w M [] W := ⟨h.chg, fun _ h => by cases h⟩

theorem brNB {b : Bool} {A B : Prop} (h : b = false → A) (k : b = true → B) : ((!b) = true → A) ∧ ((!b) = false → B) := ⟨fun e => h (by simpa using e), fun e => k (by simpa using e)⟩

theorem addr_add0 (ad : Addr) : ad.add 0 = ad := by unfold Addr.add; simp
/-- Adding to an address, twice. -/
theorem add_add (a : Addr) (l j : Nat) : (a.add l).add j = a.add (l + j) := by
  by_cases hl : l = 0
  · subst hl
    rw [addr_add0, Nat.zero_add]
  · rw [add_pos a (Nat.pos_of_ne_zero hl), addr_add, add_pos a (by omega)]
    rw [Nat.add_assoc]

/-- The rest of a slice, from a place on. -/
theorem gives_fromX {α : Type} {t e : TypeId} {size : Nat} {Rl : α → List Value → Prop} {l : List α} {a : Option Addr} {n c i : Nat} {k : IntKind} (hs : SlR W size Rl l a n c) (hi : i ≤ n) (ht : P.underlying t = some (.slice e)) (hz : pureRun P (sizeOf e) = some size) :
    Gives P (Instr.sliceAt t (.slice a n c) (some (.int k (i : Int))) none none) (.slice (if c = i then a else a.map (·.add (i * size))) (n - i) (c - i)) ∧ ∀ W' : World, SlR W' size Rl l a n c → SlR W' size Rl (l.drop i) (if c = i then a else a.map (·.add (i * size))) (n - i) (c - i) := by
  have hnc := hs.2.1
  refine ⟨?_, ?_⟩
  · intro W
    have h1 : (Instr.sliceAt t (.slice a n c) (some (.int k (i : Int))) none none).run P W = (Instr.slice t (.slice a n c) (some (.int k (i : Int))) none none).run P W := run_sliceAt_slice W t _ _ _ _ (by simp [Program.elem, ht])
    rw [h1]
    unfold Instr.slice
    rw [run_bind_ok (run_underlying ht W)]
    simp only
    have hb : (Instr.sliceBounds true n c (some (.int k (i : Int))) none none).run P W = .ok (i, n, c) W := by
      unfold Instr.sliceBounds
      simp only [pure_bind]
      have := run_sliceBound (P := P) W k (i : Int) n .sliceB (by omega) (by omega)
      simp only [Option.isSome_none, Bool.false_eq_true, if_false]
      rw [run_bind_ok this]
      rfl
    rw [run_bind_ok hb]
    simp only
    rw [run_bind_ok (pureRun_run hz W)]
    rfl
  · intro W' hs
    obtain ⟨h1, h2, h3, h4, h5⟩ := hs
    refine ⟨by rw [List.length_drop, h1], by omega, by omega, fun h => ?_, fun j x hx => ?_⟩
    · split at h
      · omega
      · cases a with
        | none => have := h4 rfl; omega
        | some ad => cases h
    · rw [List.getElem?_drop] at hx
      obtain ⟨ad', cs, ha, hl, hcs, hr⟩ := h5 _ x hx
      have hlt := (List.getElem?_eq_some_iff.1 hx).1
      subst ha
      refine ⟨ad'.add (i * size), cs, by rw [if_neg (by omega)]; rfl, hl, fun q v hv => ?_, hr⟩
      have := hcs q v hv
      rw [add_add] at this ⊢
      rw [add_add, ← Nat.add_assoc, ← Nat.add_mul]
      exact this
theorem gives_from {α : Type} {t e : TypeId} {size : Nat} {Rl : α → List Value → Prop} {l : List α} {a : Option Addr} {n c i : Nat} {k : IntKind} (hs : SlR W size Rl l a n c) (hi : i ≤ n) (ht : P.underlying t = some (.slice e)) (hz : pureRun P (sizeOf e) = some size) :
    ∃ a', Gives P (Instr.sliceAt t (.slice a n c) (some (.int k (i : Int))) none none) (.slice a' (n - i) (c - i)) ∧ ∀ W' : World, SlR W' size Rl l a n c → SlR W' size Rl (l.drop i) a' (n - i) (c - i) := ⟨_, gives_fromX hs hi ht hz⟩

theorem go_below0_too {M : Nat → Prop} {w W : World} {gs : List Nat} {F : World → Prop} (hA : AtF w M gs W) (h : ∀ W', AtF w M gs W' → Bel W W' → F W') : ∀ W', Bel W W' → F W' := fun W' hb => h W' (hA.call hb) hb

theorem Elt.lt {v : Value} {r : List Value} (h : Elt W ad (v :: r)) : ad.block < W.heap.size := by
  have := World.block_lt_of_cell? W _ (h 0 v rfl)
  rwa [add_block] at this
theorem Elt.far {v : Value} {r : List Value} (h : Elt W ad (v :: r)) (hd : ∀ d ∈ ds, W.heap.size ≤ d) : ∀ d ∈ ds, d ≠ ad.block := fun d hdm he => by
  have := h.lt
  have := hd d hdm
  omega

theorem AtF.sub {M : Nat → Prop} {w W : World} {gs gs' : List Nat} (h : AtF w M gs W) (hs : ∀ g ∈ gs', g ∈ gs) : AtF w M gs' W := ⟨h.chg, fun g hg => h.under g (hs g hg)⟩

theorem SlR.chg {α : Type} {n : Nat} {Rl : α → List Value → Prop} {l : List α} {a : Option Addr} {len cap : Nat} {N : Nat → Prop} (h : SlR W n Rl l a len cap) (hc : Chg N W W') (hn : ∀ b, a = some b → ¬ N b.block) : SlR W' n Rl l a len cap := by
  obtain ⟨h1, h2, h3, h4, h5⟩ := h
  refine ⟨h1, h2, h3, h4, fun i x hx => ?_⟩
  obtain ⟨ad, cs, ha, hl, hcs, hr⟩ := h5 i x hx
  refine ⟨ad, cs, ha, hl, fun j v hv => ?_, hr⟩
  have hc0 := hcs j v hv
  have hlt := World.block_lt_of_cell? W _ hc0
  have hbk : ((ad.add (i * n)).add j).block = ad.block := by rw [add_block, add_block]
  rw [World.cell?_of_block (hc.block _ hlt (by rw [hbk]; exact hn ad ha)), hc0]

theorem no_ds {ad : Addr} : ∀ d ∈ ([] : List Nat), d ≠ ad.block := fun _ h => by cases h
end
end Go.Vc

/- 'append(l, x)': a row of one element made, and added to an own slice. -/
namespace Go.Vc
open Go Go.RowKit

theorem grown_trans_below {W W' W'' : World} {row : Option Nat} (h : Bel W W') (k : W'.grownBy W'' row) : W.grownBy W'' row :=
  ⟨k.os.trans h.below.os, k.tape.trans h.below.tape, k.output.trans h.below.output, Nat.le_trans h.size k.size, fun b hb hne => (k.block b (Nat.lt_of_lt_of_le hb h.size) hne).trans (h.block hb)⟩

section
variable {α : Type} {P : Program} {M : Nat → Prop} {w W : World} {gs : List Nat} {e e' : TypeId} {size : Nat} {f : α → List Value} {a : Option Addr} {n c : Nat} {l : List α} {t ty : TypeId} {fl : Array Bool} {bytes : Nat} {parts : Array (Nat × Value)} {x : α}

theorem opw_push (hA : AtF w M gs W) (ho : OwnF w M gs W e size f (.slice a n c) l) (x : α) (he : elemB P t e size bytes = true) (hc : sliceCells P t 1 parts = some (e', f x)) (hl : (f x).length = size) (hf : ∀ y ∈ l ++ [x], (f y).length = size)
    (h1 : ∀ u ∈ f x, u.oneCell' = true) (h63 : l.length + 1 ≤ 1099511627776) (hby : bytes ≤ 128) {K : Option Addr → Nat → Nat → World → Prop}
    (h : ∀ a' c' w2, AtF w M gs w2 → OwnF w M gs w2 e size f (.slice a' (l ++ [x]).length c') (l ++ [x]) → W.grownBy w2 (Value.slice a n c).ownBlock → ((Value.slice a' (l ++ [x]).length c').ownBlock = (Value.slice a n c).ownBlock ∨ ∀ k, (Value.slice a' (l ++ [x]).length c').ownBlock = some k → W.heap.size ≤ k) → K a' (l ++ [x]).length c' w2) :
    OpW P (valueS (Instr.buildSlice t 1 parts)) W fun v w1 => ∃ a1 n1 c1, v = .slice a1 n1 c1 ∧ Keeps gs W w1 ∧ OpW P (builtin .append #[t, t] ty fl #[.slice a n c, .slice a1 n1 c1]) w1 fun v w2 => ∃ a2 n2 c2, v = .slice a2 n2 c2 ∧ Keeps gs w1 w2 ∧ K a2 n2 c2 w2 := by
  refine opw_lit hA hc fun w' hA hk hb hcell _ => ⟨_, _, _, rfl, hk, ?_⟩
  refine opw_append1 (bytes := bytes) he hA (ho.call hb) (x := x) hl hcell h1 (by omega) (.inr (by
    have := Nat.mul_le_mul (show l.length + 1 ≤ 1099511627776 by omega) hby
    omega)) fun v' w2 hA hk2 hg ho' hnew => ?_
  obtain ⟨a2, c2, rfl, _⟩ := ho'.slice hf
  refine ⟨_, _, _, rfl, hk2, h _ _ _ hA ho' (grown_trans_below hb hg) (hnew.imp id fun hh k hk => Nat.le_trans hb.size (hh k hk))⟩

theorem opw_push0 (hA : AtF w M gs W) (ho : OwnF w M gs W e size f (.slice a n c) l) (x : α) (he : elemB P t e size bytes = true) (hc : sliceCells P t 1 parts = some (e', f x)) (hl : (f x).length = size) (hf : ∀ y ∈ l ++ [x], (f y).length = size)
    (h1 : ∀ u ∈ f x, u.oneCell' = true) (h63 : l.length + 1 ≤ 1099511627776) (hby : bytes ≤ 128) {K : Option Addr → Nat → Nat → World → Prop}
    (h : ∀ a' c' w2, AtF w M gs w2 → OwnF w M gs w2 e size f (.slice a' (l ++ [x]).length c') (l ++ [x]) → W.grownBy w2 (Value.slice a n c).ownBlock → ((Value.slice a' (l ++ [x]).length c').ownBlock = (Value.slice a n c).ownBlock ∨ ∀ k, (Value.slice a' (l ++ [x]).length c').ownBlock = some k → W.heap.size ≤ k) → K a' (l ++ [x]).length c' w2) :
    OpW P (valueS (Instr.buildSlice t 1 parts)) W fun v w1 => ∃ a1 n1 c1, v = .slice a1 n1 c1 ∧ OpW P (builtin .append #[t, t] ty fl #[.slice a n c, .slice a1 n1 c1]) w1 fun v w2 => ∃ a2 n2 c2, v = .slice a2 n2 c2 ∧ K a2 n2 c2 w2 := by
  refine opw_lit hA hc fun w' hA hk hb hcell _ => ⟨_, _, _, rfl, ?_⟩
  refine opw_append1 (bytes := bytes) he hA (ho.call hb) (x := x) hl hcell h1 (by omega) (.inr (by
    have := Nat.mul_le_mul (show l.length + 1 ≤ 1099511627776 by omega) hby
    omega)) fun v' w2 hA hk2 hg ho' hnew => ?_
  obtain ⟨a2, c2, rfl, _⟩ := ho'.slice hf
  exact ⟨_, _, _, rfl, h _ _ _ hA ho' (grown_trans_below hb hg) (hnew.imp id fun hh k hk => Nat.le_trans hb.size (hh k hk))⟩
end

/-- A contract that returns a new slice and a bool. -/
def RetLB {α : Type} (P : Program) (fn : FuncId) (args : Array Value) (W : World) (e : TypeId) (size : Nat) (f : α → List Value) (l : List α) (ok : Bool) : Prop :=
  RetQ P fn args W fun v w' => ∃ s, v = .tuple #[s, .bool ok] ∧ w'.ownsRow W.heap.size e size s l.length (l.flatMap f)
theorem at_calllb {α : Type} {P : Program} {M : Nat → Prop} {w W : World} {gs : List Nat} {fn : FuncId} {args : Array Value} {e : TypeId} {size : Nat} {f : α → List Value} {l : List α} {ok : Bool} {K : Ending → World → Prop} (hA : AtF w M gs W) (hc : RetLB P fn args W e size f l ok) (hf : ∀ x ∈ l, (f x).length = size)
    (hK : ∀ a c w', AtF w M gs w' → Keeps gs W w' → Bel W w' → OwnF w M gs w' e size f (.slice a l.length c) l → SlE w' size f l a l.length c → K (.returned (.tuple #[.slice a l.length c, .bool ok])) w') : Calls P fn args W K :=
  at_callq hA hc fun v w' hA' hk hb ⟨s, hv, hq⟩ => by
    have ho : OwnF w M gs w' e size f s l := OwnF.ret hA hq rfl rfl
    obtain ⟨a, c, rfl, hs⟩ := ho.slice hf
    subst hv
    exact hK a c w' hA' hk hb ho hs
theorem leaflb {α : Type} {w W : World} {gs : List Nat} {e : TypeId} {size : Nat} {f : α → List Value} {l l' : List α} {v : Value} {ok ok' : Bool} {R : Ending → World → Prop} (h : ∀ v w', Bel w w' → (∃ s, v = .tuple #[s, .bool ok] ∧ w'.ownsRow w.heap.size e size s l.length (l.flatMap f)) → R (.returned v) w') (hA : At w gs W) (ho : OwnL w gs W e size f v l') (hl : l' = l) (hk : ok' = ok) : R (.returned (.tuple #[v, .bool ok'])) W :=
  h _ _ hA.below ⟨v, by rw [hk], hl ▸ ho.row⟩

/-- What is made leaves every old block as it was. -/
theorem opw_alloc_below {P : Program} {t : TypeId} {zv : Value} {W : World} {K : Value → World → Prop} (hz : pureRun P (zeroValue t) = some zv) (h : OpW P (valueS (Instr.alloc t true (.tuple #[]))) W fun v w' => Bel W w' → K v w') :
    OpW P (valueS (Instr.alloc t true (.tuple #[]))) W K := by
  unfold OpW at h ⊢
  rw [run_valueS (run_alloc hz)] at h ⊢
  exact h (below_alloc _)

/-- A slice written out, as an own slice. -/
theorem opw_litL {α : Type} {P : Program} {M : Nat → Prop} {w W : World} {gs : List Nat} {t e' : TypeId} {len size : Nat} {parts : Array (Nat × Value)} {f : α → List Value} {l : List α} {K : Value → World → Prop} (hA : AtF w M gs W) (hl : len = l.length) (hsz : ∀ x ∈ l, (f x).length = size) (hm : len ≤ maxLen) (hc : sliceCells P t len parts = some (e', l.flatMap f))
    (h : ∀ g w', W.heap.size ≤ g → AtF w M gs w' → Keeps gs W w' → Bel W w' → OwnF w M gs w' e' size f (.slice (some ⟨g, 0, none⟩) len len) l → K (.slice (some ⟨g, 0, none⟩) len len) w') : OpW P (valueS (Instr.buildSlice t len parts)) W K := by
  refine opw_lit hA hc fun w' hA' hk hb _ hh => h _ w' (Nat.le_refl _) hA' hk hb (OwnF.ret (n := len) (xs := l.flatMap f) hA ?_ hl rfl)
  have hlf := flatMap_len hsz
  exact ⟨by rw [hlf, hl], .inr ⟨W.heap.size, len, _, rfl, Nat.le_refl _, hh, Nat.le_refl _, hm, by simp [hl, hlf], by rw [List.toList_toArray]; exact List.take_of_length_le (by rw [hlf, hl]; exact Nat.le_refl _)⟩⟩
end Go.Vc

/- Maps of the function's own: entries in the order in which they came; looking up, putting in, taking out. -/
namespace Go.Vc
open Go Go.RowKit

section
variable {κ α : Type} [DecidableEq κ]

def mget (k : κ) : List (κ × α) → Option α
  | [] => none
  | x :: r => if k = x.1 then some x.2 else mget k r
def mset (k : κ) (v : α) : List (κ × α) → List (κ × α)
  | [] => [(k, v)]
  | x :: r => if k = x.1 then (k, v) :: r else x :: mset k v r
def mdel (k : κ) : List (κ × α) → List (κ × α)
  | [] => []
  | x :: r => if k = x.1 then r else x :: mdel k r
/-- The first place of a key. -/
def midx (k : κ) : List (κ × α) → Option Nat
  | [] => none
  | x :: r => if k = x.1 then some 0 else (midx k r).map (· + 1)

theorem midx_lt {k : κ} : ∀ {m : List (κ × α)} {i : Nat}, midx k m = some i → i < m.length
  | [], i, h => by cases h
  | x :: r, i, h => by
    unfold midx at h
    split at h
    · cases h; simp
    · cases hr : midx k r with
      | none => rw [hr] at h; cases h
      | some j =>
        rw [hr] at h
        cases h
        have := midx_lt hr
        simp; omega
theorem mget_idx {k : κ} : ∀ {m : List (κ × α)}, mget k m = (midx k m).bind fun i => (m[i]?).map (·.2)
  | [] => rfl
  | x :: r => by
    unfold mget midx
    split
    · simp
    · rw [mget_idx (m := r)]
      cases midx k r <;> simp

/-! ### The plain laws -/
theorem mget_mset_self (k : κ) (v : α) : ∀ m : List (κ × α), mget k (mset k v m) = some v
  | [] => by simp [mset, mget]
  | x :: r => by
    unfold mset
    split
    · simp [mget]
    · rename_i h
      simp only [mget, if_neg h]
      exact mget_mset_self k v r
theorem mget_mset_ne {k j : κ} (v : α) (h : j ≠ k) : ∀ m : List (κ × α), mget j (mset k v m) = mget j m
  | [] => by simp [mset, mget, h]
  | x :: r => by
    unfold mset
    split
    · rename_i he
      have : ¬ j = x.1 := fun e => h (e.trans he.symm)
      simp [mget, h, this]
    · simp only [mget]
      rw [mget_mset_ne v h r]
theorem mget_mdel_ne {k j : κ} (h : j ≠ k) : ∀ m : List (κ × α), mget j (mdel k m) = mget j m
  | [] => rfl
  | x :: r => by
    unfold mdel
    split
    · rename_i he
      have : ¬ j = x.1 := fun e => h (e.trans he.symm)
      simp [mget, this]
    · simp only [mget]
      rw [mget_mdel_ne h r]
theorem mem_of_mget {k : κ} {v : α} : ∀ {m : List (κ × α)}, mget k m = some v → (k, v) ∈ m
  | [], h => by cases h
  | x :: r, h => by
    unfold mget at h
    split at h
    · rename_i he
      cases h
      rw [he]
      exact List.mem_cons_self ..
    · exact List.mem_cons_of_mem _ (mem_of_mget h)
theorem mget_none {k : κ} : ∀ {m : List (κ × α)}, mget k m = none ↔ k ∉ m.map (·.1)
  | [] => by simp [mget]
  | x :: r => by
    unfold mget
    split
    · rename_i he; simp [he]
    · rename_i he
      rw [mget_none (m := r)]
      simp [he]
theorem mget_of_mem {k : κ} {v : α} : ∀ {m : List (κ × α)}, (m.map (·.1)).Nodup → (k, v) ∈ m → mget k m = some v
  | [], _, h => by cases h
  | x :: r, hn, h => by
    rw [List.map_cons, List.nodup_cons] at hn
    unfold mget
    rcases List.mem_cons.1 h with rfl | h
    · simp
    · rw [if_neg (fun he => hn.1 (by rw [← he]; exact List.mem_map.2 ⟨_, h, rfl⟩))]
      exact mget_of_mem hn.2 h
theorem mset_keys {k : κ} {v : α} : ∀ {m : List (κ × α)}, (mset k v m).map (·.1) = if k ∈ m.map (·.1) then m.map (·.1) else m.map (·.1) ++ [k]
  | [] => by simp [mset]
  | x :: r => by
    unfold mset
    split
    · rename_i he; simp [he]
    · rename_i he
      rw [List.map_cons, mset_keys (m := r)]
      by_cases h : k ∈ r.map (·.1)
      · simp only [h, if_true]
        rw [if_pos (by simp only [List.map_cons, List.mem_cons]; exact .inr h)]
        rfl
      · simp only [h, if_false]
        rw [if_neg (by simp only [List.map_cons, List.mem_cons]; exact fun hh => hh.elim he h)]
        rfl
theorem mdel_keys {k : κ} : ∀ {m : List (κ × α)}, (mdel k m).map (·.1) = (m.map (·.1)).erase k
  | [] => rfl
  | x :: r => by
    unfold mdel
    split
    · rename_i he; simp [he]
    · rename_i he
      rw [List.map_cons, mdel_keys (m := r), List.map_cons, List.erase_cons_tail (by simpa using fun e => he e.symm)]
theorem mset_nodup {k : κ} {v : α} {m : List (κ × α)} (h : (m.map (·.1)).Nodup) : ((mset k v m).map (·.1)).Nodup := by
  rw [mset_keys]
  split
  · exact h
  · rename_i hk
    exact List.nodup_append.2 ⟨h, by simp, fun a ha b hb => by simp at hb; rintro rfl; exact hk (hb ▸ ha)⟩
theorem mdel_nodup {k : κ} {m : List (κ × α)} (h : (m.map (·.1)).Nodup) : ((mdel k m).map (·.1)).Nodup := by
  rw [mdel_keys]
  exact h.erase k
theorem mget_mdel_self {k : κ} {m : List (κ × α)} (h : (m.map (·.1)).Nodup) : mget k (mdel k m) = none := by
  rw [mget_none, mdel_keys]
  exact h.not_mem_erase
theorem mset_length {k : κ} {v : α} : ∀ {m : List (κ × α)}, (mset k v m).length = if (mget k m).isSome then m.length else m.length + 1
  | [] => rfl
  | x :: r => by
    unfold mset mget
    split
    · simp
    · simp only [List.length_cons]
      rw [mset_length (m := r)]
      split <;> rfl
theorem mdel_length {k : κ} : ∀ {m : List (κ × α)}, (mdel k m).length = if (mget k m).isSome then m.length - 1 else m.length
  | [] => rfl
  | x :: r => by
    unfold mdel mget
    split
    · simp
    · simp only [List.length_cons]
      rw [mdel_length (m := r)]
      split
      · rename_i h
        obtain ⟨v, hv⟩ := Option.isSome_iff_exists.1 h
        have := List.length_pos_of_mem (mem_of_mget hv)
        omega
      · rfl
end

/-- What a look-up leaves. -/
def lookV2 {α : Type} (vf : α → Value) (z : Value) : Option α → Value
  | some v => .tuple #[vf v, .bool true]
  | none => .tuple #[z, .bool false]
def lookV1 {α : Type} (vf : α → Value) (z : Value) : Option α → Value
  | some v => vf v
  | none => z
/-! ### Keys -/
structure KeyOk {κ : Type} [DecidableEq κ] (P : Program) (kt : TypeId) (kf : κ → Value) : Prop where
  eq : ∀ k k', eqB P 30 kt (kf k) (kf k') = some (decide (k = k'))
  now : ∀ d, P.underlying kt = some d → ∀ k k' b, Instr.sameNow d (kf k) (kf k') = some b → b = decide (k = k')
  chk : ∀ e k W, (Instr.checkKey e 10000 kt (kf k)).run P W = .ok () W
  bits : ∀ k, Instr.sameBits 10000 (kf k) (kf k) = true
  und : ∃ d, P.underlying kt = some d

section
variable {κ α : Type} {P : Program} {kt : TypeId} {kf : κ → Value} {vf : α → Value}

/-- Entries stand for a list. -/
def EntR (kf : κ → Value) (vf : α → Value) (es : List MapEntry) (m : List (κ × α)) : Prop := es.map (fun e => (e.key, e.val)) = m.map fun x => (kf x.1, vf x.2)

theorem EntR.cons {e : MapEntry} {es : List MapEntry} {x : κ × α} {m : List (κ × α)} (h : EntR kf vf (e :: es) (x :: m)) : e.key = kf x.1 ∧ e.val = vf x.2 ∧ EntR kf vf es m := by
  unfold EntR at h
  simp only [List.map_cons, List.cons.injEq, Prod.mk.injEq] at h
  exact ⟨h.1.1, h.1.2, h.2⟩

theorem findNow_spec [DecidableEq κ] (K : KeyOk P kt kf) {d : TypeDesc} (hd : P.underlying kt = some d) (k : κ) : ∀ (es : List MapEntry) (m : List (κ × α)) (i : Nat) (r : Option (Nat × Value)), EntR kf vf es m → Instr.findNow d (kf k) es i = some r →
    r = (midx k m).bind fun j => (m[j]?).map fun x => (i + j, vf x.2)
  | [], m, i, r, h, hf => by
    have : m = [] := by cases m with
      | nil => rfl
      | cons x m => simp [EntR] at h
    subst this
    simp only [Instr.findNow, Option.some.injEq] at hf
    subst hf
    rfl
  | e :: es, [], i, r, h, hf => by simp [EntR] at h
  | e :: es, x :: m, i, r, h, hf => by
    obtain ⟨h1, h2, h3⟩ := h.cons
    unfold Instr.findNow at hf
    rw [h1] at hf
    cases hs : Instr.sameNow d (kf k) (kf x.1) with
    | none => rw [hs] at hf; cases hf
    | some b =>
      have hb := K.now d hd _ _ _ hs
      rw [hs] at hf
      cases b with
      | true =>
        simp only [Option.some.injEq] at hf
        have he : k = x.1 := by simpa using hb.symm
        subst hf
        simp [midx, he, h2]
      | false =>
        have he : ¬ k = x.1 := by simpa using hb.symm
        have := findNow_spec K hd k es m (i + 1) r h3 hf
        rw [this]
        simp only [midx, if_neg he]
        cases midx k m with
        | none => rfl
        | some j => simp; congr 1; funext y; congr 1; omega

theorem findAsking_run [DecidableEq κ] (K : KeyOk P kt kf) (k : κ) (W : World) : ∀ (es : List MapEntry) (m : List (κ × α)) (i : Nat), EntR kf vf es m →
    (Instr.findAsking kt (kf k) es i).run P W = .ok ((midx k m).bind fun j => (m[j]?).map fun x => (i + j, vf x.2)) W
  | [], m, i, h => by
    have : m = [] := by cases m with
      | nil => rfl
      | cons x m => simp [EntR] at h
    subst this
    rfl
  | e :: es, [], i, h => by simp [EntR] at h
  | e :: es, x :: m, i, h => by
    obtain ⟨h1, h2, h3⟩ := h.cons
    unfold Instr.findAsking
    rw [h1]
    have he : (Op.equal kt (kf k) (kf x.1)).run P W = .ok (decide (k = x.1)) W := eqB_run W 30 10000 kt _ _ _ (K.eq k x.1) (by omega)
    rw [run_bind_ok he]
    by_cases hk : k = x.1
    · simp [hk, midx, h2]
    · simp only [decide_eq_false hk, Bool.false_eq_true, if_false]
      rw [findAsking_run K k W es m (i + 1) h3]
      simp only [midx, if_neg hk]
      cases midx k m with
      | none => rfl
      | some j => simp; congr 1; funext y; congr 1; omega

theorem findKey_run [DecidableEq κ] (K : KeyOk P kt kf) (k : κ) (W : World) {es : List MapEntry} {m : List (κ × α)} (h : EntR kf vf es m) :
    (Instr.findKey kt (kf k) es).run P W = .ok ((midx k m).bind fun j => (m[j]?).map fun x => (j, vf x.2)) W := by
  obtain ⟨d, hd⟩ := K.und
  unfold Instr.findKey
  rw [run_bind_ok (run_underlying hd W)]
  cases hf : Instr.findNow d (kf k) es 0 with
  | some r =>
    have := findNow_spec K hd k es m 0 r h hf
    simp only [Nat.zero_add] at this
    rw [this]
    rfl
  | none =>
    have := findAsking_run K k W es m 0 h
    simp only [Nat.zero_add] at this
    exact this

/-- An own map. -/
structure OwnM (w : World) (M : Nat → Prop) (gs : List Nat) (W : World) (r : Nat) (kf : κ → Value) (vf : α → Value) (m : List (κ × α)) : Prop where
  mine : w.heap.size ≤ r ∨ M r
  apart : r ∉ gs
  obj : ∃ es clock, W.heap[r]? = some (.map es clock) ∧ EntR kf vf es.toList m ∧ (es.toList.map (·.born)).Nodup ∧ ∀ e ∈ es.toList, e.born < clock

variable {w W W' : World} {M N : Nat → Prop} {gs gs' : List Nat} {r : Nat} {m : List (κ × α)}

theorem OwnM.lt (h : OwnM w M gs W r kf vf m) : r < W.heap.size := by
  obtain ⟨es, clock, hr, _⟩ := h.obj
  exact (Array.getElem?_eq_some_iff.1 hr).1
theorem OwnM.chg (h : OwnM w M gs W r kf vf m) (hc : Chg N W W') (hn : ¬ N r) : OwnM w M gs W' r kf vf m := by
  have hl := h.lt
  obtain ⟨es, clock, hr, rest⟩ := h.obj
  exact ⟨h.mine, h.apart, es, clock, by rw [hc.block r hl hn, hr], rest⟩
theorem OwnM.base1 {w' : World} {M' : Nat → Prop} (h : OwnM w M gs W r kf vf m) (hm : w'.heap.size ≤ r ∨ M' r) (ha : r ∉ gs') : OwnM w' M' gs' W r kf vf m := ⟨hm, ha, h.obj⟩
theorem OwnM.base0 {w' : World} (h : OwnM w M gs W r kf vf m) (hm : w'.heap.size ≤ r) : OwnM w' noB [] W r kf vf m := ⟨.inl hm, by simp, h.obj⟩
theorem OwnM.call (h : OwnM w M gs W r kf vf m) (hb : Bel W W') : OwnM w M gs W' r kf vf m := h.chg (N := noB) (Chg.of_below hb) id
theorem OwnM.more (h : OwnM w M gs W r kf vf m) (hg : ∀ g ∈ gs', g ∉ gs → W.heap.size ≤ g) : OwnM w M gs' W r kf vf m :=
  ⟨h.mine, fun hr => by
    by_cases hk : r ∈ gs
    · exact h.apart hk
    · have := hg r hr hk
      have := h.lt
      omega, h.obj⟩
theorem OwnM.evo {ds : List Nat} (h : OwnM w M gs W r kf vf m) (hd : ∀ d ∈ ds, d ∉ gs → W.heap.size ≤ d) (hb : Evo ds W W') : OwnM w M gs W' r kf vf m :=
  h.chg (Chg.of_evo hb) fun hm => by
    by_cases hk : r ∈ gs
    · exact h.apart hk
    · have := hd r hm hk
      have := h.lt
      omega

theorem opw_makeMap {t : TypeId} {K : Value → World → Prop} (hA : AtF w M gs W) (h : ∀ g w', W.heap.size = g → AtF w M gs w' → Keeps gs W w' → Bel W w' → OwnM w M gs w' g kf vf ([] : List (κ × α)) → K (.map (some g)) w') : OpW P (valueS (Instr.makeMap t none)) W K := by
  unfold OpW
  rw [run_valueS (run_makeMap t W)]
  refine h _ _ rfl (hA.call (below_alloc _)) (hA.keeps (below_alloc _)) (below_alloc _) ⟨.inl hA.size, fun hm => ?_, #[], 0, heap_alloc_new W _, rfl, by simp, fun e he => by simp at he⟩
  have := hA.under _ hm
  omega

theorem run_getObj_m {es : Array MapEntry} {clock : Nat} (h : W.heap[r]? = some (.map es clock)) : (getObj r).run P W = .ok (.map es clock) W := by
  simp [getObj, Sem.run, h]
theorem run_setObj_m {es : Array MapEntry} {clock : Nat} (h : W.heap[r]? = some (.map es clock)) (o : Obj) : (setObj r o).run P W = .ok () { W with heap := W.heap.setIfInBounds r o } := by
  simp [setObj, Sem.run, h]

theorem run_lookup_m [DecidableEq κ] {t et : TypeId} {z : Value} (K : KeyOk P kt kf) (ht : P.underlying t = some (.map kt et)) (hz : pureRun P (zeroValue et) = some z) (h : OwnM w M gs W r kf vf m) (k : κ) (ok : Bool) :
    (Instr.lookup t (.map (some r)) (kf k) ok).run P W = .ok (match mget k m with
      | some v => cond ok (.tuple #[vf v, .bool true]) (vf v)
      | none => cond ok (.tuple #[z, .bool false]) z) W := by
  obtain ⟨es, clock, hr, he, _⟩ := h.obj
  unfold Instr.lookup
  rw [run_bind_ok (run_underlying ht W)]
  simp only
  rw [run_bind_ok (run_getObj_m hr)]
  simp only [pure_bind]
  rw [run_bind_ok (K.chk es.isEmpty k W), run_bind_ok (findKey_run K k W he), mget_idx]
  cases hm : midx k m with
  | none =>
    simp only [Option.bind_none]
    rw [run_bind_ok (pureRun_run hz W)]
    cases ok <;> rfl
  | some j =>
    have hj := midx_lt hm
    have hjj : m[j]? = some m[j] := List.getElem?_eq_getElem hj
    simp only [Option.bind_some, hjj, Option.map_some]
    cases ok <;> rfl

/-- Looking up, with a flag. -/
theorem reads_lookup2 [DecidableEq κ] {t et : TypeId} {z : Value} (K : KeyOk P kt kf) (ht : P.underlying t = some (.map kt et)) (hz : pureRun P (zeroValue et) = some z) (h : OwnM w M gs W r kf vf m) (k : κ) {ds : List Nat} (hd : ∀ d ∈ ds, d ≠ r) :
    Reads P ds (Instr.lookup t (.map (some r)) (kf k) true) W (lookV2 vf z (mget k m)) := by
  intro W' hW'
  have h' : OwnM w M gs W' r kf vf m := by
    have hb : W'.heap[r]? = W.heap[r]? := by
      cases ds with
      | nil => exact Bel.block hW' h.lt
      | cons d s => exact Evo.block hW' _ h.lt (fun hm => hd _ hm rfl)
    obtain ⟨es, clock, hr, rest⟩ := h.obj
    exact ⟨h.mine, h.apart, es, clock, by rw [hb, hr], rest⟩
  rw [run_lookup_m K ht hz h' k true]
  cases mget k m <;> rfl
theorem reads_lookup1 [DecidableEq κ] {t et : TypeId} {z : Value} (K : KeyOk P kt kf) (ht : P.underlying t = some (.map kt et)) (hz : pureRun P (zeroValue et) = some z) (h : OwnM w M gs W r kf vf m) (k : κ) {ds : List Nat} (hd : ∀ d ∈ ds, d ≠ r) :
    Reads P ds (Instr.lookup t (.map (some r)) (kf k) false) W (lookV1 vf z (mget k m)) := by
  intro W' hW'
  have h' : OwnM w M gs W' r kf vf m := by
    have hb : W'.heap[r]? = W.heap[r]? := by
      cases ds with
      | nil => exact Bel.block hW' h.lt
      | cons d s => exact Evo.block hW' _ h.lt (fun hm => hd _ hm rfl)
    obtain ⟨es, clock, hr, rest⟩ := h.obj
    exact ⟨h.mine, h.apart, es, clock, by rw [hb, hr], rest⟩
  rw [run_lookup_m K ht hz h' k false]
  cases mget k m <;> rfl

theorem EntR.len {es : List MapEntry} (h : EntR kf vf es m) : es.length = m.length := by
  have := congrArg List.length h
  simpa using this
theorem EntR.at_ : ∀ {es : List MapEntry} {m : List (κ × α)} {i : Nat} {x : κ × α}, EntR kf vf es m → m[i]? = some x → ∃ e, es[i]? = some e ∧ e.key = kf x.1 ∧ e.val = vf x.2
  | es, m, i, x, h, hx => by
    have := congrArg (·[i]?) h
    simp only [List.getElem?_map, hx, Option.map_some] at this
    cases he : es[i]? with
    | none => rw [he] at this; cases this
    | some e =>
      rw [he] at this
      simp at this
      exact ⟨e, rfl, this.1, this.2⟩

theorem mset_at [DecidableEq κ] {k : κ} {v : α} : ∀ {m : List (κ × α)} {j : Nat}, midx k m = some j → mset k v m = m.set j (k, v)
  | [], j, h => by cases h
  | x :: r, j, h => by
    unfold midx at h
    unfold mset
    split at h
    · rename_i he
      cases h
      rw [if_pos he]
      rfl
    · rename_i he
      rw [if_neg he]
      cases hr : midx k r with
      | none => rw [hr] at h; cases h
      | some i =>
        rw [hr] at h
        cases h
        rw [mset_at hr]
        rfl
theorem mset_new [DecidableEq κ] {k : κ} {v : α} : ∀ {m : List (κ × α)}, midx k m = none → mset k v m = m ++ [(k, v)]
  | [], _ => rfl
  | x :: r, h => by
    unfold midx at h
    unfold mset
    split at h
    · cases h
    · rename_i he
      rw [if_neg he]
      cases hr : midx k r with
      | none => rw [mset_new hr]; rfl
      | some i => rw [hr] at h; cases h
theorem mdel_at [DecidableEq κ] {k : κ} : ∀ {m : List (κ × α)} {j : Nat}, midx k m = some j → mdel k m = m.eraseIdx j
  | [], j, h => by cases h
  | x :: r, j, h => by
    unfold midx at h
    unfold mdel
    split at h
    · rename_i he
      cases h
      rw [if_pos he]
      rfl
    · rename_i he
      rw [if_neg he]
      cases hr : midx k r with
      | none => rw [hr] at h; cases h
      | some i =>
        rw [hr] at h
        cases h
        rw [mdel_at hr]
        rfl
theorem mdel_none [DecidableEq κ] {k : κ} : ∀ {m : List (κ × α)}, midx k m = none → mdel k m = m
  | [], _ => rfl
  | x :: r, h => by
    unfold midx at h
    unfold mdel
    split at h
    · cases h
    · rename_i he
      rw [if_neg he]
      cases hr : midx k r with
      | none => rw [mdel_none hr]
      | some i => rw [hr] at h; cases h
theorem midx_key [DecidableEq κ] {k : κ} : ∀ {m : List (κ × α)} {j : Nat}, midx k m = some j → ∃ v, m[j]? = some (k, v)
  | [], j, h => by cases h
  | x :: r, j, h => by
    unfold midx at h
    split at h
    · rename_i he
      cases h
      exact ⟨x.2, by rw [he]; rfl⟩
    · cases hr : midx k r with
      | none => rw [hr] at h; cases h
      | some i =>
        rw [hr] at h
        cases h
        obtain ⟨v, hv⟩ := midx_key hr
        exact ⟨v, by simpa using hv⟩

theorem setObj_heap (h : r < W.heap.size) (o : Obj) : (W.heap.setIfInBounds r o)[r]? = some o := by simp [h]

/-- Putting in. -/
theorem opw_mapUpdate [DecidableEq κ] {t et : TypeId} {k : κ} {v : α} {K : Value → World → Prop} (Ko : KeyOk P kt kf) (ht : P.underlying t = some (.map kt et)) (hA : AtF w M gs W) (ho : OwnM w M gs W r kf vf m)
    (h : ∀ w', AtF w M gs w' → Keeps gs W w' → Chg (fun b => b = r) W w' → OwnM w M gs w' r kf vf (mset k v m) → K undef w') : OpW P (skipS (Instr.mapUpdate t (.map (some r)) (kf k) (vf v))) W K := by
  have hl := ho.lt
  obtain ⟨es, clock, hr, he, hn, hb⟩ := ho.obj
  have fin : ∀ (es' : Array MapEntry) (clock' : Nat), EntR kf vf es'.toList (mset k v m) → (es'.toList.map (·.born)).Nodup → (∀ e ∈ es'.toList, e.born < clock') →
      K undef { W with heap := W.heap.setIfInBounds r (.map es' clock') } := fun es' clock' h1 h2 h3 =>
    h _ (hA.setObjF ho.mine) (keeps_setObj ho.apart) chg_setObj ⟨ho.mine, ho.apart, es', clock', setObj_heap hl _, h1, h2, h3⟩
  have hrun : ∃ es' clock', (Instr.mapUpdate t (.map (some r)) (kf k) (vf v)).run P W = .ok () { W with heap := W.heap.setIfInBounds r (.map es' clock') } ∧ EntR kf vf es'.toList (mset k v m) ∧ (es'.toList.map (·.born)).Nodup ∧ (∀ e ∈ es'.toList, e.born < clock') := by
    unfold Instr.mapUpdate
    rw [run_bind_ok (run_underlying ht W)]
    simp only
    rw [run_bind_ok (run_getObj_m hr)]
    simp only
    rw [run_bind_ok (Ko.chk false k W), run_bind_ok (findKey_run Ko k W he)]
    cases hm : midx k m with
    | none =>
      refine ⟨es.push { key := kf k, val := vf v, born := clock }, clock + 1, run_setObj_m hr _, ?_, ?_, ?_⟩
      · rw [mset_new hm, Array.toList_push]
        unfold EntR at he ⊢
        rw [List.map_append, List.map_append, he]
        rfl
      · rw [Array.toList_push, List.map_append]
        refine List.nodup_append.2 ⟨hn, by simp, fun a ha b hb' => ?_⟩
        simp at hb'
        obtain ⟨e, hem, rfl⟩ := List.mem_map.1 ha
        have := hb e hem
        omega
      · intro e hem
        rw [Array.toList_push] at hem
        rcases List.mem_append.1 hem with h1 | h1
        · have := hb e h1; omega
        · simp at h1; subst h1; simp
    | some j =>
      obtain ⟨v0, hv0⟩ := midx_key hm
      obtain ⟨e0, he0, hk0, _⟩ := EntR.at_ he hv0
      have he0' : es[j]? = some e0 := by simpa using he0
      simp only [Option.bind_some, hv0, Option.map_some, he0', Option.getD_some, hk0]
      have hks : (Instr.keyThatStays (kf k) (kf k)).run P W = .ok (kf k) W := by
        unfold Instr.keyThatStays
        rw [if_pos (Ko.bits k)]
        rfl
      rw [run_bind_ok hks]
      refine ⟨es.modify j fun e => { e with key := kf k, val := vf v }, clock, run_setObj_m hr _, ?_, ?_, ?_⟩
      · rw [mset_at hm]
        unfold EntR at he ⊢
        rw [List.map_set, ← he]
        apply List.ext_getElem?
        intro i
        simp only [List.getElem?_map, Array.getElem?_toList, Array.getElem?_modify, List.getElem?_set, List.length_map, Array.length_toList]
        by_cases hij : j = i
        · subst hij
          have := (Array.getElem?_eq_some_iff.1 he0').1
          simp [this]
        · simp [hij]
      · have : (es.modify j fun e => { e with key := kf k, val := vf v }).toList.map (·.born) = es.toList.map (·.born) := by
          apply List.ext_getElem?
          intro i
          simp only [List.getElem?_map, Array.getElem?_toList, Array.getElem?_modify]
          by_cases hij : j = i
          · subst hij; simp [he0']
          · simp [hij]
        rw [this]
        exact hn
      · intro e hem
        obtain ⟨i, hi⟩ := List.mem_iff_getElem?.1 hem
        simp only [Array.getElem?_toList, Array.getElem?_modify] at hi
        by_cases hij : j = i
        · subst hij
          simp [he0'] at hi
          subst hi
          exact hb e0 (List.mem_of_getElem? he0)
        · simp [hij] at hi
          exact hb e (List.mem_of_getElem? (i := i) (by simpa using hi))
  obtain ⟨es', clock', hr', h1, h2, h3⟩ := hrun
  unfold OpW skipS
  rw [run_bind_ok hr']
  exact fin es' clock' h1 h2 h3

theorem map_eraseIdx' {α β : Type} (f : α → β) : ∀ (l : List α) (i : Nat), (l.eraseIdx i).map f = (l.map f).eraseIdx i
  | [], _ => rfl
  | _ :: _, 0 => rfl
  | x :: l, i + 1 => by simp [map_eraseIdx' f l i]
/-- Taking out. -/
theorem opw_delete [DecidableEq κ] {t et ty : TypeId} {fl : Array Bool} {k : κ} {K : Value → World → Prop} (Ko : KeyOk P kt kf) (ht : P.underlying t = some (.map kt et)) (hA : AtF w M gs W) (ho : OwnM w M gs W r kf vf m) {t2 : TypeId}
    (h : ∀ w', AtF w M gs w' → Keeps gs W w' → Chg (fun b => b = r) W w' → OwnM w M gs w' r kf vf (mdel k m) → K (.tuple #[]) w') : OpW P (builtin .delete #[t, t2] ty fl #[.map (some r), kf k]) W K := by
  have hl := ho.lt
  obtain ⟨es, clock, hr, he, hn, hb⟩ := ho.obj
  have hrun : ∃ es', (Builtin.delete_ #[t, t2] ty #[.map (some r), kf k]).run P W = .ok (.tuple #[]) { W with heap := W.heap.setIfInBounds r (.map es' clock) } ∧ EntR kf vf es'.toList (mdel k m) ∧ (es'.toList.map (·.born)).Nodup ∧ (∀ e ∈ es'.toList, e.born < clock) := by
    unfold Builtin.delete_
    simp only [List.getElem?_toArray, List.getElem?_cons_zero, List.getElem?_cons_succ]
    rw [run_bind_ok (run_underlying ht W)]
    simp only
    rw [run_bind_ok (run_getObj_m hr)]
    simp only
    rw [run_bind_ok (Ko.chk es.isEmpty k W), run_bind_ok (findKey_run Ko k W he)]
    cases hm : midx k m with
    | none =>
      refine ⟨es, ?_, by rw [mdel_none hm]; exact he, hn, hb⟩
      simp only [Option.bind_none]
      rw [run_bind_ok (run_setObj_m hr _)]
      rfl
    | some j =>
      obtain ⟨v0, hv0⟩ := midx_key hm
      simp only [Option.bind_some, hv0, Option.map_some]
      refine ⟨es.eraseIdxIfInBounds j, by rw [run_bind_ok (run_setObj_m hr _)]; rfl, ?_, ?_, ?_⟩
      all_goals
        have hjl : j < es.size := by
          have := midx_lt hm
          have := EntR.len he
          simp at this
          omega
        have hel : (es.eraseIdxIfInBounds j).toList = es.toList.eraseIdx j := by
          simp [Array.eraseIdxIfInBounds, hjl]
      · rw [hel, mdel_at hm]
        unfold EntR at he ⊢
        rw [map_eraseIdx', he, map_eraseIdx']
      · rw [hel, map_eraseIdx']
        exact hn.sublist (List.eraseIdx_sublist ..)
      · intro e hem
        rw [hel] at hem
        exact hb e (List.mem_of_mem_eraseIdx hem)
  obtain ⟨es', hr', h1, h2, h3⟩ := hrun
  have hrun2 : (builtin .delete #[t, t2] ty fl #[.map (some r), kf k]).run P W = .ok (.value (.tuple #[])) { W with heap := W.heap.setIfInBounds r (.map es' clock) } := by
    show (do pure (Next.value (← Builtin.delete_ #[t, t2] ty #[.map (some r), kf k])) : Sem Next).run P W = _
    rw [run_bind_ok hr']
    rfl
  unfold OpW
  rw [hrun2]
  exact h _ (hA.setObjF ho.mine) (keeps_setObj ho.apart) chg_setObj ⟨ho.mine, ho.apart, es', clock, setObj_heap hl _, h1, h2, h3⟩
end
end Go.Vc

/- Keys of maps: integers, strings. -/
namespace Go.Vc
open Go Go.RowKit
theorem toList_eq (t s : ByteArray) : (t.toList == s.toList) = decide (t = s) := by
  by_cases h : t = s
  · subst h; simp
  · have : t.toList ≠ s.toList := fun e => h (by
      rw [ByteArray.toList_eq, ByteArray.toList_eq] at e
      have := Array.ext' e
      cases t; cases s
      simpa using this)
    simp [h, this]
theorem beq_ba (a b : ByteArray) : (a == b) = decide (a = b) := by rw [beq_toListBytes, toList_eq]
theorem keyOk_str {P : Program} {kt : TypeId} (h : P.underlying kt = some .string) : KeyOk P kt Value.string where
  eq := fun k k' => by unfold eqB; rw [h]; simp only; rw [beq_ba]
  now := fun d hd k k' b hb => by rw [h] at hd; cases hd; simp [Instr.sameNow] at hb; rw [← hb, beq_ba]
  chk := fun e k W => MapKept.run_checkKey (k := .string k) h trivial e 9999
  bits := fun k => by unfold Instr.sameBits; rw [beq_ba]; simp
  und := ⟨_, h⟩
theorem keyOk_int {P : Program} {kt : TypeId} {q : IntKind} (h : P.underlying kt = some (.int q)) : KeyOk P kt (Value.int q) where
  eq := fun k k' => by
    unfold eqB; rw [h]
    simp only [decide_true, cond_true, Option.some.injEq]
    rw [Bool.eq_iff_iff]; simp
  now := fun d hd k k' b hb => by
    rw [h] at hd; cases hd; simp [Instr.sameNow] at hb; rw [← hb, Bool.eq_iff_iff]; simp
  chk := fun e k W => MapKept.run_checkKey (k := .int q k) h (by unfold MapKept.IsKey; rfl) e 9999
  bits := fun k => by unfold Instr.sameBits; simp
  und := ⟨_, h⟩
end Go.Vc

/- Decimal digits, and strings as lists of bytes. -/
namespace Go.Vc
open Go Go.RowKit
def decL (n least : Int) : List Int := if 10 ≤ n ∨ (1 < least ∧ 0 ≤ n) then decL (n / 10) (least - 1) ++ [48 + n % 10] else [48 + n % 10]
termination_by n.toNat + least.toNat
decreasing_by
  rename_i h
  rcases h with h | h <;> omega

theorem decL_len (n least : Int) : (decL n least).length ≤ n.toNat + least.toNat + 1 := by
  rw [decL]
  split
  · rename_i h
    have := decL_len (n / 10) (least - 1)
    rw [List.length_append, List.length_singleton]
    rcases h with h | h <;> omega
  · simp
termination_by n.toNat + least.toNat
decreasing_by
  rename_i h
  rcases h with h | h <;> omega

theorem decL_byte (n least : Int) (hn : 0 ≤ n) : ∀ x ∈ decL n least, 48 ≤ x ∧ x ≤ 57 := by
  rw [decL]
  split
  · rename_i h
    intro x hx
    rcases List.mem_append.1 hx with hx | hx
    · exact decL_byte (n / 10) (least - 1) (by omega) x hx
    · simp at hx
      omega
  · intro x hx
    simp at hx
    omega
termination_by n.toNat + least.toNat
decreasing_by
  all_goals omega

theorem decL_one (n least : Int) (h : least ≤ 1) : decL n least = decL n 1 := by
  rw [decL, decL.eq_def n 1]
  by_cases hn : 10 ≤ n
  · rw [if_pos (.inl hn), if_pos (.inl hn), decL_one (n / 10) (least - 1) (by omega), decL_one (n / 10) (1 - 1) (by omega)]
  · rw [if_neg (by omega), if_neg (by omega)]
termination_by n.toNat
decreasing_by
  all_goals omega

theorem strOfNums_append (a b : List Int) : strOfNums a ++ strOfNums b = strOfNums (a ++ b) := by
  show (⟨_⟩ : ByteArray) ++ ⟨_⟩ = ⟨_⟩
  rw [ByteArray.mk_append_mk, List.map_append]

theorem decL_short : ∀ (k : Nat) (n : Int), 0 ≤ n → n < 10 ^ (k + 1) → (decL n 1).length ≤ k + 1
  | 0, n, h0, h => by
    rw [decL, if_neg (by omega)]
    simp
  | k + 1, n, h0, h => by
    rw [decL]
    split
    · rw [decL_one _ (1 - 1) (by omega), List.length_append, List.length_singleton]
      have e : (10 : Int) ^ (k + 1 + 1) = 10 ^ (k + 1) * 10 := Int.pow_succ ..
      have := decL_short k (n / 10) (by omega) (by rw [e] at h; omega)
      omega
    · simp

/-- Digits by the reference: put in front, one by one. -/
theorem digit1 {d : Int} (h : 0 ≤ d ∧ d < 10) : decL d 1 = [48 + d] := by
  rw [decL, if_neg (by omega), Int.emod_eq_of_lt h.1 h.2]
theorem dec_small {n : Int} (h : 0 ≤ n ∧ n ≤ 9223372036854775807) : (strOfNums (decL n 1)).size ≤ 19 := by
  rw [strOfNums_size]
  exact decL_short 18 n h.1 (by omega)

theorem bytesOf_strOfNums {l : List Int} (h : ∀ x ∈ l, 0 ≤ x ∧ x < 256) : bytesOf (strOfNums l) = l := by
  show (((l.map fun n => UInt8.ofNat n.toNat).toArray).toList.map fun b => (b.toNat : Int)) = l
  rw [List.toList_toArray, List.map_map]
  conv => rhs; rw [← List.map_id l]
  apply List.map_congr_left
  intro x hx
  have := h x hx
  simp
  omega
theorem bytes_ext {a b : ByteArray} (h : bytesOf a = bytesOf b) : a = b := by
  rw [← strOfNums_bytesOf a, h, strOfNums_bytesOf]

theorem append_sep {k : Int} : ∀ {a b x y : List Int}, k ∉ a → k ∉ b → a ++ k :: x = b ++ k :: y → a = b ∧ x = y
  | [], [], x, y, _, _, h => ⟨rfl, by simpa using h⟩
  | [], c :: b, x, y, _, hb, h => by
    simp at h
    exact absurd (h.1 ▸ List.mem_cons_self ..) hb
  | c :: a, [], x, y, ha, _, h => by
    simp at h
    exact absurd (h.1 ▸ List.mem_cons_self ..) ha
  | c :: a, d :: b, x, y, ha, hb, h => by
    simp only [List.cons_append, List.cons.injEq] at h
    obtain ⟨rfl, h⟩ := h
    obtain ⟨rfl, rfl⟩ := append_sep (fun hk => ha (List.mem_cons_of_mem _ hk)) (fun hk => hb (List.mem_cons_of_mem _ hk)) h
    exact ⟨rfl, rfl⟩

theorem decL_inj (n m : Int) (hn : 0 ≤ n) (hm : 0 ≤ m) (h : decL n 1 = decL m 1) : n = m := by
  rw [decL.eq_def n, decL.eq_def m] at h
  have l1 : ∀ k : Int, 0 < (decL k (1 - 1)).length := fun k => by rw [decL]; split <;> simp
  split at h <;> split at h
  · obtain ⟨h1, h2⟩ := List.append_inj' h rfl
    rw [decL_one _ (1 - 1) (by omega), decL_one (m / 10) (1 - 1) (by omega)] at h1
    have := decL_inj (n / 10) (m / 10) (by omega) (by omega) h1
    simp at h2
    omega
  · have hlen := congrArg List.length h
    rw [List.length_append, List.length_singleton, List.length_singleton] at hlen
    have := l1 (n / 10)
    omega
  · have hlen := congrArg List.length h
    rw [List.length_append, List.length_singleton, List.length_singleton] at hlen
    have := l1 (m / 10)
    omega
  · simp at h
    omega
termination_by n.toNat
decreasing_by
  all_goals omega

theorem decL_no {n : Int} (hn : 0 ≤ n) {k : Int} (hk : k < 48 ∨ 57 < k) : k ∉ decL n 1 := fun h => by
  have := decL_byte n 1 hn k h
  omega


/-- A string of bytes written out. -/
theorem opw_bytes0 {P : Program} {M : Nat → Prop} {w W : World} {t e td : TypeId} {len : Nat} {parts : Array (Nat × Value)} {l : List Int} {K : ByteArray → World → Prop} (hA : AtF w M [] W) (hl : len = l.length) (hm : len ≤ maxLen) (hc : sliceCells P t len parts = some (e, l.flatMap u8e))
    (hs : P.underlying t = some (.slice e)) (he : P.underlying e = some (.int .u8)) (hd : P.underlying td = some .string)
    (h : ∀ w', AtF w M [] w' → Bel W w' → K (strOfNums l) w') :
    OpW P (valueS (Instr.buildSlice t len parts)) W fun v1 w1 => ∃ a n c, v1 = .slice a n c ∧ OpW P (valueS (convert t td (.slice a n c))) w1 fun v2 w2 => ∃ s, v2 = .string s ∧ K s w2 := by
  refine opw_litL (f := u8e) (size := 1) hA hl (fun _ _ => rfl) hm hc fun g w' _ hA' _ hb ho => ⟨_, _, _, rfl, ?_⟩
  exact opw_b2s hs he hd (ho.sl (by simp)) ⟨_, rfl, h w' hA' hb⟩
end Go.Vc

/- Structs behind pointers: their fields read and stored; what an own row's block is. -/
namespace Go.Vc
open Go Go.RowKit

section
variable {P : Program} {M N : Nat → Prop} {w W W' : World} {gs : List Nat}

theorem elt_cells {g : Nat} {cells : List Value} {ty : TypeId} (h : W.heap[g]? = some (.cells cells.toArray ty (0, 0))) : Elt W ⟨g, 0, none⟩ cells := by
  intro j v hv
  rw [addr_add, cell_at (cells := cells) (ty := ty) (fr := (0, 0)) h, Nat.zero_add]
  exact hv
/-- A field read. -/
theorem rd_f0 {g : Nat} {v : Value} {r : List Value} {ty te : TypeId} {ds : List Nat} (h : W.heap[g]? = some (.cells (v :: r).toArray ty (0, 0))) (hagg : pureRun P (isAgg te) = some false) (hd : ∀ d ∈ ds, d ≠ g) : Reads P ds (Instr.loadAt te (.pointer (some ⟨g, 0, none⟩))) W v :=
  (elt_cells h).one hagg hd
theorem rd_f {g : Nat} (o : Nat) {v : Value} {r cs : List Value} {ty te : TypeId} {ds : List Nat} (h : W.heap[g]? = some (.cells cs.toArray ty (0, 0))) (hc : cs.drop (o + 1) = v :: r) (hagg : pureRun P (isAgg te) = some false) (hd : ∀ d ∈ ds, d ≠ g) : Reads P ds (Instr.loadAt te (.pointer (some (Addr.mk g (0 + (o + 1)) none)))) W v := by
  have := (elt_cells h).sub (o := o + 1) (by omega)
  rw [hc] at this
  exact this.one hagg hd

theorem opw_storeF {g off : Nat} {cells cells' : List Value} {ty te : TypeId} {v : Value} {K : Value → World → Prop} (hA : AtF w M gs W) (hg : W.heap[g]? = some (.cells cells.toArray ty (0, 0))) (hm : w.heap.size ≤ g ∨ M g) (hap : g ∉ gs) (hc : cellStore P te cells off v = some cells')
    (h : ∀ w', AtF w M gs w' → Keeps gs W w' → Chg (fun b => b = g) W w' → w'.heap[g]? = some (.cells cells'.toArray ty (0, 0)) → K undef w') : OpW P (skipS (Instr.storeAt te (.pointer (some ⟨g, off, none⟩)) v)) W K := by
  obtain ⟨W', hr, hg', hb, hs1, h2, h3, h4⟩ := run_cellStore (P := P) (t := te) hg hc
  have hch : Chg (fun b => b = g) W W' := ⟨h2, h3, h4, by omega, fun k _ hk => hb k hk, run_drawn hr⟩
  have hsk : (skipS (Instr.storeAt te (.pointer (some ⟨g, off, none⟩)) v)).run P W = .ok .skip W' := by
    unfold skipS
    rw [run_bind_ok hr]
    rfl
  unfold OpW
  rw [hsk]
  exact h W' (hA.step hch fun b _ hb => by subst hb; exact hm) (hA.keepsC hch fun x hx e => hap (by subst e; exact hx)) hch hg'

/-- A struct boxed: its block. -/
theorem opw_boxS {t : TypeId} {x : Value} {K : Value → World → Prop} (hA : AtF w M gs W) (h : ∀ g w', W.heap.size = g → AtF w M gs w' → Keeps gs W w' → Bel W w' → w'.heap[g]? = some (.cells x.cells t (0, 0)) → K (.pointer (some ⟨g, 0, none⟩)) w') : OpW P (valueS (Instr.box t x)) W K := by
  have hr : (Instr.box t x).run P W = .ok (.pointer (some ⟨W.heap.size, 0, none⟩)) (W.alloc (.cells x.cells t)) := rfl
  unfold OpW
  rw [run_valueS hr]
  exact h _ _ rfl (hA.call (below_alloc _)) (hA.keeps (below_alloc _)) (below_alloc _) (heap_alloc_new W _)

theorem OwnF.blk {α : Type} {e : TypeId} {size : Nat} {f : α → List Value} {v : Value} {l : List α} (h : OwnF w M gs W e size f v l) {k : Nat} (hk : v.ownBlock = some k) : ∃ cur, W.heap[k]? = some (.cells cur e (0, 0)) := by
  rcases h.row0.2 with ⟨hv, _⟩ | ⟨g, cap, cur, hv, _, hg, _⟩
  · rw [hv] at hk; cases hk
  · rw [hv] at hk
    cases hk
    exact ⟨cur, hg⟩
theorem cells_ne {j k : Nat} {c c' : Array Value} {e e' : TypeId} {fr fr' : Nat × Nat} (h : W.heap[j]? = some (.cells c e fr)) (h' : W.heap[k]? = some (.cells c' e' fr')) (hne : e ≠ e') : j ≠ k := fun hjk => by
  subst hjk
  rw [h] at h'
  cases h'
  exact hne rfl
theorem cells_map {j k : Nat} {c : Array Value} {e : TypeId} {fr : Nat × Nat} {es : Array MapEntry} {cl : Nat} (h : W.heap[j]? = some (.cells c e fr)) (h' : W.heap[k]? = some (.map es cl)) : j ≠ k := fun hjk => by
  subst hjk
  rw [h] at h'
  cases h'
end
end Go.Vc

/- A variable in a block of its own: made, then stored into. -/
namespace Go.Vc
open Go Go.RowKit
section
variable {P : Program} {w W : World} {M : Nat → Prop} {gs : List Nat}
theorem opw_allocS {t : TypeId} (zc : List Value) {zv : Value} {K : Value → World → Prop} (hz : pureRun P (zeroValue t) = some zv) (hc : zv.cells = zc.toArray) (hA : AtF w M gs W)
    (h : ∀ g w', W.heap.size = g → AtF w M gs w' → Keeps gs W w' → Bel W w' → w'.heap[g]? = some (.cells zc.toArray t (0, 0)) → K (.pointer (some ⟨g, 0, none⟩)) w') : OpW P (valueS (Instr.alloc t true (.tuple #[]))) W K := by
  unfold OpW
  rw [run_valueS (run_alloc hz)]
  refine h _ _ rfl (hA.call (below_alloc _)) (hA.keeps (below_alloc _)) (below_alloc _) ?_
  rw [heap_alloc_new, hc]
/-- Made, and stored into at once: a new block. -/
theorem opw_boxed {t te : TypeId} (zc cs : List Value) {zv v : Value} {K : Nat → World → Prop} (hz : pureRun P (zeroValue t) = some zv) (hc : zv.cells = zc.toArray) (hs : cellStore P te zc 0 v = some cs) (hA : AtF w M gs W)
    (h : ∀ g w', W.heap.size = g → AtF w M gs w' → Keeps gs W w' → Bel W w' → w'.heap[g]? = some (.cells cs.toArray t (0, 0)) → K g w') :
    OpW P (valueS (Instr.alloc t true (.tuple #[]))) W fun p w' => ∃ ad, p = .pointer (some ad) ∧ OpW P (skipS (Instr.storeAt te (.pointer (some ad)) v)) w' fun _ w'' => K ad.block w'' ∧ ad = ⟨ad.block, 0, none⟩ := by
  refine opw_allocS zc hz hc hA fun g w' hg hA' hk hb hblk => ⟨_, rfl, ?_⟩
  refine opw_storeF (w := W) (M := noB) (gs := gs) (cells := zc) ⟨Chg.of_below hb, hA'.under⟩ hblk (.inl (by omega)) (fun hx => ?_) hs fun w2 hA2 hk2 hch hb2 => ⟨?_, rfl⟩
  · have := hA.under g hx
    omega
  · have hbel : Bel W w2 := hA2.below
    exact h g w2 hg (hA.call hbel) (hA.keeps hbel) hbel hb2
end
end Go.Vc

/- Copying all elements of a slice into an own one; a map made with a hint. -/
namespace Go.Vc
open Go Go.RowKit

section
variable {α : Type} {P : Program} {w W : World} {M : Nat → Prop} {gs : List Nat} {e : TypeId} {size : Nat} {f : α → List Value} {l l0 : List α} {t ty : TypeId} {fl : Array Bool} {bytes : Nat}

theorem SlE_cells {ad : Addr} {n c : Nat} (hs : SlE W size f l (some ad) n c) (hf : ∀ x ∈ l, (f x).length = size) : ∀ j u, (l.flatMap f)[j]? = some u → W.cell? (ad.add j) = some u := by
  intro j u hu
  have hj := (List.getElem?_eq_some_iff.1 hu).1
  rw [flatMap_len hf] at hj
  have hsz : 0 < size := by
    rcases Nat.eq_zero_or_pos size with h | h
    · subst h; omega
    · exact h
  have hi : j / size < l.length := Nat.div_lt_of_lt_mul (by rw [Nat.mul_comm]; exact hj)
  obtain ⟨ad', cs, hae, hcl, hcs, hcf⟩ := hs.at_ (List.getElem?_eq_getElem hi)
  cases hae
  subst hcf
  have hp := flatMap_part hf (List.getElem?_eq_getElem hi)
  have hm : j % size < size := Nat.mod_lt _ hsz
  have hdm : j / size * size + j % size = j := by rw [Nat.mul_comm]; exact Nat.div_add_mod j size
  have hv : (f l[j / size])[j % size]? = some u := by
    rw [← hp, List.getElem?_take, if_pos hm, List.getElem?_drop, hdm]
    exact hu
  have := hcs _ _ hv
  rw [add_add, hdm] at this
  exact this

theorem chg_setRow {g : Nat} {cs : Array Value} : Chg (fun b => b = g) W (W.setRow g cs) := by
  refine ⟨rfl, rfl, rfl, ?_, fun b _ hb => ?_, Nat.le_refl _⟩
  · simp [World.setRow]
  · simp [World.setRow, Array.getElem?_modify, Ne.symm hb]

theorem opw_copyAll {d : Option Addr} {n c n' c' : Nat} {a : Option Addr} (he : elemB P t e size bytes = true) (hA : AtF w M gs W) (ho : OwnF w M gs W e size f (.slice d n c) l0) (hs : SlE W size f l a n' c') (hl : l.length = l0.length) (hf : ∀ x ∈ l, (f x).length = size) (hf0 : ∀ x ∈ l0, (f x).length = size) (h1 : ∀ x ∈ l, ∀ u ∈ f x, u.oneCell' = true) {K : Value → World → Prop}
    (h : ∀ w', AtF w M gs w' → Keeps gs W w' → Chg (fun b => (Value.slice d n c).ownBlock = some b) W w' → OwnF w M gs w' e size f (.slice d n c) l → K (goInt l.length) w') :
    OpW P (builtin .copy #[t, t] ty fl #[.slice d n c, .slice a n' c']) W K := by
  obtain ⟨i, z, ok⟩ := elemB_ok he
  have hn := ho.len
  have hn' := hs.1
  subst hn hn'
  have hsz : ∀ W : World, (sizeOf e).run P W = .ok size W := fun W => by simp [sizeOf, typeInfo, ok.hi, ok.hsize]
  rcases ho.row0.2 with ⟨hv, h0⟩ | ⟨g, cap, cur, hv, _, hg, hnc, hcm, hcs, htk⟩
  · obtain ⟨rfl, hn0, rfl⟩ := Value.slice.inj hv
    have e1 : l0 = [] := List.eq_nil_of_length_eq_zero h0
    have e2 : l = [] := List.eq_nil_of_length_eq_zero (by omega)
    subst e1 e2
    have hr : (Builtin.copy_ #[t, t] ty #[.slice none 0 0, .slice a 0 c']).run P W = .ok (goInt 0) W := by
      unfold Builtin.copy_
      simp only [List.getElem?_toArray, List.getElem?_cons_zero, List.getElem?_cons_succ]
      rw [run_bind_ok (run_underlying ok.ht W)]
      simp only [Builtin.lenOf, pure_bind]
      rw [run_bind_ok (hsz W)]
      cases a with
      | none => rfl
      | some ad =>
        have this : (loadCells ad 0).run P W = .ok #[] W := run_loadCells_list (P := P) W ad [] (fun j v hv => by simp at hv)
        simp only [Builtin.firstCells, Nat.min_self, Nat.zero_mul]
        rw [run_bind_ok this]
        rfl
    have hrun : (builtin .copy #[t, t] ty fl #[.slice none 0 0, .slice a 0 c']).run P W = .ok (.value (goInt 0)) W := by
      show (do pure (Next.value (← Builtin.copy_ #[t, t] ty #[.slice none 0 0, .slice a 0 c'])) : Sem Next).run P W = _
      rw [run_bind_ok hr]
      rfl
    unfold OpW
    simp only [List.length_nil] at *
    rw [hrun]
    exact h W hA (fun _ _ => rfl) (Chg.refl _ _) ho
  · obtain ⟨rfl, _, rfl⟩ := Value.slice.inj hv
    have hlen : (l.flatMap f).length = l.length * size := flatMap_len hf
    have hone : ∀ u ∈ l.flatMap f, u.oneCell' = true := fun u hu => by
      obtain ⟨x, hx, hxu⟩ := List.mem_flatMap.1 hu
      exact h1 x hx u hxu
    have hfit : (l.flatMap f).length ≤ cur.size := by
      rw [hlen, hcs, hl]
      exact Nat.mul_le_mul_right _ hnc
    have hst := run_storeCells_at P g 0 e (l.flatMap f) 0 cur W hg (by simpa using hfit) hone
    simp only [Nat.zero_add] at hst
    have hr : (Builtin.copy_ #[t, t] ty #[.slice (some ⟨g, 0, none⟩) l0.length c, .slice a l.length c']).run P W = .ok (goInt l.length) (W.setRow g (cur.toList.take 0 ++ l.flatMap f ++ cur.toList.drop (l.flatMap f).length).toArray) := by
      unfold Builtin.copy_
      simp only [List.getElem?_toArray, List.getElem?_cons_zero, List.getElem?_cons_succ]
      rw [run_bind_ok (run_underlying ok.ht W)]
      simp only [Builtin.lenOf, pure_bind]
      rw [run_bind_ok (hsz W)]
      have hmin : Nat.min l.length l0.length = l.length := by rw [hl]; exact Nat.min_self _
      rw [hmin]
      have hld : (Builtin.firstCells size l.length (.slice a l.length c')).run P W = .ok (l.flatMap f).toArray W := by
        cases a with
        | none =>
          have hc0 := hs.2.2.2.1 rfl
          have : l = [] := List.eq_nil_of_length_eq_zero (by have := hs.2.1; omega)
          subst this
          rfl
        | some ad =>
          have := run_loadCells_list (P := P) W ad (l.flatMap f) (SlE_cells hs hf)
          rw [hlen] at this
          exact this
      rw [run_bind_ok hld]
      simp only
      rw [run_bind_ok hst]
      rfl
    have hrun : (builtin .copy #[t, t] ty fl #[.slice (some ⟨g, 0, none⟩) l0.length c, .slice a l.length c']).run P W = .ok (.value (goInt l.length)) (W.setRow g (cur.toList.take 0 ++ l.flatMap f ++ cur.toList.drop (l.flatMap f).length).toArray) := by
      show (do pure (Next.value (← Builtin.copy_ #[t, t] ty #[.slice (some ⟨g, 0, none⟩) l0.length c, .slice a l.length c'])) : Sem Next).run P W = _
      rw [run_bind_ok hr]
      rfl
    unfold OpW
    rw [hrun]
    have hch : Chg (fun b => (Value.slice (some ⟨g, 0, none⟩) l0.length c).ownBlock = some b) W (W.setRow g (cur.toList.take 0 ++ l.flatMap f ++ cur.toList.drop (l.flatMap f).length).toArray) := chg_setRow.mono fun b _ hb => by subst hb; rfl
    refine h _ (hA.step hch fun b _ hb => ho.mine b hb) (hA.keepsC hch fun x hx hb => ho.apart x hx hb) hch ⟨?_, ho.mine, ho.apart⟩
    refine ⟨hlen, .inr ⟨g, c, _, by rw [hl], Nat.zero_le _, setRow_heap W g cur _ e (0, 0) hg, by omega, hcm, ?_, ?_⟩⟩
    · simp only [List.take_zero, List.nil_append, List.size_toArray, List.length_append, List.length_drop, Array.length_toList]
      omega
    · simp only [List.take_zero, List.nil_append]
      rw [← hlen, List.take_left]
end

theorem opw_makeMapR {κ α : Type} {P : Program} {w W : World} {M : Nat → Prop} {gs : List Nat} {kf : κ → Value} {vf : α → Value} {t kt et : TypeId} {k : IntKind} {x : Int} {K : Value → World → Prop} (ht : P.underlying t = some (.map kt et)) (hA : AtF w M gs W) (h : ∀ g w', W.heap.size = g → AtF w M gs w' → Keeps gs W w' → Bel W w' → OwnM w M gs w' g kf vf ([] : List (κ × α)) → K (.map (some g)) w') : OpW P (valueS (Instr.makeMap t (some (.int k x)))) W K := by
  have hr : (Instr.makeMap t (some (.int k x))).run P W = .ok (.map (some W.heap.size)) (W.alloc (.map #[] 0)) := by
    unfold Instr.makeMap
    simp only
    rw [run_bind_ok (run_underlying ht W)]
    rfl
  unfold OpW
  rw [run_valueS hr]
  refine h _ _ rfl (hA.call (below_alloc _)) (hA.keeps (below_alloc _)) (below_alloc _) ⟨.inl hA.size, fun hm => ?_, #[], 0, heap_alloc_new W _, rfl, by simp, fun e he => by simp at he⟩
  have := hA.under _ hm
  omega
end Go.Vc

/- A part of an own slice's element is stored. -/
namespace Go.Vc
open Go Go.RowKit
section
variable {α : Type} {P : Program} {w W : World} {M : Nat → Prop} {gs : List Nat} {e : TypeId} {size : Nat} {f : α → List Value} {a : Option Addr} {n c : Nat} {l : List α}

theorem part_swap {β : Type} {A X B ys : List β} {o m : Nat} (h : o + m ≤ X.length) : (A ++ X ++ B).take (A.length + o) ++ ys ++ (A ++ X ++ B).drop (A.length + o + m) = A ++ (X.take o ++ ys ++ X.drop (o + m)) ++ B := by
  have e1 : (A ++ X ++ B).take (A.length + o) = A ++ X.take o := by
    rw [List.append_assoc, List.take_append, List.take_of_length_le (by omega), Nat.add_sub_cancel_left, List.take_append_of_le_length (by omega)]
  have e2 : (A ++ X ++ B).drop (A.length + o + m) = X.drop (o + m) ++ B := by
    rw [List.append_assoc, List.drop_append, List.drop_of_length_le (by omega), List.nil_append, show A.length + o + m - A.length = o + m by omega, List.drop_append_of_le_length (by omega)]
  rw [e1, e2]
  simp only [List.append_assoc]

theorem opw_storeP {te : TypeId} {i o m : Nat} {x0 y : α} {x : Value} (hA : AtF w M gs W) (ho : OwnF w M gs W e size f (.slice a n c) l) (hf : ∀ x ∈ l, (f x).length = size) (hx : l[i]? = some x0) (hom : o + m ≤ size) (hy : f y = (f x0).take o ++ x.cells.toList ++ (f x0).drop (o + m)) (hxl : x.cells.toList.length = m) (h1 : x.cells.toList.all oneCell = true) (hsz : pureRun P (sizeOf te) = some m) {K : Value → World → Prop} {ad : Addr} (had : ∀ g, a = some ⟨g, 0, none⟩ → ad = ⟨g, i * size + o, none⟩)
    (h : ∀ w', AtF w M gs w' → Keeps gs W w' → Chg (fun b => (Value.slice a n c).ownBlock = some b) W w' → OwnF w M gs w' e size f (.slice a n c) (l.set i y) → K undef w') :
    OpW P (skipS (Instr.storeAt te (.pointer (some ad)) x)) W K := by
  have hi := (List.getElem?_eq_some_iff.1 hx).1
  obtain ⟨g, cur, rfl, hge, hg, hlc, hcm, hcs, htk⟩ := ho.ptr (by omega)
  have had := had g rfl
  subst had
  have hn := ho.len
  have hlx : (f x0).length = size := hf x0 (List.mem_of_getElem? hx)
  have hle : i * size + size ≤ l.length * size := by
    have := Nat.mul_le_mul_right size (show i + 1 ≤ l.length by omega)
    rw [Nat.add_mul] at this
    omega
  have hle2 : l.length * size ≤ cur.size := by rw [hcs]; exact Nat.mul_le_mul_right _ hlc
  have hcl : cellStore P te cur.toList (i * size + o) x = some (cur.toList.take (i * size + o) ++ x.cells.toList ++ cur.toList.drop (i * size + o + m)) := by
    unfold cellStore
    rw [hsz]
    have b1 : Nat.beq x.cells.toList.length m = true := by rw [hxl]; exact Nat.beq_refl _
    have b2 : Nat.ble (i * size + o + m) cur.toList.length = true := Nat.ble_eq_true_of_le (by rw [Array.length_toList]; omega)
    simp only [b1, b2, h1]
    rfl
  obtain ⟨W', hr, hg', hb, hs1, h2, h3, h4⟩ := run_cellStore (P := P) (t := te) (cells := cur.toList) (by simpa using hg) hcl
  have hch : Chg (fun b => (Value.slice (some ⟨g, 0, none⟩) n c).ownBlock = some b) W W' := ⟨h2, h3, h4, by omega, fun k _ hk => hb k (fun e => hk (by rw [e]; rfl)), run_drawn hr⟩
  have hsk : (skipS (Instr.storeAt te (.pointer (some ⟨g, i * size + o, none⟩)) x)).run P W = .ok .skip W' := by
    unfold skipS
    rw [run_bind_ok hr]
    rfl
  unfold OpW
  rw [hsk]
  have hlf := flatMap_len hf
  have hset : ∀ z ∈ l.set i y, (f z).length = size := fun z hz => by
    rcases List.mem_or_eq_of_mem_set hz with hz | rfl
    · exact hf z hz
    · rw [hy]
      simp only [List.length_append, List.length_take, List.length_drop, hlx, hxl]
      omega
  refine h W' (hA.step hch fun b _ hb => ho.mine b hb) (hA.keepsC hch fun x hx hb => ho.apart x hx hb) hch ⟨?_, ho.mine, ho.apart⟩
  refine ⟨flatMap_len hset, .inr ⟨g, c, _, by rw [List.length_set, hn], Nat.zero_le _, hg', by rw [List.length_set]; exact hlc, hcm, ?_, ?_⟩⟩
  · simp only [List.size_toArray, List.length_append, List.length_take, List.length_drop, Array.length_toList, hxl]
    omega
  · rw [List.length_set]
    simp only
    have htm := take_mid (cur := cur.toList) (xs := l.flatMap f) (y := x.cells.toList) (L := l.length * size) (a := i * size + o) (s := m) htk hlf hxl (by omega)
    rw [htm]
    have hsplit : l.flatMap f = (l.flatMap f).take (i * size) ++ f x0 ++ (l.flatMap f).drop (i * size + size) := by
      have hp := flatMap_part hf hx
      conv => lhs; rw [← List.take_append_drop (i * size) (l.flatMap f), ← List.take_append_drop size ((l.flatMap f).drop (i * size)), hp, List.drop_drop]
      rw [List.append_assoc]
    have hAl : ((l.flatMap f).take (i * size)).length = i * size := by
      rw [List.length_take, hlf]; omega
    have hps := part_swap (A := (l.flatMap f).take (i * size)) (X := f x0) (B := (l.flatMap f).drop (i * size + size)) (ys := x.cells.toList) (o := o) (m := m) (by omega)
    rw [← hsplit, hAl] at hps
    rw [hps, ← hy, flatMap_set hf hi]

theorem own_elt {t : TypeId} {i : Nat} {x : α} {k : IntKind} (ho : OwnF w M gs W e size f (.slice a n c) l) (hf : ∀ x ∈ l, (f x).length = size) (hx : l[i]? = some x) (ht : P.underlying t = some (.slice e)) (hz : pureRun P (sizeOf e) = some size) :
    ∃ g, a = some ⟨g, 0, none⟩ ∧ Gives P (Instr.indexAt t (.slice a n c) (.int k (i : Int))) (.pointer (some ⟨g, i * size, none⟩)) ∧ Elt W ⟨g, i * size, none⟩ (f x) := by
  have hi := (List.getElem?_eq_some_iff.1 hx).1
  obtain ⟨g, cur, rfl, _⟩ := ho.ptr (by omega)
  have hs := ho.sl hf
  have hn := ho.len
  obtain ⟨ad', cs, ha, hcl, hcs, rfl⟩ := hs.at_ hx
  cases ha
  have e1 : (⟨g, 0, none⟩ : Addr).add (i * size) = ⟨g, i * size, none⟩ := by rw [addr_add]; simp
  refine ⟨g, rfl, ?_, ?_⟩
  · have := gives_index (P := P) (t := t) (k := k) (ad := ⟨g, 0, none⟩) (len := n) (cap := c) (i := i) ht hz (by omega)
    rw [e1] at this
    exact this
  · intro j v hv
    have := hcs j v hv
    rw [e1] at this
    exact this
end
end Go.Vc

/- Configurations: numbers and their digits; which may be. -/
set_option maxRecDepth 20000
set_option maxHeartbeats 1000000
namespace Go.Vc.K
open Go Go.Vc Go.RowKit Go.Proofs Vck

variable {w W W' : World} {M : Nat → Prop} {gs : List Nat}

/-- A configuration's nine numbers. -/
structure Cf where
  a : Int
  b : Int
  c : Int
  d : Int
  e : Int
  f : Int
  g : Int
  h : Int
  i : Int
deriving DecidableEq
abbrev Cf.cs (x : Cf) : List Value := [.int .i64 x.a, .int .i64 x.b, .int .i64 x.c, .int .i64 x.d, .int .i64 x.e, .int .i64 x.f, .int .i64 x.g, .int .i64 x.h, .int .i64 x.i]
abbrev Cf.v (x : Cf) : Value := .agg #[.int .i64 x.a, .int .i64 x.b, .int .i64 x.c, .int .i64 x.d, .int .i64 x.e, .int .i64 x.f, .int .i64 x.g, .int .i64 x.h, .int .i64 x.i]
def Cf.l (x : Cf) : List Int := [x.a, x.b, x.c, x.d, x.e, x.f, x.g, x.h, x.i]
abbrev zC : Cf := ⟨0, 0, 0, 0, 0, 0, 0, 0, 0⟩
def inQ (lo hi n : Int) : Prop := lo ≤ n ∧ n ≤ hi
instance (lo hi n : Int) : Decidable (inQ lo hi n) := by unfold inQ; infer_instance
def cR (x : Cf) : Prop := (inQ 0 9007199254740992 x.f ∧ inQ 0 9007199254740992 x.g ∧ inQ 0 9007199254740992 x.h ∧ inQ 0 9007199254740992 x.i) ∧ inQ 0 9007199254740992 x.a ∧ inQ 1 9007199254740992 x.b ∧ inQ 0 9007199254740992 x.c ∧ inQ 0 9007199254740992 x.d ∧ inQ 1 4096 x.e
instance (x : Cf) : Decidable (cR x) := by unfold cR; infer_instance

theorem c13 (n lo hi : Int) (w : World) : Ret Tryd.prog 13 #[.int .i64 n, .int .i64 lo, .int .i64 hi] w (.bool (decide (inQ lo hi n))) := by
  intro R h
  refine f13_calls n lo hi w R ?_
  unfold f13_vc
  refine brD (fun h1 => leaf h (At.refl w) ?_) (fun h1 => leaf h (At.refl w) ?_)
  · refine congrArg (fun x => Ending.returned (Value.bool x)) (decide_eq_decide.2 ?_)
    exact ⟨fun h2 => ⟨h1, h2⟩, fun h2 => h2.2⟩
  · rw [decide_eq_false fun h2 : inQ lo hi n => h1 h2.1]
theorem c14 (n lo hi : Int) (w : World) : Ret Tryd.prog 14 #[.int .i64 n, .int .i64 lo, .int .i64 hi] w (.bool (decide (inQ lo hi n))) := by
  intro R h
  refine f14_calls n lo hi w R ?_
  unfold f14_vc
  refine brD (fun h1 => leaf h (At.refl w) ?_) (fun h1 => leaf h (At.refl w) ?_)
  · refine congrArg (fun x => Ending.returned (Value.bool x)) (decide_eq_decide.2 ?_)
    exact ⟨fun h2 => ⟨h1, h2⟩, fun h2 => h2.2⟩
  · rw [decide_eq_false fun h2 : inQ lo hi n => h1 h2.1]
theorem c15 (w : World) : Ret Tryd.prog 15 #[] w (Cf.v ⟨1000, 1000000, 1000, 0, 64, 0, 0, 0, 0⟩) := by
  intro R h
  refine f15_calls w R ?_
  unfold f15_vc
  exact go_n (At.refl w) fun n1 hn1 => go_evo (At.refl w) (by intro d hd; simp at hd; omega) fun w2 hA => leaf (gs := [n1]) h hA rfl
theorem index4 {x : Cf} {k : Nat} {y : Int} (hk : [x.f, x.g, x.h, x.i][k]? = some y) : Gives Tryd.prog (Instr.index 22 (.agg #[.int .i64 x.f, .int .i64 x.g, .int .i64 x.h, .int .i64 x.i]) (.int .i64 (k : Int))) (.int .i64 y) := by
  have hk4 : k = 0 ∨ k = 1 ∨ k = 2 ∨ k = 3 := by
    have := (List.getElem?_eq_some_iff.1 hk).1
    simp at this
    omega
  rcases hk4 with rfl | rfl | rfl | rfl <;> (simp at hk; subst hk; intro W; exact pureRun_run (P := Tryd.prog) (by kernel_rfl) W)
theorem succ_k {k : Nat} (h : k < 1000) : IntKind.i64.wrap ((k : Int) + 1) = ((k + 1 : Nat) : Int) := by
  rw [wrap_i64 (by omega) (by omega)]; omega
theorem c8 (x : Cf) (w : World) : Ret Tryd.prog 8 #[x.v] w (.int .i64 (if cR x then 0 else 41)) := by
  intro R h
  refine f8_calls _ _ _ _ _ _ _ _ _ w R ?_
  unfold f8_vc
  have no : ∀ {gs w'}, ¬ cR x → At w gs w' → R (.returned (.int .i64 41)) w' := fun hn hA => by
    rw [if_neg hn] at h
    exact leaf h hA rfl
  intro n1 hn1
  refine ⟨fun v W' => At w [n1] W' ∧ ∃ k : Nat, v.1 = k ∧ k ≤ 4 ∧ ∀ j y, j < k → [x.f, x.g, x.h, x.i][j]? = some y → inQ 0 9007199254740992 y, fun v _ => ((4 : Int) - v.1).toNat, ⟨fun w4 hb4 hu => ⟨⟨((At.refl w).call hb4).chg, hu⟩, 0, rfl, Nat.zero_le _, fun j y hj => by omega⟩, ?_⟩⟩
  rintro x5 w6 ⟨hA, k, hk, hk4, hall⟩
  simp only at hk
  subst hk
  refine brD (fun hlt => ?_) (fun _ => ?_)
  · have hk3 : k < 4 := by omega
    obtain ⟨y, hy⟩ : ∃ y, [x.f, x.g, x.h, x.i][k]? = some y := ⟨_, List.getElem?_eq_getElem (by simpa using hk3)⟩
    refine ⟨y, index4 hy, at_callb hA (c14 _ _ _ w6) fun w9 hA hk hb => ⟨_, rfl, hk, brNB (fun hn => no (fun hc => ?_) hA) (fun hin => ?_)⟩⟩
    · have hn := of_decide_eq_false hn
      have : k = 0 ∨ k = 1 ∨ k = 2 ∨ k = 3 := by omega
      rcases this with rfl | rfl | rfl | rfl <;> (simp at hy; subst hy)
      · exact hn hc.1.1
      · exact hn hc.1.2.1
      · exact hn hc.1.2.2.1
      · exact hn hc.1.2.2.2
    · rw [succ_k (by omega)]
      refine ⟨⟨hA, k + 1, rfl, by omega, fun j z hj hz => ?_⟩, by simp only; omega⟩
      by_cases hjk : j = k
      · subst hjk
        rw [hy] at hz
        cases hz
        exact of_decide_eq_true hin
      · exact hall j z (by omega) hz
  · have hk4' : k = 4 := by omega
    subst hk4'
    have good : inQ 0 9007199254740992 x.f ∧ inQ 0 9007199254740992 x.g ∧ inQ 0 9007199254740992 x.h ∧ inQ 0 9007199254740992 x.i := ⟨hall 0 _ (by decide) rfl, hall 1 _ (by decide) rfl, hall 2 _ (by decide) rfl, hall 3 _ (by decide) rfl⟩
    refine at_callb hA (c14 _ _ _ w6) fun w12 hA hk hb => ⟨_, rfl, hk, brNB (fun hn => no (fun hc => of_decide_eq_false hn hc.2.1) hA) (fun h1 => ?_)⟩
    refine at_callb hA (c14 _ _ _ w12) fun w15 hA hk hb => ⟨_, rfl, hk, brNB (fun hn => no (fun hc => of_decide_eq_false hn hc.2.2.1) hA) (fun h2 => ?_)⟩
    refine at_callb hA (c14 _ _ _ w15) fun w18 hA hk hb => ⟨_, rfl, hk, brNB (fun hn => no (fun hc => of_decide_eq_false hn hc.2.2.2.1) hA) (fun h3 => ?_)⟩
    refine at_callb hA (c14 _ _ _ w18) fun w21 hA hk hb => ⟨_, rfl, hk, brNB (fun hn => no (fun hc => of_decide_eq_false hn hc.2.2.2.2.1) hA) (fun h4 => ?_)⟩
    refine at_callb hA (c14 _ _ _ w21) fun w24 hA hk hb => ⟨_, rfl, hk, brNB (fun hn => no (fun hc => of_decide_eq_false hn hc.2.2.2.2.2) hA) (fun h5 => ?_)⟩
    rw [if_pos ⟨good, of_decide_eq_true h1, of_decide_eq_true h2, of_decide_eq_true h3, of_decide_eq_true h4, of_decide_eq_true h5⟩] at h
    exact leaf h hA rfl
theorem c7 (x : Cf) (w : World) : Ret Tryd.prog 7 #[x.v] w (.bool (decide (cR x))) := by
  intro R h
  refine f7_calls _ _ _ _ _ _ _ _ _ w R ?_
  unfold f7_vc
  have no : ∀ {gs w'}, ¬ cR x → At w gs w' → R (.returned (.bool false)) w' := fun hn hA => by
    rw [decide_eq_false hn] at h
    exact leaf h hA rfl
  refine opw_boxS (At.refl w) fun p w2 hp hA _ hb2 hpb => ⟨_, rfl, ?_⟩
  have hel : ∀ {W'}, Bel w2 W' → Elt W' ⟨p, 0, none⟩ x.cs := fun {W'} hb => elt_cells (ty := 24) (by rw [hb.block (Array.getElem?_eq_some_iff.1 hpb).1, hpb]; rfl)
  refine ⟨fun v W' => At w [] W' ∧ Bel w2 W' ∧ ∃ k : Nat, v.1 = k ∧ k ≤ 4 ∧ ∀ j y, j < k → [x.f, x.g, x.h, x.i][j]? = some y → inQ 0 9007199254740992 y, fun v _ => ((4 : Int) - v.1).toNat, ⟨hA, (At.refl w2).below, 0, rfl, Nat.zero_le _, fun j y hj => by omega⟩, ?_⟩
  rintro x6 w7 ⟨hA, hb, k, hk, hk4, hall⟩
  simp only at hk
  subst hk
  refine brD (fun hlt => ?_) (fun _ => ?_)
  · have hk3 : k < 4 := by omega
    obtain ⟨y, hx⟩ : ∃ y, [x.f, x.g, x.h, x.i][k]? = some y := ⟨_, List.getElem?_eq_getElem (by simpa using hk3)⟩
    have hcell := ((hel hb).sub (o := 5) (by decide)) k (.int .i64 y) (by
      have : k = 0 ∨ k = 1 ∨ k = 2 ∨ k = 3 := by omega
      rcases this with rfl | rfl | rfl | rfl <;> (simp at hx; subst hx; rfl))
    refine ⟨Addr.add ⟨p, 0 + 5, none⟩ (k * 1), gives_index_arr (e := 2) (by kernel_rfl) (by kernel_rfl) hk3, y, reads_one (by kernel_rfl) (fun d hd => by cases hd) (by rw [Nat.mul_one]; exact hcell), ?_⟩
    refine at_callb hA (c13 y 0 9007199254740992 w7) fun w11 hA _ hb11 => ⟨_, rfl, brNB (fun hn => no (fun hc => ?_) hA) (fun hin => ?_)⟩
    · have hn := of_decide_eq_false hn
      have : k = 0 ∨ k = 1 ∨ k = 2 ∨ k = 3 := by omega
      rcases this with rfl | rfl | rfl | rfl <;> (simp at hx; subst hx)
      · exact hn hc.1.1
      · exact hn hc.1.2.1
      · exact hn hc.1.2.2.1
      · exact hn hc.1.2.2.2
    · rw [succ_k (by omega)]
      refine ⟨⟨hA, hb.trans hb11, k + 1, rfl, by omega, fun j z hj hz => ?_⟩, by simp only; omega⟩
      by_cases hjk : j = k
      · subst hjk
        rw [hx] at hz
        cases hz
        exact of_decide_eq_true hin
      · exact hall j z (by omega) hz
  · have hk4' : k = 4 := by omega
    subst hk4'
    have good : inQ 0 9007199254740992 x.f ∧ inQ 0 9007199254740992 x.g ∧ inQ 0 9007199254740992 x.h ∧ inQ 0 9007199254740992 x.i := ⟨hall 0 _ (by decide) rfl, hall 1 _ (by decide) rfl, hall 2 _ (by decide) rfl, hall 3 _ (by decide) rfl⟩
    refine ⟨_, (hel hb).one (by kernel_rfl) (by simp), ?_⟩
    refine at_callb hA (c13 _ _ _ w7) fun w15 hA _ hb15 => ⟨_, rfl, brB (fun h1 => ?_) (fun hn => no (fun hc => of_decide_eq_false hn hc.2.1) hA)⟩
    have hb := hb.trans hb15
    refine ⟨_, ((hel hb).sub (o := 1) (by decide)).one (by kernel_rfl) (by simp), ?_⟩
    refine at_callb hA (c13 _ _ _ w15) fun w19 hA _ hb19 => ⟨_, rfl, brB (fun h2 => ?_) (fun hn => no (fun hc => of_decide_eq_false hn hc.2.2.1) hA)⟩
    have hb := hb.trans hb19
    refine ⟨_, ((hel hb).sub (o := 2) (by decide)).one (by kernel_rfl) (by simp), ?_⟩
    refine at_callb hA (c13 _ _ _ w19) fun w23 hA _ hb23 => ⟨_, rfl, brB (fun h3 => ?_) (fun hn => no (fun hc => of_decide_eq_false hn hc.2.2.2.1) hA)⟩
    have hb := hb.trans hb23
    refine ⟨_, ((hel hb).sub (o := 3) (by decide)).one (by kernel_rfl) (by simp), ?_⟩
    refine at_callb hA (c13 _ _ _ w23) fun w27 hA _ hb27 => ⟨_, rfl, brB (fun h4 => ?_) (fun hn => no (fun hc => of_decide_eq_false hn hc.2.2.2.2.1) hA)⟩
    have hb := hb.trans hb27
    refine ⟨_, ((hel hb).sub (o := 4) (by decide)).one (by kernel_rfl) (by simp), brD (fun h5 => ⟨_, ((hel hb).sub (o := 4) (by decide)).one (by kernel_rfl) (by simp), ?_⟩) (fun hn => no (fun hc => hn hc.2.2.2.2.2.1) hA)⟩
    refine leaf h hA (congrArg (fun x => Ending.returned (Value.bool x)) (decide_eq_decide.2 ⟨fun h6 => ⟨good, of_decide_eq_true h1, of_decide_eq_true h2, of_decide_eq_true h3, of_decide_eq_true h4, h5, h6⟩, fun hc => hc.2.2.2.2.2.2⟩))
/-- The book that a configuration begins with. -/
abbrev bkV (x : Cf) : Value := .agg #[.int .i64 x.a, .int .i64 x.b, .int .i64 x.c, .int .i64 x.d, .int .i64 x.e, .int .i64 x.f, .int .i64 x.g, .int .i64 x.h, .int .i64 x.i, .int .i64 0, .int .i64 0, .slice none 0 0, .slice none 0 0, .slice none 0 0, .slice none 0 0, .slice none 0 0]
def startV (x : Cf) : Value := if cR x then .tuple #[bkV x, .int .i64 0] else .tuple #[bkV zC, .int .i64 41]
theorem c6 (x : Cf) (w : World) : Ret Tryd.prog 6 #[x.v] w (startV x) := by
  intro R h
  refine f6_calls _ _ _ _ _ _ _ _ _ w R ?_
  unfold f6_vc
  unfold startV at h
  intro n1 hn1 n2 hn2 w3 hb3 hu3
  have hA : At w [n1, n2] w3 := ⟨((At.refl w).call hb3).chg, hu3⟩
  refine at_callb hA (c8 x w3) fun w5 hA hk hb => ⟨_, rfl, hk, ?_⟩
  by_cases hc : cR x
  · rw [if_pos hc] at h ⊢
    exact ⟨fun e => (by cases e), fun _ w8 hev hu => leaf h (hA.evo (by intro d hd; simp at hd; omega) hev hu) rfl⟩
  · rw [if_neg hc] at h ⊢
    exact ⟨fun _ w8 hev hu => leaf h (hA.evo (by intro d hd; simp at hd; omega) hev hu) rfl, fun e => (by cases e)⟩
end Go.Vc.K

/-
  DERIVED: THE SHELF's CONTRACTS AT THIS DUMP, IN PLAIN WORDS (tools/lay-plain.mjs out of 'StShelf0.lean', which tools/lay-shelf.mjs wrote): THE SAME DECLARATIONS UNDER THE SAME NAMES: 'import', 'namespace', 'open', 'def', 'theorem' AND NOTHING ELSE: no command of the shelf's: FOR A HAND-IN. Each laying: the table of numbers ('.._ren') and one theorem, a field a fact of the dump's own or the kernel's comparison; each contract: ONE APPLICATION.
-/
namespace Go.Proofs
open Go.Shelf
def Tryd.lays156_ren : Go.Shelf.Ren := ⟨fun | 156 => 20 | 165 => 23 | 166 => 24 | 169 => 25 | 240 => 29 | 241 => 30 | 276 => 35 | 277 => 36 | n => n, fun | 31 => 46 | 9 => 9 | 3 => 3 | 4 => 4 | 0 => 0 | 20 => 20 | 72 => 57 | 76 => 61 | 70 => 55 | 37 => 54 | 75 => 60 | 127 => 66 | 164 => 71 | 5 => 5 | 80 => 63 | n => n, fun | n => n⟩
theorem Tryd.lays156 : Go.Proofs.Lays.n156 Tryd.prog Tryd.lays156_ren := {
  mixed := by kernel_rfl
  f156 := Tryd.func20.trans (congrArg some (by kernel_rfl))
  f165 := Tryd.func23.trans (congrArg some (by kernel_rfl))
  f166 := Tryd.func24.trans (congrArg some (by kernel_rfl))
  f169 := Tryd.func25.trans (congrArg some (by kernel_rfl))
  f240 := Tryd.func29.trans (congrArg some (by kernel_rfl))
  f241 := Tryd.func30.trans (congrArg some (by kernel_rfl))
  f276 := Tryd.func35.trans (congrArg some (by kernel_rfl))
  f277 := Tryd.func36.trans (congrArg some (by kernel_rfl))
  t0 := Tryd.underlying0
  a0 := Tryd.isAgg0
  z0 := Tryd.sizeOf0
  v0 := Tryd.zeroValue0
  t3 := Tryd.underlying3
  a3 := Tryd.isAgg3
  z3 := Tryd.sizeOf3
  v3 := Tryd.zeroValue3
  t4 := Tryd.underlying4
  a4 := Tryd.isAgg4
  z4 := Tryd.sizeOf4
  v4 := Tryd.zeroValue4
  t9 := Tryd.underlying9
  a9 := Tryd.isAgg9
  z9 := Tryd.sizeOf9
  v9 := Tryd.zeroValue9
  t20 := Tryd.underlying20
  a20 := Tryd.isAgg20
  z20 := Tryd.sizeOf20
  v20 := Tryd.zeroValue20
  t31 := Tryd.underlying46
  a31 := Tryd.isAgg46
  z31 := Tryd.sizeOf46
  v31 := Tryd.zeroValue46
  t37 := Tryd.underlying54
  a37 := Tryd.isAgg54
  z37 := Tryd.sizeOf54
  v37 := Tryd.zeroValue54
  t70 := Tryd.underlying55
  a70 := Tryd.isAgg55
  z70 := Tryd.sizeOf55
  v70 := Tryd.zeroValue55
  t72 := Tryd.underlying57
  a72 := Tryd.isAgg57
  z72 := Tryd.sizeOf57
  v72 := Tryd.zeroValue57
  t75 := Tryd.underlying60
  a75 := Tryd.isAgg60
  z75 := Tryd.sizeOf60
  v75 := Tryd.zeroValue60
  t76 := Tryd.underlying61
  a76 := Tryd.isAgg61
  z76 := Tryd.sizeOf61
  v76 := Tryd.zeroValue61
  t127 := Tryd.underlying66
  a127 := Tryd.isAgg66
  z127 := Tryd.sizeOf66
  v127 := Tryd.zeroValue66
  t164 := Tryd.underlying71
  a164 := Tryd.isAgg71
  z164 := Tryd.sizeOf71
  v164 := Tryd.zeroValue71 }
theorem Tryd.Builder_Extra_156 : Builder.Extra Tryd.prog Tryd.lays156_ren := {
  sizeBuilder := by kernel_rfl
  liesBuilder := by kernel_rfl
  t5 := Tryd.underlying5
  a5 := Tryd.isAgg5
  z5 := Tryd.sizeOf5
  v5 := Tryd.zeroValue5
  infoByte := by kernel_rfl
  cellsByte := by kernel_rfl
  sizeByte := by kernel_rfl
  neB5 := by decide }
open Go.RowKit in
/-- No element: the empty string; the world is as it was. (Whatever the slice's address and capacity: a nil slice too.) (LAID: no walk: one application.) -/
theorem Tryd.strings_Join_none (a : Option Addr) (c : Nat) (sep : ByteArray) (w : World) :
    Calls Tryd.prog 20 #[.slice a 0 c, .string sep] w fun e w' => e = .returned (.string ⟨#[]⟩) ∧ w' = w := Any.strings_Join_none Tryd.lays156 Tryd.Builder_Extra_156 a c sep w
open Go.RowKit in
/-- strings.Join: "Join concatenates the elements of its first argument to create a single string. The separator string sep is placed between elements in the resulting string.": HOWEVER MANY ELEMENTS. Below the heap's end the world is as it was. (LAID: no walk: one application.) -/
theorem Tryd.strings_Join (bk o c : Nat) (xs : List ByteArray) (sep : ByteArray) (w : World) (hcells : ∀ (j : Nat) x, xs[j]? = some x → w.cell? ⟨bk, o + j, none⟩ = some (.string x)) (hbk : bk < w.heap.size) (hN : xs.length ≤ 140737488355328) (hcap : xs.length ≤ c) (hlen : (Lib.join (xs.map (·.data.toList)) sep.data.toList).length ≤ 140737488355328) :
    Calls Tryd.prog 20 #[.slice (some ⟨bk, o, none⟩) xs.length c, .string sep] w fun e w' => e = .returned (.string ⟨(Lib.join (xs.map (·.data.toList)) sep.data.toList).toArray⟩) ∧ Below w.heap.size w w' := Any.strings_Join Tryd.lays156 Tryd.Builder_Extra_156 bk o c xs sep w hcells hbk hN hcap hlen
open Go.RowKit Go.Lib in
/-- strings.Cut: "Cut slices s around the first instance of sep, returning the text before and after sep. The found result reports whether sep appears in s. If sep does not appear in s, cut returns s, "", false.": IT RETURNS 'Lib.cut s sep'; the world is as it was but for the count of draws. (LAID: no walk: one application.) -/
def Tryd.lays146_ren : Go.Shelf.Ren := ⟨fun | 146 => 16 | 221 => 22 | 268 => 26 | 138 => 27 | 143 => 28 | 195 => 31 | 197 => 32 | 218 => 33 | 219 => 34 | 260 => 37 | 217 => 38 | 225 => 39 | 224 => 40 | 267 => 41 | 266 => 42 | 314 => 43 | n => n, fun | 9 => 9 | 31 => 46 | 3 => 3 | 4 => 4 | 0 => 0 | 105 => 68 | 21 => 21 | 5 => 5 | 46 => 75 | 119 => 76 | 139 => 79 | 138 => 78 | 146 => 81 | 51 => 80 | n => n, fun | 1 => 0 | 3 => 1 | 4 => 2 | n => n⟩
theorem Tryd.lays146 : Go.Proofs.Lays.n146 Tryd.prog Tryd.lays146_ren := {
  mixed := by kernel_rfl
  f138 := Tryd.func27.trans (congrArg some (by kernel_rfl))
  f143 := Tryd.func28.trans (congrArg some (by kernel_rfl))
  f146 := Tryd.func16.trans (congrArg some (by kernel_rfl))
  f195 := Tryd.func31.trans (congrArg some (by kernel_rfl))
  f197 := Tryd.func32.trans (congrArg some (by kernel_rfl))
  f217 := Tryd.func38.trans (congrArg some (by kernel_rfl))
  f218 := Tryd.func33.trans (congrArg some (by kernel_rfl))
  f219 := Tryd.func34.trans (congrArg some (by kernel_rfl))
  f221 := Tryd.func22.trans (congrArg some (by kernel_rfl))
  f224 := Tryd.func40.trans (congrArg some (by kernel_rfl))
  f225 := Tryd.func39.trans (congrArg some (by kernel_rfl))
  f260 := Tryd.func37.trans (congrArg some (by kernel_rfl))
  f266 := Tryd.func42.trans (congrArg some (by kernel_rfl))
  f267 := Tryd.func41.trans (congrArg some (by kernel_rfl))
  f268 := Tryd.func26.trans (congrArg some (by kernel_rfl))
  f314 := Tryd.func43.trans (congrArg some (by kernel_rfl))
  t0 := Tryd.underlying0
  a0 := Tryd.isAgg0
  z0 := Tryd.sizeOf0
  v0 := Tryd.zeroValue0
  t3 := Tryd.underlying3
  a3 := Tryd.isAgg3
  z3 := Tryd.sizeOf3
  v3 := Tryd.zeroValue3
  t4 := Tryd.underlying4
  a4 := Tryd.isAgg4
  z4 := Tryd.sizeOf4
  v4 := Tryd.zeroValue4
  t5 := Tryd.underlying5
  a5 := Tryd.isAgg5
  z5 := Tryd.sizeOf5
  v5 := Tryd.zeroValue5
  t9 := Tryd.underlying9
  a9 := Tryd.isAgg9
  z9 := Tryd.sizeOf9
  v9 := Tryd.zeroValue9
  t21 := Tryd.underlying21
  a21 := Tryd.isAgg21
  z21 := Tryd.sizeOf21
  v21 := Tryd.zeroValue21
  t31 := Tryd.underlying46
  a31 := Tryd.isAgg46
  z31 := Tryd.sizeOf46
  v31 := Tryd.zeroValue46
  t46 := Tryd.underlying75
  a46 := Tryd.isAgg75
  z46 := Tryd.sizeOf75
  v46 := Tryd.zeroValue75
  t51 := Tryd.underlying80
  a51 := Tryd.isAgg80
  z51 := Tryd.sizeOf80
  v51 := Tryd.zeroValue80
  t105 := Tryd.underlying68
  a105 := Tryd.isAgg68
  z105 := Tryd.sizeOf68
  v105 := Tryd.zeroValue68
  t119 := Tryd.underlying76
  a119 := Tryd.isAgg76
  z119 := Tryd.sizeOf76
  t138 := Tryd.underlying78
  a138 := Tryd.isAgg78
  z138 := Tryd.sizeOf78
  v138 := Tryd.zeroValue78
  t139 := Tryd.underlying79
  a139 := Tryd.isAgg79
  z139 := Tryd.sizeOf79
  v139 := Tryd.zeroValue79
  t146 := Tryd.underlying81
  a146 := Tryd.isAgg81
  z146 := Tryd.sizeOf81
  v146 := Tryd.zeroValue81
  g1 := by kernel_rfl
  g3 := by kernel_rfl
  g4 := by kernel_rfl }
open Go.RowKit Go.Lib in
/-- strings.Split. (LAID: no walk: one application.) -/
theorem Tryd.strings_Split (s sep : ByteArray) (m : Int) (w : World) (hs : s.size < 4294967281) (hm : w.cell? ⟨0, 0, none⟩ = some (.int .i64 m)) (h1 : 1 ≤ sep.size) :
    Calls Tryd.prog 16 #[.string s, .string sep] w fun e w' =>
      e = .returned (.slice (some ⟨w.heap.size, 0, none⟩) (Lib.countB s sep + 1) (Lib.countB s sep + 1)) ∧ w' = w.alloc (.cells ((Lib.splitB sep 0 (Lib.countB s sep) s).map Value.string).toArray 9) := Any.strings_Split Tryd.lays146 (by kernel_rfl) s sep m w hs hm h1
end Go.Proofs

/- Configurations: digits, numbers read, texts. -/
set_option maxRecDepth 20000
set_option maxHeartbeats 1000000
namespace Go.Vc.K
open Go Go.Vc Go.RowKit Go.Proofs Vck

variable {w W W' : World} {M : Nat → Prop} {gs : List Nat}

theorem u8_digit {x : Int} (h : 0 ≤ x) : IntKind.u8.wrap (IntKind.i64.wrap (48 + x.tmod 10)) = 48 + x % 10 := by
  rw [Int.tmod_eq_emod_of_nonneg h, wrap_i64 (by omega) (by omega), wrap_u8]
  omega
theorem strOfNums_size (l : List Int) : (strOfNums l).size = l.length := by simp [strOfNums, ByteArray.size]
/-- A number's digits. -/
noncomputable def dS (n : Int) : ByteArray := strOfNums (decL n 1)
theorem c19 (n : Int) (h0 : 0 ≤ n) (h1 : n ≤ 9223372036854775807) (w : World) : Ret Tryd.prog 19 #[.int .i64 n] w (.string (dS n)) := by
  unfold dS
  intro R h
  refine f19_calls n w R ?_
  unfold f19_vc
  have hA := At.refl w
  refine brD (fun hlt => ?_) (fun hge => ?_)
  · have e : IntKind.u8.wrap (IntKind.i64.wrap (48 + n)) = 48 + n := by
      rw [wrap_i64 (by omega) (by omega), wrap_u8]
      omega
    rw [e]
    refine opw_lit hA (e' := 5) (cs := u8e (48 + n)) (by kernel_rfl) fun w' hA hk hbw hc hh => ⟨_, _, _, rfl, ?_⟩
    have ho : OwnL w [] w' 5 1 u8e (.slice (some ⟨w.heap.size, 0, none⟩) 1 1) [48 + n] :=
      OwnL.of ⟨rfl, .inr ⟨_, 1, _, rfl, Nat.le_refl _, hh, Nat.le_refl _, by decide, rfl, rfl⟩⟩ (fun _ h => by cases h)
    refine opw_b2s (e := 5) (by kernel_rfl) (by kernel_rfl) (by kernel_rfl) (ho.sl (by simp)) ⟨_, rfl, ?_⟩
    exact leaf h hA (by rw [digit1 ⟨h0, by omega⟩])
  · rw [Int.tdiv_eq_ediv_of_nonneg h0, Int.tmod_eq_emod_of_nonneg h0, wrap_i64 (x := n / 10) (by omega) (by omega)]
    refine at_call hA (c19 (n / 10) (by omega) (by omega) _) (fun _ hA hk => ⟨_, rfl, ?_⟩)
    refine at_call hA (c19 (n % 10) (by omega) (by omega) _) (fun _ hA hk => ⟨_, rfl, ?_⟩)
    have d1 := dec_small (n := n / 10) (by omega)
    have d2 := dec_small (n := n % 10) (by omega)
    unfold dS
    refine ⟨_, gives_sadd (by omega), ?_⟩
    refine leaf h hA ?_
    rw [strOfNums_append, digit1 (d := n % 10) (by omega), decL.eq_def n 1, if_pos (.inl (by omega)), decL_one _ (1 - 1) (by omega)]
termination_by n.toNat
decreasing_by
  all_goals omega
theorem c21 (n : Int) (w : World) (hn : 0 ≤ n ∧ n ≤ 9223372036854775807) : Ret Tryd.prog 21 #[.int .i64 n] w (.string (dS n)) := by
  unfold dS
  intro R h
  refine f21_calls n w R ?_
  unfold f21_vc
  have hA := At.refl w
  have hlen := decL_short 18 n hn.1 (by omega)
  refine ⟨fun s W => At w [] W ∧ ∃ t : List Int, s.2.1 = strOfNums t ∧ (0 ≤ s.1 ∧ s.1 ≤ n) ∧ (if s.2.2.1 = true then decL s.1 1 ++ t = decL n 1 else t = decL n 1), fun s _ => if s.2.2.1 = true then s.1.toNat + 1 else 0, ⟨hA, [], rfl, by show 0 ≤ n ∧ n ≤ n; omega, by simp⟩, ?_⟩
  intro x s b W ⟨hA, t, hs, hx, ht⟩
  simp only at hs hx ht
  subst hs
  refine brB (fun hb => ?_) (fun hb => ?_)
  · rw [if_pos hb] at ht
    rw [u8_digit hx.1, Int.tdiv_eq_ediv_of_nonneg hx.1, wrap_i64 (by omega) (by omega)]
    refine opw_lit hA (e' := 5) (cs := u8e (48 + x % 10)) (by kernel_rfl) fun w' hA hk hbw hc hh => ⟨_, _, _, rfl, ?_⟩
    have ho : OwnL w [] w' 5 1 u8e (.slice (some ⟨W.heap.size, 0, none⟩) 1 1) [48 + x % 10] :=
      OwnL.of ⟨rfl, .inr ⟨_, 1, _, rfl, (by assumption : At w [] W).size, hh, Nat.le_refl _, by decide, rfl, rfl⟩⟩ (fun _ h => by cases h)
    refine opw_b2s (e := 5) (by kernel_rfl) (by kernel_rfl) (by kernel_rfl) (ho.sl (by simp)) ⟨_, rfl, ?_⟩
    have hsz : (strOfNums [48 + x % 10]).size + (strOfNums t).size ≤ 9223372036854775807 := by
      rw [strOfNums_size, strOfNums_size]
      have := congrArg List.length ht
      rw [List.length_append] at this
      simp
      omega
    refine ⟨_, gives_sadd hsz, ?_⟩
    rw [strOfNums_append]
    have hst : (if 0 < x / 10 then decL (x / 10) 1 ++ ([48 + x % 10] ++ t) = decL n 1 else [48 + x % 10] ++ t = decL n 1) := by
      rw [decL] at ht
      by_cases h10 : 10 ≤ x
      · rw [if_pos (.inl h10), decL_one _ (1 - 1) (by omega)] at ht
        rw [if_pos (by omega), ← ht, List.append_assoc]
      · rw [if_neg (by omega)] at ht
        rw [if_neg (by omega), ← ht]
    refine ⟨⟨hA, _, rfl, by show 0 ≤ x / 10 ∧ x / 10 ≤ n; omega, ?_⟩, ?_⟩
    · simp only [decide_eq_true_eq]
      exact hst
    · simp only [decide_eq_true_eq, hb, if_true]
      split <;> omega
  · rw [if_neg (by rw [hb]; decide)] at ht
    exact leaf h hA (by rw [ht])

/-! ### A number read -/
def numO : List Int → Int → Option Int
  | [], n => some n
  | c :: r, n => if c < 48 ∨ c > 57 ∨ n > 9007199254740992 then none else numO r (n * 10 + (c - 48))
def numB (s : ByteArray) : Int := (numO (bytesOf s) 0).getD (-1)
theorem numO_append : ∀ (a b : List Int) (n : Int), numO (a ++ b) n = (numO a n).bind (numO b)
  | [], b, n => rfl
  | c :: a, b, n => by
    simp only [List.cons_append, numO]
    split
    · rfl
    · exact numO_append a b _
theorem num_dec (n : Int) (h0 : 0 ≤ n) (h1 : n ≤ 9007199254740992) : numO (decL n 1) 0 = some n := by
  rw [decL]
  split
  · rename_i h
    rw [decL_one _ (1 - 1) (by omega), numO_append, num_dec (n / 10) (by omega) (by omega)]
    simp only [Option.bind_some, numO]
    rw [if_neg (by omega)]
    congr 1
    omega
  · rename_i h
    simp only [numO]
    rw [if_neg (by omega)]
    congr 1
    omega
termination_by n.toNat
decreasing_by omega
theorem bytesOf_range (s : ByteArray) : ∀ c ∈ bytesOf s, 0 ≤ c ∧ c < 256 := fun c hc => by
  obtain ⟨b, _, rfl⟩ := List.mem_map.1 hc
  have := b.toBitVec.isLt
  have : b.toNat < 256 := this
  omega
theorem c17 (s : ByteArray) (hs : s.size ≤ maxLen) (w : World) : Ret Tryd.prog 17 #[.string s] w (.int .i64 (numB s)) := by
  intro R h
  refine f17_calls s w R ?_
  unfold f17_vc
  unfold numB at h
  refine opw_s2b (At.refl w) (by kernel_rfl) (e := 5) (by kernel_rfl) (by kernel_rfl) hs fun a c w2 hA _ hb hsl => ⟨_, _, _, rfl, ?_⟩
  have hlen := bytesOf_len s
  have hs : s.size ≤ 9223372036854775807 := by unfold maxLen at hs; omega
  refine ⟨fun v W' => At w [] W' ∧ Bel w2 W' ∧ ∃ i : Nat, v.2.1 = i ∧ i ≤ (bytesOf s).length ∧ 0 ≤ v.1 ∧ v.1 ≤ 90071992547409930 ∧ numO ((bytesOf s).drop i) v.1 = numO (bytesOf s) 0, fun v _ => ((s.size : Int) - v.2.1).toNat, ⟨hA, Bel.refl _, 0, rfl, Nat.zero_le _, Int.le_refl _, by show (0 : Int) ≤ _; decide, rfl⟩, ?_⟩
  rintro n x9 w10 ⟨hA, hb10, i, hi, hil, hn0, hn1, hd⟩
  simp only at hi hn0 hn1 hd
  subst hi
  refine brD (fun hlt => ?_) (fun hge => leaf h hA ?_)
  · obtain ⟨p, hp⟩ : ∃ x, (bytesOf s)[i]? = some x := ⟨_, List.getElem?_eq_getElem (by omega)⟩
    have hr := bytesOf_range s p (List.mem_of_getElem? hp)
    obtain ⟨ad, g1, r1⟩ := rd_one (P := Tryd.prog) (k := .i64) (t := 54) (te := 5) (e := 5) (ds := []) (hsl.call hb10) hp rfl (by kernel_rfl) (by kernel_rfl) (by kernel_rfl) (fun _ h => by cases h)
    have hdr : (bytesOf s).drop i = p :: (bytesOf s).drop (i + 1) := by
      rw [List.drop_eq_getElem_cons (by omega)]
      congr 1
      have := List.getElem?_eq_getElem (l := bytesOf s) (i := i) (by omega)
      rw [hp] at this
      exact (Option.some.inj this).symm
    rw [hdr, numO] at hd
    have bad : (p < 48 ∨ p > 57 ∨ n > 9007199254740992) → R (.returned (.int .i64 (-1))) w10 := fun hx => by
      rw [if_pos hx] at hd
      rw [← hd] at h
      exact leaf h hA rfl
    refine ⟨ad, g1, _, r1, brD (fun hx => bad (.inl hx)) (fun h1 => brD (fun hx => bad (.inr (.inl hx))) (fun h2 => brD (fun hx => bad (.inr (.inr hx))) (fun h3 => ?_)))⟩
    rw [if_neg (by omega)] at hd
    rw [wrap_u8, show (p - 48) % 256 = p - 48 by omega, wrap_i64 (x := p - 48) (by omega) (by omega), wrap_i64 (x := n * 10) (by omega) (by omega), wrap_i64 (x := n * 10 + (p - 48)) (by omega) (by omega), wrap_i64 (x := (i : Int) + 1) (by omega) (by omega)]
    exact ⟨⟨hA, hb10, i + 1, by simp only; omega, by omega, by simp only; omega, by simp only; omega, hd⟩, by simp only; omega⟩
  · rw [show i = (bytesOf s).length by omega, List.drop_length, numO] at hd
    rw [← hd]
    rfl
end Go.Vc.K

/- Calls of functions' values. -/
namespace Go.Vc
open Go Go.RowKit
section
variable {P : Program} {w W : World} {M : Nat → Prop} {gs : List Nat} {fv : Value}

/-- A call of a function's value that returns a value, and changes nothing. -/
def RetI (P : Program) (fv : Value) (args : Array Value) (W : World) (v : Value) : Prop := ∀ K : Value → World → Prop, (∀ w', Bel W w' → K v w') → OpW P (invokeS fv args) W K
theorem opw_invoke {f : FuncId} {first cap args : Array Value} {K : Value → World → Prop} (he : pureRun P (invokeS (.func (.func f) first cap) args) = some (.enter f ((first ++ args) ++ cap))) (h : Calls P f ((first ++ args) ++ cap) W fun e w' => ∃ v, e = .returned v ∧ K v w') : OpW P (invokeS (.func (.func f) first cap) args) W K := by
  unfold OpW
  rw [pureRun_run he W]
  exact h
theorem RetI.of {f : FuncId} {first cap args : Array Value} {v : Value} (he : pureRun P (invokeS (.func (.func f) first cap) args) = some (.enter f ((first ++ args) ++ cap))) (h : Ret P f ((first ++ args) ++ cap) W v) : RetI P (.func (.func f) first cap) args W v := fun _ hK => opw_invoke he (h _ fun w' hb => ⟨v, rfl, hK w' hb⟩)
theorem at_inv {args : Array Value} {v : Value} {K : Value → World → Prop} (hA : AtF w M gs W) (hc : RetI P fv args W v) (hK : ∀ w', AtF w M gs w' → Keeps gs W w' → Bel W w' → K v w') : OpW P (invokeS fv args) W K := hc K fun w' hb => hK w' (hA.call hb) (hA.keeps hb) hb
end
end Go.Vc

